/- Steps of the proof, joined from several texts: YA Y HA ME XD. -/
import Derived.Test.YthjamohaeahipaaZ7
import Derived.Test.YthjamohaeahipaaZ3
import Derived.Test.YthjamohaeahipaaZ5
import Derived.Test.YthjamohaeahipaaZ6
import Derived.Lib.AppendZerosOnto
import Derived.Lib.AppendZeros

/- The letters of two blocks that change places. -/
namespace Go.Proofs.Ythjamohaeahipaa
open Go.RowKit

def swRow (p s : Int) : Nat → List Int
  | 0 => []
  | k + 1 => (s * (p + (k : Int) + 1)) :: swRow p s k
def swTo (place s : Int) (a : Nat) : Nat → List Int
  | 0 => []
  | t + 1 => swTo place s a t ++ swRow (place + (t : Int)) s a
theorem swRow_length (p s : Int) (a : Nat) : (swRow p s a).length = a := by
  induction a with
  | zero => rfl
  | succ a ih => simp [swRow, ih]
theorem swTo_length (place s : Int) (a b : Nat) : (swTo place s a b).length = a * b := by
  induction b with
  | zero => rfl
  | succ b ih => rw [swTo, List.length_append, ih, swRow_length, Nat.mul_succ]

set_option maxHeartbeats 2000000 in
set_option maxRecDepth 10000 in
theorem spec_l03Swap_p (place : Int) (a b : Nat) (w : World) (hp : 0 ≤ place ∧ place ≤ 1000) (ha : a ≤ 100) (hb : b ≤ 100) :
    Calls Try.prog 54 #[.int .i64 place, .int .i64 a, .int .i64 b, .int .i64 1] w fun e w' => ∃ A' c', e = .returned (.slice A' (swTo place 1 a b).length c') ∧ OwnI w' w.heap.size w'.heap.size A' c' (swTo place 1 a b) ∧ Below w.heap.size w w' := by
  obtain ⟨i0, hi0, hz0, hz1, hz2⟩ := info_parts info_int64
  obtain ⟨hp0, hp1⟩ := hp
  have o1 := (OwnC.lit (w := w) (lo := w.heap.size) (n := 0) 2 1 #[] (Nat.le_refl _) (Nat.zero_le _) rfl).mono (Nat.le_refl _) (show w.heap.size + 1 ≤ (w.alloc (.cells #[] 2)).heap.size by simp)
  have O1 := Lib.hid o1; clear o1
  have hb1 : Below w.heap.size w (w.alloc (.cells #[] 2)) := by (repeat (first | exact Below.refl _ _ | assumption | apply Below.drew | apply below_drewN | (refine Below.alloc ?_ (by first | omega | (simp; done) | (simp; omega)) _) | (refine Below.setCell ?_ (by first | omega | (simp; done) | (simp; omega)) _)))
  go_enter Try.func54, Try.ntmps54
  go_wp2_with (fail)
  go_loopw [9, 10] (fun ov tv wr => ∃ (t : Nat) (A' : Option Addr) (c' : Nat) (out : List Int), t ≤ b ∧ tv = .int .i64 t ∧ ov = .slice A' out.length c' ∧ OwnI wr w.heap.size wr.heap.size A' c' out ∧ Below w.heap.size w wr ∧ Hid (out = swTo place 1 a t) ∧ out.length ≤ 100 * t) (fun _ tv _ => b - (intOf tv).toNat)
  case atStart => exact ⟨0, some ⟨w.heap.size, 0, none⟩, 0, [], Nat.zero_le _, rfl, rfl, O1.out, hb1, Lib.hid rfl, by simp⟩
  case round =>
    obtain ⟨t, A', c', out, ht, rfl, rfl, ho, hbr, HO, hol⟩ := hrel
    have hzr := hbr.size
    by_cases htb : t < b
    · have hd : decide ((t : Int) < (b : Int)) = true := decide_eq_true (by omega)
      have HN : Hid (swTo place 1 a (t + 1) = out ++ swRow (place + (t : Int)) 1 a) := Lib.hid (by rw [swTo, HO.out])
      clear HO hd
      go_wp2_with (fail)
      go_loopw [9, 11] (fun ov kv ws => ∃ (j : Nat) (A3 : Option Addr) (c3 : Nat) (done : List Int), j ≤ a ∧ kv = .int .i64 ((j : Int) - 1) ∧ ov = .slice A3 done.length c3 ∧ OwnI ws w.heap.size ws.heap.size A3 c3 done ∧ Below w.heap.size w ws ∧ Hid (swTo place 1 a (t + 1) = done ++ swRow (place + (t : Int)) 1 j) ∧ done.length + j ≤ 100 * t + a) (fun _ kv _ => (intOf kv + 1).toNat)
      case atStart => exact ⟨a, A', c', out, Nat.le_refl _, rfl, rfl, ho, hbr, HN, by omega⟩
      case round =>
        clear ho hbr HN
        obtain ⟨j, A3, c3, done, hj, rfl, rfl, ho, hbs, HN, hdl⟩ := hrel
        have hzs := hbs.size
        cases j with
        | succ j =>
          have HN2 : Hid (swTo place 1 a (t + 1) = (done ++ [1 * (place + (t : Int) + (j : Int) + 1)]) ++ swRow (place + (t : Int)) 1 j) := Lib.hid (by rw [HN.out, swRow, List.append_assoc]; rfl)
          clear HN
          have e1 : ((j + 1 : Nat) : Int) - 1 = (j : Int) := by push_cast; omega
          rw [e1]
          have hd2 : decide ((j : Int) ≥ 0) = true := decide_eq_true (by omega)
          go_wp2_with (at_builtin; refine wpList_append1 wr [.int .i64 (place + (t : Int) + (j : Int) + 1)] _ rfl (.tmp 24) (.tmp 33) _ rfl 2 i0 _ 1 8 Try.underlying22 hi0 hz0 hz1 hz2 rfl (by decide) rfl ho hzs 1 rfl rfl (by simp [Value.oneCell']) (by omega) (by decide) ?_; intro A5 c5 w5 ho5 hg5 hb5 hz5)
          refine ⟨⟨j, A5, c5, done ++ [1 * (place + (t : Int) + (j : Int) + 1)], by omega, rfl, by simp, ?_, hbs.trans hb5, HN2, by simp; omega⟩, by first | (simp [intOf]; done) | (simp [intOf]; omega)⟩
          rw [show 1 * (place + (t : Int) + (j : Int) + 1) = (place + (t : Int) + (j : Int) + 1) by omega]
          show OwnC _ _ _ _ _ _ _ _ _
          rw [List.map_append, List.length_append]
          exact ho5
        | zero =>
          have HE : Hid (swTo place 1 a (t + 1) = done) := Lib.hid (by rw [HN.out, swRow, List.append_nil])
          clear HN
          have e1 : ((0 : Nat) : Int) - 1 = -1 := by omega
          rw [e1]
          go_wp2_with (fail)
          refine ⟨⟨t + 1, A3, c3, done, by omega, by go_num, rfl, ho, hbs, Lib.hid HE.out.symm, by omega⟩, by simp [intOf]; omega⟩
    · obtain rfl : t = b := by omega
      go_wp2_with (fail)
      go_ret
      rw [← HO.out]
      exact ⟨A', c', rfl, ho, hbr⟩

set_option maxHeartbeats 2000000 in
set_option maxRecDepth 10000 in
theorem spec_l03Swap_n (place : Int) (a b : Nat) (w : World) (hp : 0 ≤ place ∧ place ≤ 1000) (ha : a ≤ 100) (hb : b ≤ 100) :
    Calls Try.prog 54 #[.int .i64 place, .int .i64 a, .int .i64 b, .int .i64 (-1)] w fun e w' => ∃ A' c', e = .returned (.slice A' (swTo place (-1) a b).length c') ∧ OwnI w' w.heap.size w'.heap.size A' c' (swTo place (-1) a b) ∧ Below w.heap.size w w' := by
  obtain ⟨i0, hi0, hz0, hz1, hz2⟩ := info_parts info_int64
  obtain ⟨hp0, hp1⟩ := hp
  have o1 := (OwnC.lit (w := w) (lo := w.heap.size) (n := 0) 2 1 #[] (Nat.le_refl _) (Nat.zero_le _) rfl).mono (Nat.le_refl _) (show w.heap.size + 1 ≤ (w.alloc (.cells #[] 2)).heap.size by simp)
  have O1 := Lib.hid o1; clear o1
  have hb1 : Below w.heap.size w (w.alloc (.cells #[] 2)) := by (repeat (first | exact Below.refl _ _ | assumption | apply Below.drew | apply below_drewN | (refine Below.alloc ?_ (by first | omega | (simp; done) | (simp; omega)) _) | (refine Below.setCell ?_ (by first | omega | (simp; done) | (simp; omega)) _)))
  go_enter Try.func54, Try.ntmps54
  go_wp2_with (fail)
  go_loopw [9, 10] (fun ov tv wr => ∃ (t : Nat) (A' : Option Addr) (c' : Nat) (out : List Int), t ≤ b ∧ tv = .int .i64 t ∧ ov = .slice A' out.length c' ∧ OwnI wr w.heap.size wr.heap.size A' c' out ∧ Below w.heap.size w wr ∧ Hid (out = swTo place (-1) a t) ∧ out.length ≤ 100 * t) (fun _ tv _ => b - (intOf tv).toNat)
  case atStart => exact ⟨0, some ⟨w.heap.size, 0, none⟩, 0, [], Nat.zero_le _, rfl, rfl, O1.out, hb1, Lib.hid rfl, by simp⟩
  case round =>
    obtain ⟨t, A', c', out, ht, rfl, rfl, ho, hbr, HO, hol⟩ := hrel
    have hzr := hbr.size
    by_cases htb : t < b
    · have hd : decide ((t : Int) < (b : Int)) = true := decide_eq_true (by omega)
      have HN : Hid (swTo place (-1) a (t + 1) = out ++ swRow (place + (t : Int)) (-1) a) := Lib.hid (by rw [swTo, HO.out])
      clear HO hd
      go_wp2_with (fail)
      go_loopw [9, 11] (fun ov kv ws => ∃ (j : Nat) (A3 : Option Addr) (c3 : Nat) (done : List Int), j ≤ a ∧ kv = .int .i64 ((j : Int) - 1) ∧ ov = .slice A3 done.length c3 ∧ OwnI ws w.heap.size ws.heap.size A3 c3 done ∧ Below w.heap.size w ws ∧ Hid (swTo place (-1) a (t + 1) = done ++ swRow (place + (t : Int)) (-1) j) ∧ done.length + j ≤ 100 * t + a) (fun _ kv _ => (intOf kv + 1).toNat)
      case atStart => exact ⟨a, A', c', out, Nat.le_refl _, rfl, rfl, ho, hbr, HN, by omega⟩
      case round =>
        clear ho hbr HN
        obtain ⟨j, A3, c3, done, hj, rfl, rfl, ho, hbs, HN, hdl⟩ := hrel
        have hzs := hbs.size
        cases j with
        | succ j =>
          have HN2 : Hid (swTo place (-1) a (t + 1) = (done ++ [(-1) * (place + (t : Int) + (j : Int) + 1)]) ++ swRow (place + (t : Int)) (-1) j) := Lib.hid (by rw [HN.out, swRow, List.append_assoc]; rfl)
          clear HN
          have e1 : ((j + 1 : Nat) : Int) - 1 = (j : Int) := by push_cast; omega
          rw [e1]
          have hd2 : decide ((j : Int) ≥ 0) = true := decide_eq_true (by omega)
          go_wp2_with (at_builtin; refine wpList_append1 wr [.int .i64 (-(place + (t : Int) + (j : Int) + 1))] _ rfl (.tmp 24) (.tmp 33) _ rfl 2 i0 _ 1 8 Try.underlying22 hi0 hz0 hz1 hz2 rfl (by decide) rfl ho hzs 1 rfl rfl (by simp [Value.oneCell']) (by omega) (by decide) ?_; intro A5 c5 w5 ho5 hg5 hb5 hz5)
          refine ⟨⟨j, A5, c5, done ++ [(-1) * (place + (t : Int) + (j : Int) + 1)], by omega, rfl, by simp, ?_, hbs.trans hb5, HN2, by simp; omega⟩, by first | (simp [intOf]; done) | (simp [intOf]; omega)⟩
          rw [show (-1) * (place + (t : Int) + (j : Int) + 1) = (-(place + (t : Int) + (j : Int) + 1)) by omega]
          show OwnC _ _ _ _ _ _ _ _ _
          rw [List.map_append, List.length_append]
          exact ho5
        | zero =>
          have HE : Hid (swTo place (-1) a (t + 1) = done) := Lib.hid (by rw [HN.out, swRow, List.append_nil])
          clear HN
          have e1 : ((0 : Nat) : Int) - 1 = -1 := by omega
          rw [e1]
          go_wp2_with (fail)
          refine ⟨⟨t + 1, A3, c3, done, by omega, by go_num, rfl, ho, hbs, Lib.hid HE.out.symm, by omega⟩, by simp [intOf]; omega⟩
    · obtain rfl : t = b := by omega
      go_wp2_with (fail)
      go_ret
      rw [← HO.out]
      exact ⟨A', c', rfl, ho, hbr⟩

set_option maxHeartbeats 2000000 in
set_option maxRecDepth 10000 in
theorem impl_blockLetters_p (place : Int) (a b : Nat) (w : World) (hp : 0 ≤ place ∧ place ≤ 1000) (ha : a ≤ 100) (hb : b ≤ 100) :
    Calls Try.prog 77 #[.int .i64 place, .int .i64 a, .int .i64 b, .int .i64 1] w fun e w' => ∃ A' c', e = .returned (.slice A' (swTo place 1 a b).length c') ∧ OwnI w' w.heap.size w'.heap.size A' c' (swTo place 1 a b) ∧ Below w.heap.size w w' := by
  obtain ⟨i0, hi0, hz0, hz1, hz2⟩ := info_parts info_int64
  obtain ⟨hp0, hp1⟩ := hp
  have o1 := (OwnC.lit (w := w) (lo := w.heap.size) (n := 0) 2 1 #[] (Nat.le_refl _) (Nat.zero_le _) rfl).mono (Nat.le_refl _) (show w.heap.size + 1 ≤ (w.alloc (.cells #[] 2)).heap.size by simp)
  have O1 := Lib.hid o1; clear o1
  have hb1 : Below w.heap.size w (w.alloc (.cells #[] 2)) := by (repeat (first | exact Below.refl _ _ | assumption | apply Below.drew | apply below_drewN | (refine Below.alloc ?_ (by first | omega | (simp; done) | (simp; omega)) _) | (refine Below.setCell ?_ (by first | omega | (simp; done) | (simp; omega)) _)))
  go_enter Try.func77, Try.ntmps77
  go_wp2_with (fail)
  go_loopw [9, 14] (fun ov tv wr => ∃ (t : Nat) (A' : Option Addr) (c' : Nat) (out : List Int), t ≤ b ∧ tv = .int .i64 t ∧ ov = .slice A' out.length c' ∧ OwnI wr w.heap.size wr.heap.size A' c' out ∧ Below w.heap.size w wr ∧ Hid (out = swTo place 1 a t) ∧ out.length ≤ 100 * t) (fun _ tv _ => b - (intOf tv).toNat)
  case atStart => exact ⟨0, some ⟨w.heap.size, 0, none⟩, 0, [], Nat.zero_le _, rfl, rfl, O1.out, hb1, Lib.hid rfl, by simp⟩
  case round =>
    obtain ⟨t, A', c', out, ht, rfl, rfl, ho, hbr, HO, hol⟩ := hrel
    have hzr := hbr.size
    by_cases htb : t < b
    · have hd : decide ((t : Int) < (b : Int)) = true := decide_eq_true (by omega)
      have HN : Hid (swTo place 1 a (t + 1) = out ++ swRow (place + (t : Int)) 1 a) := Lib.hid (by rw [swTo, HO.out])
      clear HO hd
      go_wp2_with (fail)
      go_loopw [9, 11] (fun ov kv ws => ∃ (j : Nat) (A3 : Option Addr) (c3 : Nat) (done : List Int), j ≤ a ∧ kv = .int .i64 ((j : Int) - 1) ∧ ov = .slice A3 done.length c3 ∧ OwnI ws w.heap.size ws.heap.size A3 c3 done ∧ Below w.heap.size w ws ∧ Hid (swTo place 1 a (t + 1) = done ++ swRow (place + (t : Int)) 1 j) ∧ done.length + j ≤ 100 * t + a) (fun _ kv _ => (intOf kv + 1).toNat)
      case atStart => exact ⟨a, A', c', out, Nat.le_refl _, rfl, rfl, ho, hbr, HN, by omega⟩
      case round =>
        clear ho hbr HN
        obtain ⟨j, A3, c3, done, hj, rfl, rfl, ho, hbs, HN, hdl⟩ := hrel
        have hzs := hbs.size
        cases j with
        | succ j =>
          have HN2 : Hid (swTo place 1 a (t + 1) = (done ++ [1 * (place + (t : Int) + (j : Int) + 1)]) ++ swRow (place + (t : Int)) 1 j) := Lib.hid (by rw [HN.out, swRow, List.append_assoc]; rfl)
          clear HN
          have e1 : ((j + 1 : Nat) : Int) - 1 = (j : Int) := by push_cast; omega
          rw [e1]
          have hd2 : decide ((j : Int) ≥ 0) = true := decide_eq_true (by omega)
          go_wp2_with (at_builtin; refine wpList_append1 wr [.int .i64 (place + (t : Int) + (j : Int) + 1)] _ rfl (.tmp 23) (.tmp 32) _ rfl 2 i0 _ 1 8 Try.underlying22 hi0 hz0 hz1 hz2 rfl (by decide) rfl ho hzs 1 rfl rfl (by simp [Value.oneCell']) (by omega) (by decide) ?_; intro A5 c5 w5 ho5 hg5 hb5 hz5)
          refine ⟨⟨j, A5, c5, done ++ [1 * (place + (t : Int) + (j : Int) + 1)], by omega, rfl, by simp, ?_, hbs.trans hb5, HN2, by simp; omega⟩, by first | (simp [intOf]; done) | (simp [intOf]; omega)⟩
          rw [show 1 * (place + (t : Int) + (j : Int) + 1) = (place + (t : Int) + (j : Int) + 1) by omega]
          show OwnC _ _ _ _ _ _ _ _ _
          rw [List.map_append, List.length_append]
          exact ho5
        | zero =>
          have HE : Hid (swTo place 1 a (t + 1) = done) := Lib.hid (by rw [HN.out, swRow, List.append_nil])
          clear HN
          have e1 : ((0 : Nat) : Int) - 1 = -1 := by omega
          rw [e1]
          go_wp2_with (fail)
          refine ⟨⟨t + 1, A3, c3, done, by omega, by go_num, rfl, ho, hbs, Lib.hid HE.out.symm, by omega⟩, by simp [intOf]; omega⟩
    · obtain rfl : t = b := by omega
      go_wp2_with (fail)
      go_ret
      rw [← HO.out]
      exact ⟨A', c', rfl, ho, hbr⟩

set_option maxHeartbeats 2000000 in
set_option maxRecDepth 10000 in
theorem impl_blockLetters_n (place : Int) (a b : Nat) (w : World) (hp : 0 ≤ place ∧ place ≤ 1000) (ha : a ≤ 100) (hb : b ≤ 100) :
    Calls Try.prog 77 #[.int .i64 place, .int .i64 a, .int .i64 b, .int .i64 (-1)] w fun e w' => ∃ A' c', e = .returned (.slice A' (swTo place (-1) a b).length c') ∧ OwnI w' w.heap.size w'.heap.size A' c' (swTo place (-1) a b) ∧ Below w.heap.size w w' := by
  obtain ⟨i0, hi0, hz0, hz1, hz2⟩ := info_parts info_int64
  obtain ⟨hp0, hp1⟩ := hp
  have o1 := (OwnC.lit (w := w) (lo := w.heap.size) (n := 0) 2 1 #[] (Nat.le_refl _) (Nat.zero_le _) rfl).mono (Nat.le_refl _) (show w.heap.size + 1 ≤ (w.alloc (.cells #[] 2)).heap.size by simp)
  have O1 := Lib.hid o1; clear o1
  have hb1 : Below w.heap.size w (w.alloc (.cells #[] 2)) := by (repeat (first | exact Below.refl _ _ | assumption | apply Below.drew | apply below_drewN | (refine Below.alloc ?_ (by first | omega | (simp; done) | (simp; omega)) _) | (refine Below.setCell ?_ (by first | omega | (simp; done) | (simp; omega)) _)))
  go_enter Try.func77, Try.ntmps77
  go_wp2_with (fail)
  go_loopw [9, 14] (fun ov tv wr => ∃ (t : Nat) (A' : Option Addr) (c' : Nat) (out : List Int), t ≤ b ∧ tv = .int .i64 t ∧ ov = .slice A' out.length c' ∧ OwnI wr w.heap.size wr.heap.size A' c' out ∧ Below w.heap.size w wr ∧ Hid (out = swTo place (-1) a t) ∧ out.length ≤ 100 * t) (fun _ tv _ => b - (intOf tv).toNat)
  case atStart => exact ⟨0, some ⟨w.heap.size, 0, none⟩, 0, [], Nat.zero_le _, rfl, rfl, O1.out, hb1, Lib.hid rfl, by simp⟩
  case round =>
    obtain ⟨t, A', c', out, ht, rfl, rfl, ho, hbr, HO, hol⟩ := hrel
    have hzr := hbr.size
    by_cases htb : t < b
    · have hd : decide ((t : Int) < (b : Int)) = true := decide_eq_true (by omega)
      have HN : Hid (swTo place (-1) a (t + 1) = out ++ swRow (place + (t : Int)) (-1) a) := Lib.hid (by rw [swTo, HO.out])
      clear HO hd
      go_wp2_with (fail)
      go_loopw [9, 11] (fun ov kv ws => ∃ (j : Nat) (A3 : Option Addr) (c3 : Nat) (done : List Int), j ≤ a ∧ kv = .int .i64 ((j : Int) - 1) ∧ ov = .slice A3 done.length c3 ∧ OwnI ws w.heap.size ws.heap.size A3 c3 done ∧ Below w.heap.size w ws ∧ Hid (swTo place (-1) a (t + 1) = done ++ swRow (place + (t : Int)) (-1) j) ∧ done.length + j ≤ 100 * t + a) (fun _ kv _ => (intOf kv + 1).toNat)
      case atStart => exact ⟨a, A', c', out, Nat.le_refl _, rfl, rfl, ho, hbr, HN, by omega⟩
      case round =>
        clear ho hbr HN
        obtain ⟨j, A3, c3, done, hj, rfl, rfl, ho, hbs, HN, hdl⟩ := hrel
        have hzs := hbs.size
        cases j with
        | succ j =>
          have HN2 : Hid (swTo place (-1) a (t + 1) = (done ++ [(-1) * (place + (t : Int) + (j : Int) + 1)]) ++ swRow (place + (t : Int)) (-1) j) := Lib.hid (by rw [HN.out, swRow, List.append_assoc]; rfl)
          clear HN
          have e1 : ((j + 1 : Nat) : Int) - 1 = (j : Int) := by push_cast; omega
          rw [e1]
          have hd2 : decide ((j : Int) ≥ 0) = true := decide_eq_true (by omega)
          go_wp2_with (at_builtin; refine wpList_append1 wr [.int .i64 (-(place + (t : Int) + (j : Int) + 1))] _ rfl (.tmp 23) (.tmp 32) _ rfl 2 i0 _ 1 8 Try.underlying22 hi0 hz0 hz1 hz2 rfl (by decide) rfl ho hzs 1 rfl rfl (by simp [Value.oneCell']) (by omega) (by decide) ?_; intro A5 c5 w5 ho5 hg5 hb5 hz5)
          refine ⟨⟨j, A5, c5, done ++ [(-1) * (place + (t : Int) + (j : Int) + 1)], by omega, rfl, by simp, ?_, hbs.trans hb5, HN2, by simp; omega⟩, by first | (simp [intOf]; done) | (simp [intOf]; omega)⟩
          rw [show (-1) * (place + (t : Int) + (j : Int) + 1) = (-(place + (t : Int) + (j : Int) + 1)) by omega]
          show OwnC _ _ _ _ _ _ _ _ _
          rw [List.map_append, List.length_append]
          exact ho5
        | zero =>
          have HE : Hid (swTo place (-1) a (t + 1) = done) := Lib.hid (by rw [HN.out, swRow, List.append_nil])
          clear HN
          have e1 : ((0 : Nat) : Int) - 1 = -1 := by omega
          rw [e1]
          go_wp2_with (fail)
          refine ⟨⟨t + 1, A3, c3, done, by omega, by go_num, rfl, ho, hbs, Lib.hid HE.out.symm, by omega⟩, by simp [intOf]; omega⟩
    · obtain rfl : t = b := by omega
      go_wp2_with (fail)
      go_ret
      rw [← HO.out]
      exact ⟨A', c', rfl, ho, hbr⟩

theorem spec_l03Swap (place : Int) (a b : Nat) (s : Int) (w : World) (hs : s = 1 ∨ s = -1) (hp : 0 ≤ place ∧ place ≤ 1000) (ha : a ≤ 100) (hb : b ≤ 100) :
    Calls Try.prog 54 #[.int .i64 place, .int .i64 a, .int .i64 b, .int .i64 s] w fun e w' => ∃ A' c', e = .returned (.slice A' (swTo place s a b).length c') ∧ OwnI w' w.heap.size w'.heap.size A' c' (swTo place s a b) ∧ Below w.heap.size w w' := by
  rcases hs with rfl | rfl
  · exact spec_l03Swap_p place a b w hp ha hb
  · exact spec_l03Swap_n place a b w hp ha hb

theorem impl_blockLetters (place : Int) (a b : Nat) (s : Int) (w : World) (hs : s = 1 ∨ s = -1) (hp : 0 ≤ place ∧ place ≤ 1000) (ha : a ≤ 100) (hb : b ≤ 100) :
    Calls Try.prog 77 #[.int .i64 place, .int .i64 a, .int .i64 b, .int .i64 s] w fun e w' => ∃ A' c', e = .returned (.slice A' (swTo place s a b).length c') ∧ OwnI w' w.heap.size w'.heap.size A' c' (swTo place s a b) ∧ Below w.heap.size w w' := by
  rcases hs with rfl | rfl
  · exact impl_blockLetters_p place a b w hp ha hb
  · exact impl_blockLetters_n place a b w hp ha hb

end Go.Proofs.Ythjamohaeahipaa

/- The order of the yarn. -/
namespace Go.Proofs.Ythjamohaeahipaa
open Go.RowKit

def idI (n : Nat) : List Int := (List.range n).map fun (i : Nat) => (i : Int)
theorem idI_length (n : Nat) : (idI n).length = n := by simp [idI]
theorem idI_at {n k : Nat} (h : k < n) : (idI n)[k]? = some (k : Int) := by simp [idI, List.getElem?_range h]
theorem idI_snoc (n : Nat) : idI (n + 1) = idI n ++ [(n : Int)] := by simp [idI, List.range_succ]
def orderP (d : Int) (n : Nat) : List Int := if d = 1 then idI n else (idI n).reverse
theorem orderP_length (d : Int) (n : Nat) : (orderP d n).length = n := by unfold orderP; split <;> simp [idI_length]
theorem orderP_at1 {n k : Nat} (h : k < n) : (orderP 1 n)[k]? = some (k : Int) := idI_at h
theorem orderP_at2 {d : Int} {n k : Nat} (hd : d ≠ 1) (h : k < n) : (orderP d n)[k]? = some ((n : Int) - 1 - k) := by
  unfold orderP
  rw [if_neg hd, List.getElem?_reverse (by rw [idI_length]; exact h), idI_length, idI_at (by omega)]
  congr 1
  omega
def yarnP (d r : Int) (xs : List Int) : List Int := if rowB d r xs then orderP d xs.length else []
theorem yarnP_length (d r : Int) (xs : List Int) : (yarnP d r xs).length ≤ 16 := by
  unfold yarnP
  split
  · rename_i h
    rw [orderP_length]
    unfold rowB stitchesB at h
    simp at h
    omega
  · simp

set_option maxHeartbeats 1000000 in
theorem impl_identityY (n : Nat) (w : World) (hl : n ≤ 1000000) :
    Calls Try.prog 68 #[.int .i64 n] w fun e w' => ∃ A' c', e = .returned (.slice A' n c') ∧ OwnC w' w.heap.size w'.heap.size 2 1 A' n c' ((idI n).map (Value.int .i64)) ∧ Below w.heap.size w w' := by
  obtain ⟨i0, hi0, hz0, hz1, hz2⟩ := info_parts info_int64
  go_enter Try.func68, Try.ntmps68
  go_wp2_with (refine wpList_make_full _ rfl (.tmp 5) (.tmp 5) _ rfl w.heap.size 2 i0 _ 1 Try.underlying22 hi0 hz0 hz1 .i64 .i64 _ _ n rfl rfl rfl rfl (by rw [hz2]; omega) (by unfold maxLen; omega) (Nat.le_refl _) ?_; intro w1 hown hg)
  have hb1 : Below w.heap.size w w1 := (Below.refl _ _).grown hg (Nat.le_refl _) (by simp)
  go_loopw [9] (fun i wr => ∃ (k : Nat) (cs : List Value), k ≤ n ∧ i = .int .i64 k ∧ OwnC wr w.heap.size wr.heap.size 2 1 (some ⟨w.heap.size, 0, none⟩) n n cs ∧ cs.take k = (idI k).map (Value.int .i64) ∧ Below w.heap.size w wr) (fun i _ => n - (intOf i).toNat)
  case atStart => exact ⟨0, _, Nat.zero_le _, rfl, OwnC.of_own hown (Nat.le_refl _), by simp [idI], hb1⟩
  case round =>
    clear hown hg hb1
    obtain ⟨k, cs, hk, rfl, ho, htk, hb⟩ := hrel
    have hcl : cs.length = n * 1 := ho.len
    have HT := Lib.hid htk; clear htk
    have HC := Lib.hid hcl; clear hcl
    by_cases hlt : k < n
    · obtain ⟨_, hA0, _, _, q0, f0⟩ := ho.cell (j := k) (by rw [HC.out]; omega)
      injection hA0 with hA0
      injection hA0 with hA0
      subst hA0
      go_wp2_with (fail)
      go_roundw
      case rel =>
        refine ⟨k + 1, cs.set k (.int .i64 k), by omega, by go_num, ((ho.store _).1).mono (Nat.le_refl _) (by simp), ?_, by (repeat (first | exact Below.refl _ _ | assumption | apply Below.drew | apply below_drewN | (refine Below.alloc ?_ (by first | omega | (simp; done) | (simp; omega)) _) | (refine Below.setCell ?_ (by first | omega | (simp; done) | (simp; omega)) _)))⟩
        rw [take_set_succ _ _ _ (by rw [HC.out]; omega), HT.out, idI_snoc]
        simp
      case measure => simp [intOf]; omega
    · go_wp2_with (fail)
      go_ret
      have : k = n := by omega
      subst this
      have e : cs = (idI k).map (Value.int .i64) := by
        have := HT.out
        rwa [take_all (by rw [HC.out]; omega)] at this
      subst e
      exact ⟨_, _, rfl, ho, hb⟩

theorem swap_at {xs ds : List Int} {i : Nat} (hl : ds.length = xs.length) (h : ∀ k, k < xs.length → ds[k]? = if k < i ∨ xs.length - i ≤ k then xs.reverse[k]? else xs[k]?) (hi : 2 * i + 1 < xs.length) {x y : Int}
    (hx : ds[i]? = some x) (hy : ds[xs.length - 1 - i]? = some y) :
    ∀ k, k < xs.length → ((ds.set i y).set (xs.length - 1 - i) x)[k]? = if k < i + 1 ∨ xs.length - (i + 1) ≤ k then xs.reverse[k]? else xs[k]? := by
  intro k hk
  have ex := h i (by omega)
  rw [if_neg (by omega), hx] at ex
  have ey := h (xs.length - 1 - i) (by omega)
  rw [if_neg (by omega), hy] at ey
  by_cases h1 : k = xs.length - 1 - i
  · subst h1
    rw [List.getElem?_set_self (by simp; omega), if_pos (by omega), List.getElem?_reverse (by omega), ex]
    congr 1
    omega
  · by_cases h2 : k = i
    · subst h2
      rw [List.getElem?_set_ne (by omega), List.getElem?_set_self (by omega), if_pos (by omega), List.getElem?_reverse (by omega), ey]
    · rw [List.getElem?_set_ne (by omega), List.getElem?_set_ne (by omega), h k hk]
      by_cases h3 : k < i ∨ xs.length - i ≤ k
      · rw [if_pos h3, if_pos (by omega)]
      · rw [if_neg h3, if_neg (by omega)]
theorem swap_end {xs ds : List Int} {i : Nat} (hl : ds.length = xs.length) (h : ∀ k, k < xs.length → ds[k]? = if k < i ∨ xs.length - i ≤ k then xs.reverse[k]? else xs[k]?) (hi : xs.length ≤ 2 * i + 1) : ds = xs.reverse := by
  apply List.ext_getElem?
  intro k
  by_cases hk : k < xs.length
  · rw [h k hk]
    split
    · rfl
    · rw [List.getElem?_reverse hk]
      congr 1
      omega
  · rw [List.getElem?_eq_none (by omega), List.getElem?_eq_none (by simp; omega)]

set_option maxHeartbeats 1000000 in
theorem slices_ReverseY (A : Option Addr) (c : Nat) (xs : List Int) (lo hi : Nat) (w : World) (h : OwnI w lo hi A c xs) (hl : xs.length ≤ 1000000) :
    Calls Try.prog 69 #[.slice A xs.length c] w fun e w' => e = .returned (.tuple #[]) ∧ OwnC w' lo hi 2 1 A xs.length c (xs.reverse.map (Value.int .i64)) ∧ Upd lo hi w w' := by
  go_enter Try.func69, Try.ntmps69
  go_wp2_with (fail)
  go_loopw [2, 3] (fun iv jv wr => ∃ (i : Nat) (ds : List Int), 2 * i ≤ xs.length + 1 ∧ iv = .int .i64 i ∧ jv = .int .i64 ((xs.length : Int) - 1 - i) ∧ OwnC wr lo hi 2 1 A xs.length c (ds.map (Value.int .i64)) ∧ ds.length = xs.length ∧ (∀ k, k < xs.length → ds[k]? = if k < i ∨ xs.length - i ≤ k then xs.reverse[k]? else xs[k]?) ∧ Upd lo hi w wr) (fun iv _ _ => xs.length - (intOf iv).toNat)
  case atStart => exact ⟨0, xs, by omega, rfl, by simp, h, rfl, fun k hk => by rw [if_neg (by omega)], Upd.refl _ _ _⟩
  case round =>
    clear h
    obtain ⟨i, ds, hi2, rfl, rfl, ho, hdl, hds, hu⟩ := hrel
    have HD := Lib.hid hdl; clear hdl
    have HS := Lib.hid hds; clear hds
    by_cases hlt : (i : Int) < (xs.length : Int) - 1 - i
    · obtain ⟨j, hj⟩ : ∃ j : Nat, j = xs.length - 1 - i := ⟨_, rfl⟩
      have hjn : (xs.length : Int) - 1 - i = (j : Int) := by omega
      have hxi : ds[i]? = some (ds[i]'(by rw [HD.out]; omega)) := List.getElem?_eq_getElem _
      have hyj : ds[j]? = some (ds[j]'(by rw [HD.out]; omega)) := List.getElem?_eq_getElem _
      generalize (ds[i]'(by rw [HD.out]; omega)) = x at hxi
      generalize (ds[j]'(by rw [HD.out]; omega)) = y at hyj
      obtain ⟨g, rfl, hg1, hg2, q0, f0⟩ := ho.cell (j := i) (by simp [HD.out]; omega)
      obtain ⟨_, hA, _, _, q1, f1⟩ := ho.cell (j := j) (by simp [HD.out]; omega)
      injection hA with hA
      injection hA with hA
      subst hA
      have e0 : (ds.map (Value.int .i64))[i]? = some (.int .i64 x) := by simp [hxi]
      have e1 : (ds.map (Value.int .i64))[j]? = some (.int .i64 y) := by simp [hyj]
      rw [List.getElem?_eq_getElem (by simp [HD.out]; omega)] at e0 e1
      injection e0 with e0
      injection e1 with e1
      rw [e0] at q0
      rw [e1] at q1
      clear e0 e1
      have HX := Lib.hid hxi; clear hxi
      have HY := Lib.hid hyj; clear hyj
      have HJ := Lib.hid hj; clear hj
      rw [hjn]
      have HJN := Lib.hid hjn; clear hjn
      have hij : i < j := by have := HJ.out; omega
      have hjl : j < xs.length := by have := HJ.out; omega
      go_wp2_with (fail)
      go_region
      go_wp2_with (fail)
      refine ⟨⟨i + 1, (ds.set i y).set j x, by omega, by go_num, int_eq (by have := HJN.out; omega), ?_, by simp [HD.out], ?_, ?_⟩, by simp [intOf]; omega⟩
      · have h2 := ((ho.store (j := i) (.int .i64 y)).1.store (j := j) (.int .i64 x)).1
        rw [List.map_set, List.map_set]
        exact h2.drewN 1
      · have hJ := HJ.out
        have hY := HY.out
        rw [hJ] at hY ⊢
        exact swap_at HD.out HS.out (by omega) HX.out hY
      · exact Upd.drewN ((hu.setCell hg1 hg2 _).setCell hg1 hg2 _) 1
    · go_wp2_with (fail)
      go_end0
      have e := swap_end HD.out HS.out (by omega)
      subst e
      exact ⟨rfl, by rw [← List.map_reverse]; exact ho, hu⟩

set_option maxHeartbeats 1000000 in
theorem impl_orderY (d r : Int) (A : Option Addr) (c : Nat) (xs : List Int) (w : World) (hl : xs.length ≤ 1000000) (hd : dirB d = true) :
    Calls Try.prog 46 #[.agg #[.int .i64 d, .int .i64 r, .slice A xs.length c]] w fun e w' => ∃ A' c', e = .returned (.slice A' xs.length c') ∧ OwnC w' w.heap.size w'.heap.size 2 1 A' xs.length c' ((orderP d xs.length).map (Value.int .i64)) ∧ Below w.heap.size w w' := by
  by_cases h1 : d = 1
  · subst h1
    go_enter Try.func46, Try.ntmps46
    go_wp2_with (fail)
    refine (impl_identityY xs.length _ hl).mono ?_; rintro e w1 ⟨A1, c1, rfl, o1, b1⟩
    simp only [World.size_alloc] at o1 b1
    obtain ⟨hc, hf⟩ := bcell b1
    have B1 : Below w.heap.size w w1 := Below.trans (by (repeat (first | exact Below.refl _ _ | assumption | apply Below.drew | apply below_drewN | (refine Below.alloc ?_ (by first | omega | (simp; done) | (simp; omega)) _) | (refine Below.setCell ?_ (by first | omega | (simp; done) | (simp; omega)) _)))) (b1.mono (by first | omega | (simp; done) | (simp; omega)))
    go_wp2_with (fail)
    go_ret
    exact ⟨_, _, rfl, o1.mono (by omega) (Nat.le_refl _), B1⟩
  · have h2 : d = -1 := by simp [dirB] at hd; omega
    subst h2
    have hn : (idI xs.length).length = xs.length := idI_length _
    go_enter Try.func46, Try.ntmps46
    go_wp2_with (fail)
    refine (impl_identityY xs.length _ hl).mono ?_; rintro e w1 ⟨A1, c1, rfl, o1, b1⟩
    simp only [World.size_alloc] at o1 b1
    obtain ⟨hc, hf⟩ := bcell b1
    have B1 : Below w.heap.size w w1 := Below.trans (by (repeat (first | exact Below.refl _ _ | assumption | apply Below.drew | apply below_drewN | (refine Below.alloc ?_ (by first | omega | (simp; done) | (simp; omega)) _) | (refine Below.setCell ?_ (by first | omega | (simp; done) | (simp; omega)) _)))) (b1.mono (by first | omega | (simp; done) | (simp; omega)))
    have z1 := b1.size
    simp only [World.size_alloc] at z1
    have hrev := slices_ReverseY A1 c1 (idI xs.length) (w.heap.size + 1) w1.heap.size w1 (by show OwnC _ _ _ _ _ _ _ _ _; rw [hn]; exact o1) (by rw [hn]; exact hl)
    rw [hn] at hrev
    have HR := Lib.hid hrev; clear hrev hn
    go_wp2_with (fail)
    refine HR.out.mono ?_; rintro e w2 ⟨rfl, o2, u2⟩
    have B2 : Below w.heap.size w w2 := B1.trans ((u2.below (by omega)).mono (by omega))
    have z2 := u2.size
    go_wp2_with (fail)
    go_ret
    exact ⟨_, _, rfl, o2.mono (by omega) (by omega), B2⟩

set_option maxHeartbeats 1000000 in
theorem spec_l17Order (g o : Nat) (d _r : Int) (A : Option Addr) (c : Nat) (xs : List Int) (w : World) (hl : xs.length ≤ 1000000)
    (c0 : w.cell? ⟨g, o, none⟩ = some (.int .i64 d)) (c2 : w.cell? ⟨g, o + 2, none⟩ = some (.slice A xs.length c)) :
    Calls Try.prog 35 #[.pointer (some ⟨g, o, none⟩)] w fun e w' => ∃ A' c', e = .returned (.slice A' xs.length c') ∧ OwnC w' w.heap.size w'.heap.size 2 1 A' xs.length c' ((orderP d xs.length).map (Value.int .i64)) ∧ Below w.heap.size w w' := by
  obtain ⟨i0, hi0, hz0, hz1, hz2⟩ := info_parts info_int64
  have hgl : g < w.heap.size := cell_lt c2
  go_enter Try.func35, Try.ntmps35
  go_wp2_with (fail)
  go_loopw [3, 5] (fun ov i wr => ∃ (k : Nat) (A' : Option Addr) (c' : Nat), k ≤ xs.length ∧ i = .int .i64 k ∧ ov = .slice A' k c' ∧ OwnC wr w.heap.size wr.heap.size 2 1 A' k c' (((orderP d xs.length).take k).map (Value.int .i64)) ∧ Below w.heap.size w wr) (fun _ i _ => xs.length - (intOf i).toNat)
  case atStart => exact ⟨0, some ⟨w.heap.size, 0, none⟩, 0, Nat.zero_le _, rfl, rfl, (OwnC.lit _ 1 #[] (Nat.le_refl _) (Nat.zero_le _) rfl).mono (Nat.le_refl _) (by simp), by (repeat (first | exact Below.refl _ _ | assumption | apply Below.drew | apply below_drewN | (refine Below.alloc ?_ (by first | omega | (simp; done) | (simp; omega)) _) | (refine Below.setCell ?_ (by first | omega | (simp; done) | (simp; omega)) _)))⟩
  case round =>
    obtain ⟨k, A', c', hk, rfl, rfl, ho, hb⟩ := hrel
    have hzs := hb.size
    have q0 := cells_below hb _ _ c0
    by_cases hlt : k < xs.length
    · by_cases h1 : d = 1
      · subst h1
        have HS := Lib.hid (take_snoc (orderP_at1 hlt))
        go_wp2_with (at_builtin; refine wpList_append1 wr [.int .i64 k] _ rfl (.tmp 22) (.tmp 24) _ rfl 2 i0 _ 1 8 Try.underlying22 hi0 hz0 hz1 hz2 rfl (by decide) rfl ho hzs 1 rfl rfl (by simp [Value.oneCell']) (by omega) (by decide) ?_; intro A2 c2 w2 ho2 hg2 hb2 hz2')
        go_roundw
        case rel => exact ⟨k + 1, A2, c2, by omega, by go_num, rfl, by rw [HS.out]; simpa using ho2, hb.trans hb2⟩
        case measure => simp [intOf]; omega
      · have h1' : (d == 1) = false := by simpa using h1
        have HS := Lib.hid (take_snoc (orderP_at2 h1 hlt))
        go_wp2_with (at_builtin; refine wpList_append1 wr [.int .i64 ((xs.length : Int) - 1 - k)] _ rfl (.tmp 26) (.tmp 31) _ rfl 2 i0 _ 1 8 Try.underlying22 hi0 hz0 hz1 hz2 rfl (by decide) rfl ho hzs 1 rfl rfl (by simp [Value.oneCell']) (by omega) (by decide) ?_; intro A2 c2 w2 ho2 hg2 hb2 hz2')
        go_roundw
        case rel => exact ⟨k + 1, A2, c2, by omega, by go_num, rfl, by rw [HS.out]; simpa using ho2, hb.trans hb2⟩
        case measure => simp [intOf]; omega
    · go_wp2_with (fail)
      go_ret
      have : k = xs.length := by omega
      subst this
      rw [take_all (by rw [orderP_length]; exact Nat.le_refl _)] at ho
      exact ⟨_, _, rfl, ho, hb⟩


end Go.Proofs.Ythjamohaeahipaa

/- Knitting by hand, plain: the columns of the stitches, the events of crossings and of the yarn. -/
namespace Go.Proofs.Ythjamohaeahipaa
open Go.RowKit

def tot : List (List Int) → Int
  | [] => 0
  | c :: cs => sumI c + tot cs
theorem tot_append (a b : List (List Int)) : tot (a ++ b) = tot a + tot b := by
  induction a with
  | nil => simp [tot]
  | cons x r ih => simp only [List.cons_append, tot, ih]; omega
theorem tot_snoc {cs : List (List Int)} {k : Nat} {c : List Int} (h : cs[k]? = some c) : tot (cs.take (k + 1)) = tot (cs.take k) + sumI c := by
  rw [take_snoc h, tot_append]; simp [tot]
def NN (c : List Int) : Prop := ∀ x ∈ c, 0 ≤ x
theorem NN.sum {c : List Int} (h : NN c) : 0 ≤ sumI c := by
  induction c with
  | nil => simp [sumI]
  | cons x r ih =>
    have h1 := h x (by simp)
    have h2 := ih (fun y hy => h y (by simp [hy]))
    rw [sumI]; omega
theorem NN.take {c : List Int} (h : NN c) (k : Nat) : NN (c.take k) := fun x hx => h x (List.mem_of_mem_take hx)
theorem NN.drop {c : List Int} (h : NN c) (k : Nat) : NN (c.drop k) := fun x hx => h x (List.mem_of_mem_drop hx)
theorem sumI_split (c : List Int) (k : Nat) : sumI (c.take k) + sumI (c.drop k) = sumI c := by rw [← sumI_append, List.take_append_drop]
theorem NN.part {c : List Int} (h : NN c) (k : Nat) : 0 ≤ sumI (c.take k) ∧ sumI (c.take k) ≤ sumI c ∧ 0 ≤ sumI (c.drop k) ∧ sumI (c.drop k) ≤ sumI c := by
  have h1 := (h.take k).sum
  have h2 := (h.drop k).sum
  have h3 := sumI_split c k
  omega
theorem NN.at_le {c : List Int} (h : NN c) {k : Nat} {x : Int} (hx : c[k]? = some x) : 0 ≤ x ∧ x ≤ sumI c ∧ sumI (c.take k) + x ≤ sumI c := by
  have h1 := (h.part (k + 1)).2.1
  rw [sumI_snoc hx] at h1
  have h2 := (h.part k).1
  have h3 := h x (List.mem_of_getElem? hx)
  omega
theorem sum64_sumI {c : List Int} (h : NN c) (hs : sumI c ≤ 1000000) : sum64 c = sumI c := by
  have e : ∀ k, k ≤ c.length → sum64 (c.take k) = sumI (c.take k) := by
    intro k
    induction k with
    | zero => intro _; simp [sum64, sumI]
    | succ k ih =>
      intro hk
      have hx : c[k]? = some c[k] := List.getElem?_eq_getElem (by omega)
      have h1 := h.at_le hx
      have h2 := (h.part k).1
      rw [sumI_snoc hx, take_snoc hx, sum64_snoc, ih (by omega), IntWalk.wrap64_in _ (by omega)]
  have := e c.length (Nat.le_refl _)
  rwa [List.take_of_length_le (Nat.le_refl _)] at this

/-- The columns of the stitches: none has more than four, no size is below 0. -/
structure GoodC (m : Nat) (cs : List (List Int)) (S : Int) : Prop where
  len : cs.length = m
  nn : ∀ c ∈ cs, NN c ∧ c.length ≤ 4
  sum : tot cs = S
theorem tot_nn {cs : List (List Int)} (h : ∀ c ∈ cs, NN c) : 0 ≤ tot cs := by
  induction cs with
  | nil => simp [tot]
  | cons x r ih =>
    have h1 := (h x (by simp)).sum
    have h2 := ih (fun y hy => h y (by simp [hy]))
    rw [tot]; omega
theorem GoodC.take {m : Nat} {cs : List (List Int)} {S : Int} (h : GoodC m cs S) (k : Nat) : 0 ≤ tot (cs.take k) ∧ tot (cs.take k) ≤ S := by
  have h1 := tot_nn (cs := cs.take k) (fun c hc => (h.nn c (List.mem_of_mem_take hc)).1)
  have h2 := tot_nn (cs := cs.drop k) (fun c hc => (h.nn c (List.mem_of_mem_drop hc)).1)
  have h3 := tot_append (cs.take k) (cs.drop k)
  rw [List.take_append_drop] at h3
  have := h.sum
  omega
theorem GoodC.at_ {m : Nat} {cs : List (List Int)} {S : Int} (h : GoodC m cs S) {k : Nat} {c : List Int} (hc : cs[k]? = some c) : NN c ∧ c.length ≤ 4 ∧ tot (cs.take k) + sumI c ≤ S ∧ 0 ≤ sumI c := by
  obtain ⟨h1, h2⟩ := h.nn c (List.mem_of_getElem? hc)
  have h3 := h.take (k + 1)
  rw [tot_snoc hc] at h3
  exact ⟨h1, h2, h3.2, h1.sum⟩
theorem tot_set {cs : List (List Int)} {k : Nat} {c c' : List Int} (hc : cs[k]? = some c) : tot (cs.set k c') = tot cs - sumI c + sumI c' := by
  induction cs generalizing k with
  | nil => simp at hc
  | cons x r ih =>
    cases k with
    | zero =>
      simp at hc
      subst hc
      simp only [List.set_cons_zero, tot]
      omega
    | succ k =>
      have := ih (k := k) (by simpa using hc)
      simp only [List.set_cons_succ, tot, this]
      omega
theorem sumI_set {c : List Int} {k : Nat} {x y : Int} (hx : c[k]? = some x) : sumI (c.set k y) = sumI c - x + y := by
  induction c generalizing k with
  | nil => simp at hx
  | cons z r ih =>
    cases k with
    | zero =>
      simp at hx
      subst hx
      simp only [List.set_cons_zero, sumI]
      omega
    | succ k =>
      have := ih (k := k) (by simpa using hx)
      simp only [List.set_cons_succ, sumI, this]
      omega
theorem GoodC.set {m : Nat} {cs : List (List Int)} {S : Int} (h : GoodC m cs S) {k : Nat} {c c' : List Int} (hc : cs[k]? = some c) (h1 : NN c') (h2 : c'.length ≤ 4) : GoodC m (cs.set k c') (S - sumI c + sumI c') := by
  refine ⟨by rw [List.length_set]; exact h.len, fun d hd => ?_, by rw [tot_set hc, h.sum]⟩
  rcases List.mem_or_eq_of_mem_set hd with hd | rfl
  · exact h.nn d hd
  · exact ⟨h1, h2⟩
theorem NN.set {c : List Int} (h : NN c) (k : Nat) {y : Int} (hy : 0 ≤ y) : NN (c.set k y) := by
  intro x hx
  rcases List.mem_or_eq_of_mem_set hx with hx | rfl
  · exact h x hx
  · exact hy

structure HS where
  evs : List EventD
  cells : List (List Int)

def signI (k : Int) : Int := if k = 8 ∨ k = 10 then 1 else if k = 9 ∨ k = 11 ∨ k = 5 then -1 else 0
def evCross (s l : Int) : EventD := ⟨1, l - 1, s, 0, 0, 0⟩
def crossEvs (p s : Int) (a b : Nat) : List EventD := (swTo p 1 a b).map (evCross s)
def evYarn (d car kind place count bed : Int) : EventD := ⟨kind, place, count, bed, car, d⟩
def crossTo (k : Int) (i : Nat) (c : List Int) (s : HS) : HS :=
  if signI k = 0 then s else ⟨s.evs ++ crossEvs (tot (s.cells.take i)) (signI k) (sumI (c.take (c.length / 2))).toNat (sumI (c.drop (c.length / 2))).toNat, s.cells.set i (c.drop (c.length / 2) ++ c.take (c.length / 2))⟩
def crossStep (k : Int) (i : Nat) (s : HS) : HS := match s.cells[i]? with | none => s | some c => crossTo k i c s
def crossN (ks : List Int) : Nat → HS → HS
  | 0, s => s
  | i + 1, s => crossStep (ks.getD i 0) i (crossN ks i s)

def knitAt (d : Int) (n t : Nat) : Nat := if d = -1 then n - 1 - t else t
def knitTo (d car bed : Int) (i k : Nat) (c : List Int) (s : HS) : HS :=
  ⟨s.evs ++ [evYarn d car 2 (tot (s.cells.take i) + sumI (c.take k)) (c.getD k 0) bed], s.cells.set i (c.set k 1)⟩
def knitStep (d car bed : Int) (i t : Nat) (s : HS) : HS := match s.cells[i]? with | none => s | some c => knitTo d car bed i (knitAt d c.length t) c s
def knitN (d car bed : Int) (i : Nat) : Nat → HS → HS
  | 0, s => s
  | t + 1, s => knitStep d car bed i t (knitN d car bed i t s)
def makeTo (d car k : Int) (i : Nat) (c : List Int) (s : HS) : HS :=
  if k = 3 then ⟨s.evs ++ [evYarn d car 3 (tot (s.cells.take i)) 0 1], s.cells.set i [1]⟩
  else if k = 6 then ⟨s.evs ++ [evYarn d car 3 (tot (s.cells.take i) + c.getD 0 0) 0 1], s.cells.set i (c.set 0 (c.getD 0 0 + 1))⟩
  else if k = 7 then s
  else if k = 4 ∨ k = 5 then ⟨s.evs ++ [evYarn d car 2 (tot (s.cells.take i)) (sumI c) 1], s.cells.set i [1]⟩
  else knitN d car (if k = 2 then 2 else 1) i c.length s
def makeStep (d car : Int) (ks : List Int) (i : Nat) (s : HS) : HS := match s.cells[i]? with | none => s | some c => makeTo d car (ks.getD i 0) i c s
/-- The stitches in the order of the yarn; none, if there are too many strands at some time. -/
def makeN (d car : Int) (ks : List Int) (ord : List Int) : Nat → HS → Option HS
  | 0, s => some s
  | n + 1, s => match makeN d car ks ord n s with
    | none => none
    | some s1 => if 12 < tot (makeStep d car ks (ord.getD n 0).toNat s1).cells then none else some (makeStep d car ks (ord.getD n 0).toNat s1)
def cutC : List Int → List Int → List (List Int)
  | [], _ => []
  | k :: ks, st => st.take (takenN k) :: cutC ks (st.drop (takenN k))
theorem cutC_length (ks st : List Int) : (cutC ks st).length = ks.length := by
  induction ks generalizing st with
  | nil => rfl
  | cons k ks ih => simp [cutC, ih]
def handS (d car : Int) (ks st : List Int) : Option HS := makeN d car ks (orderP d ks.length) ks.length (crossN ks ks.length ⟨[], cutC ks st⟩)
def handEvs (d car : Int) (ks st : List Int) : List EventD := match handS d car ks st with | none => [] | some s => s.evs
def handAfter (d car : Int) (ks st : List Int) : List Int := match handS d car ks st with | none => [] | some s => s.cells.flatten

theorem swRow_sign (p s : Int) (a : Nat) : swRow p s a = (swRow p 1 a).map (s * ·) := by
  induction a with
  | zero => rfl
  | succ a ih => simp [swRow, ih]
theorem swTo_sign (p s : Int) (a b : Nat) : swTo p s a b = (swTo p 1 a b).map (s * ·) := by
  induction b with
  | zero => rfl
  | succ b ih => rw [swTo, swTo, List.map_append, ← ih, ← swRow_sign]
theorem swRow_mem {p : Int} {a : Nat} {x : Int} (h : x ∈ swRow p 1 a) : p + 1 ≤ x ∧ x ≤ p + a := by
  induction a with
  | zero => simp [swRow] at h
  | succ a ih =>
    simp only [swRow, List.mem_cons] at h
    rcases h with rfl | h
    · omega
    · have := ih h; omega
theorem swTo_mem {p : Int} {a b : Nat} {x : Int} (h : x ∈ swTo p 1 a b) : p + 1 ≤ x ∧ x ≤ p + a + b := by
  induction b with
  | zero => simp [swTo] at h
  | succ b ih =>
    simp only [swTo, List.mem_append] at h
    rcases h with h | h
    · have := ih h; omega
    · have := swRow_mem h; omega
theorem crossEvs_length (p s : Int) (a b : Nat) : (crossEvs p s a b).length = a * b := by rw [crossEvs, List.length_map, swTo_length]
end Go.Proofs.Ythjamohaeahipaa

/- MirrorColours, the program's function. -/
namespace Go.Proofs.Ythjamohaeahipaa
open Go.RowKit

theorem OwnII.farT {w : World} {lo hi n : Nat} {A : Option Addr} {c : Nat} {xss : List (List Int)} {g : Nat} {t : TypeId} {bs : Array Value} (h : OwnII w lo hi A n c xss) (hb : Blk w g t bs) (t1 : t ≠ 2) (t2 : t ≠ 22) (j : Nat) (u : Value) : OwnII (w.setCell ⟨g, j, none⟩ u) lo hi A n c xss := by
  obtain ⟨cs, h1, h2⟩ := h.ex
  exact ⟨cs, h1.farT hb t2 j u, h2.farT hb t1 j u⟩
theorem cntII_rev (xss : List (List Int)) : cntII (xss.map List.reverse) = cntII xss := by
  induction xss with
  | nil => rfl
  | cons x r ih => simp [cntII, ih]
def revTo (xss : List (List Int)) (k : Nat) : List (List Int) := (xss.take k).map List.reverse ++ xss.drop k
theorem revTo_length (xss : List (List Int)) (k : Nat) : (revTo xss k).length = xss.length := by simp [revTo]; omega
theorem revTo_at {xss : List (List Int)} {k : Nat} {row : List Int} (h : xss[k]? = some row) : (revTo xss k)[k]? = some row ∧ (revTo xss k).set k row.reverse = revTo xss (k + 1) := by
  have hk : k < xss.length := (List.getElem?_eq_some_iff.1 h).1
  have hl : ((xss.take k).map List.reverse).length = k := by simp; omega
  refine ⟨?_, ?_⟩
  · unfold revTo
    rw [List.getElem?_append_right (by omega), hl, Nat.sub_self, List.getElem?_drop, Nat.add_zero]
    exact h
  · unfold revTo
    rw [List.set_append_right _ _ (by omega), hl, Nat.sub_self, drop_cons h, List.set_cons_zero, take_snoc h, List.map_append, List.append_assoc]
    rfl


end Go.Proofs.Ythjamohaeahipaa

/- Charts: slices.Grow, slices.Concat, copies of rows. -/
namespace Go.Proofs.Ythjamohaeahipaa
open Go.RowKit

/-- The cells at an address, wherever they lie. -/
def CellsAt (w : World) (A : Option Addr) (cs : List Value) : Prop := ∀ (j : Nat) (u : Value), cs[j]? = some u → ∃ b off, A = some ⟨b, off, none⟩ ∧ w.cell? ⟨b, off + j, none⟩ = some u
theorem CellsAt.of_cells {w w' : World} {A : Option Addr} {cs : List Value} (h : CellsAt w A cs) (hk : ∀ a v, w.cell? a = some v → w'.cell? a = some v) : CellsAt w' A cs :=
  fun j u hu => by obtain ⟨b, off, hA, hc⟩ := h j u hu; exact ⟨b, off, hA, hk _ _ hc⟩
theorem CellsAt.below {w w' : World} {A : Option Addr} {cs : List Value} (h : CellsAt w A cs) (hb : Below w.heap.size w w') : CellsAt w' A cs := h.of_cells (cells_below hb)
theorem OwnC.cellsAt {w : World} {lo hi : Nat} {e : TypeId} {sz : Nat} {A : Option Addr} {n c : Nat} {cs : List Value} (h : OwnC w lo hi e sz A n c cs) : CellsAt w A cs := by
  intro j u hu
  have hj := (List.getElem?_eq_some_iff.1 hu).1
  obtain ⟨g, hA, _, _, hc, _⟩ := h.cell hj
  refine ⟨g, 0, hA, ?_⟩
  rw [Nat.zero_add, hc, ← hu, List.getElem?_eq_getElem hj]
structure PartD where
  n : Nat
  cs : List Value
def partsN : List PartD → Nat
  | [] => 0
  | p :: r => p.n + partsN r
def partsC : List PartD → List Value
  | [] => []
  | p :: r => p.cs ++ partsC r
theorem partsN_append (a b : List PartD) : partsN (a ++ b) = partsN a + partsN b := by
  induction a with
  | nil => simp [partsN]
  | cons x r ih => simp [partsN, ih]; omega
theorem partsC_append (a b : List PartD) : partsC (a ++ b) = partsC a ++ partsC b := by
  induction a with
  | nil => simp [partsC]
  | cons x r ih => simp [partsC, ih]
theorem partsN_snoc {ps : List PartD} {k : Nat} {p : PartD} (h : ps[k]? = some p) : partsN (ps.take (k + 1)) = partsN (ps.take k) + p.n := by
  rw [take_snoc h, partsN_append]; simp [partsN]
theorem partsC_snoc {ps : List PartD} {k : Nat} {p : PartD} (h : ps[k]? = some p) : partsC (ps.take (k + 1)) = partsC (ps.take k) ++ p.cs := by
  rw [take_snoc h, partsC_append]; simp [partsC]
theorem partsN_take_le (ps : List PartD) (k : Nat) : partsN (ps.take k) ≤ partsN ps := by
  have := partsN_append (ps.take k) (ps.drop k)
  rw [List.take_append_drop] at this
  omega
theorem partsN_at {ps : List PartD} {k : Nat} {p : PartD} (h : ps[k]? = some p) : partsN (ps.take k) + p.n ≤ partsN ps := by
  rw [← partsN_snoc h]; exact partsN_take_le _ _
/-- A slice of slices, whose cells are known. -/
def SlicesAt (w : World) (A : Option Addr) (sz : Nat) (ps : List PartD) : Prop :=
  ∀ k, k < ps.length → ∃ b off A' c' p, A = some ⟨b, off, none⟩ ∧ ps[k]? = some p ∧ p.cs.length = p.n * sz ∧ (∀ u ∈ p.cs, u.oneCell' = true) ∧ w.cell? ⟨b, off + k, none⟩ = some (.slice A' p.n c') ∧ CellsAt w A' p.cs
theorem SlicesAt.of_cells {w w' : World} {A : Option Addr} {sz : Nat} {ps : List PartD} (h : SlicesAt w A sz ps) (hk : ∀ a v, w.cell? a = some v → w'.cell? a = some v) : SlicesAt w' A sz ps :=
  fun k hk' => by
    obtain ⟨b, off, A', c', p, hA, hx, hn, h1, hc, hi⟩ := h k hk'
    exact ⟨b, off, A', c', p, hA, hx, hn, h1, hk _ _ hc, hi.of_cells hk⟩
theorem SlicesAt.below {w w' : World} {A : Option Addr} {sz : Nat} {ps : List PartD} (h : SlicesAt w A sz ps) (hb : Below w.heap.size w w') : SlicesAt w' A sz ps := h.of_cells (cells_below hb)
def partOf (xs : List Int) : PartD := ⟨xs.length, xs.map (Value.int .i64)⟩
theorem partsN_of (xss : List (List Int)) : partsN (xss.map partOf) = cntII xss := by
  induction xss with
  | nil => rfl
  | cons x r ih => simp [partsN, cntII, partOf, ih]
theorem partsC_of (xss : List (List Int)) : partsC (xss.map partOf) = xss.flatten.map (Value.int .i64) := by
  induction xss with
  | nil => rfl
  | cons x r ih => simp [partsC, partOf, ih]
theorem length_flatten (xss : List (List Int)) : xss.flatten.length = cntII xss := by
  induction xss with
  | nil => rfl
  | cons x r ih => simp [cntII, ih]
theorem Ints2.slices {w : World} {A : Option Addr} {xss : List (List Int)} (h : Ints2 w A xss) : SlicesAt w A 1 (xss.map partOf) := by
  intro k hk
  obtain ⟨b, off, A', c', xs, hA, hx, hc, hi, _⟩ := h k (by simpa using hk)
  exact ⟨b, off, A', c', partOf xs, hA, by rw [List.getElem?_map, hx]; rfl, by simp [partOf], ints_one _, hc, hi.news⟩
theorem zeroCells_size (z : Array Value) (k : Nat) : (Builtin.zeroCells z k).size = k * z.size := by simp [Builtin.zeroCells]

set_option maxHeartbeats 2000000 in
set_option maxRecDepth 100000 in
theorem slices_Grow_int64_int64 (n : Nat) (w : World) (hn : n ≤ 1000000) :
    Calls Try.prog 71 #[.slice none 0 0, .int .i64 n] w fun e w' => ∃ A' c', e = .returned (.slice A' 0 c') ∧ OwnC w' w.heap.size w'.heap.size 2 1 A' 0 c' [] ∧ Below w.heap.size w w' := by
  obtain ⟨i0, hi0, hz0, hz1, hz2⟩ := info_parts info_int64
  by_cases h0 : n = 0
  · subst h0
    rw [show ((0 : Nat) : Int) = 0 from rfl]
    go_enter Try.func71, Try.ntmps71
    go_wp2_with (fail)
    go_ret
    exact ⟨none, 0, rfl, OwnC.nil _ _ _ _ _, Below.refl _ _⟩
  · have hpos : 0 < n := by omega
    have hold : (Builtin.firstCells i0.size 0 (.slice none 0 0)).run Try.prog w.drew = .ok ([] : List Value).toArray w.drew := run_firstCells_none w.drew i0.size 0 0 0
    have hrz : ∀ ty, (Builtin.append_ #[22, 3] ty #[.slice none 0 0, .int .i64 n]).run Try.prog w = .ok (.slice (some ⟨w.heap.size, 0, none⟩) (0 + n) (grownCap w (0 + n) 0 2)) (w.drew.alloc (.cells (([] : List Value).toArray ++ Builtin.zeroCells _ n ++ Builtin.zeroCells _ (grownCap w (0 + n) 0 2 - (0 + n))) 2)) := fun ty =>
      Lib.run_append_grow_zeros w 22 3 ty 2 i0 _ .i64 .i64 Try.underlying22 Try.underlying3 hi0 hz0 none 0 0 [] hold n hpos (by rw [hz1]; decide) (by omega) (by omega) (by rw [hz2]; omega) (growslice_fits (by omega) (by rw [hz2]; omega))
    have hGn : 0 + n ≤ grownCap w (0 + n) 0 2 := grownCap_ge w _ _ _
    have hGm : grownCap w (0 + n) 0 2 ≤ maxLen := grownCap_le_maxLen w (0 + n) 0 2 (by unfold maxLen; omega)
    simp only [Nat.zero_add] at hrz hGn hGm
    obtain ⟨G, hG⟩ : ∃ G, G = grownCap w n 0 2 := ⟨_, rfl⟩
    rw [← hG] at hrz hGn hGm
    have hG63 : G ≤ 9223372036854775807 := by unfold maxLen at hGm; omega
    clear hG hold
    have HRZ := Lib.hid hrz; clear hrz
    have HGM := Lib.hid hGm; clear hGm
    go_enter Try.func71, Try.ntmps71
    go_wp2_with (at_builtin; refine Lib.wpList_append_run _ rfl _ _ _ _ rfl _ _ rfl rfl _ _ (HRZ.out _) ?_)
    all_goals go_ret
    all_goals
      refine ⟨_, _, rfl, ⟨⟨rfl, .inr ⟨w.heap.size, G, _, rfl, Nat.le_refl _, heap_alloc_new w.drew _, Nat.zero_le _, HGM.out, ?_, by simp⟩⟩, fun a h => by injection h with h; subst h; simp⟩, ?_⟩
      · simp only [Array.size_append, zeroCells_size, List.size_toArray]
        rw [← Nat.add_mul, Nat.add_sub_cancel' hGn]
        rfl
      · exact ((Below.refl _ _).drew).alloc (Nat.le_refl _) _

set_option maxHeartbeats 2000000 in
set_option maxRecDepth 100000 in
theorem slices_Concat_int64_int64 (ps : List PartD) (A : Option Addr) (c : Nat) (w : World) (h : SlicesAt w A 1 ps) (hl : ps.length ≤ 1000000) (hn : partsN ps ≤ 1000000) :
    Calls Try.prog 48 #[.slice A ps.length c] w fun e w' => ∃ A' c', e = .returned (.slice A' (partsN ps) c') ∧ OwnC w' w.heap.size w'.heap.size 2 1 A' (partsN ps) c' (partsC ps) ∧ Below w.heap.size w w' := by
  obtain ⟨i0, hi0, hz0, hz1, hz2⟩ := info_parts info_int64
  go_enter Try.func48, Try.ntmps48
  go_wp2_with (fail)
  go_loop [3, 11] (fun s i => ∃ k : Nat, k ≤ ps.length ∧ i = .int .i64 k ∧ s = .int .i64 (partsN (ps.take k))) (fun _ i => ps.length - (intOf i).toNat)
  case atStart => exact ⟨0, Nat.zero_le _, rfl, rfl⟩
  case round =>
    obtain ⟨k, hk, rfl, rfl⟩ := hrel
    by_cases hlt : k < ps.length
    · obtain ⟨b, off, A', c', p, rfl, hx, hpn, _, hc, hi⟩ := h k hlt
      have hle := partsN_at hx
      have HS : Hid (partsN (ps.take (k + 1)) = partsN (ps.take k) + p.n) := Lib.hid (partsN_snoc hx)
      clear hx
      go_wp2_with (fail)
      go_round
      case rel => exact ⟨k + 1, by omega, by go_num, by rw [HS.out]; go_num⟩
      case measure => simp [intOf]; omega
    · obtain rfl : k = ps.length := by omega
      rw [take_all (Nat.le_refl _)]
      go_wp2_with (fail)
      refine (slices_Grow_int64_int64 (partsN ps) _ hn).mono ?_; rintro e w2 ⟨A2, c2, rfl, o2, b2⟩
      go_wp2_with (fail)
      go_loopw [6, 27] (fun ov iv wr => ∃ (k : Nat) (A3 : Option Addr) (c3 : Nat), k ≤ ps.length ∧ iv = .int .i64 k ∧ ov = .slice A3 (partsN (ps.take k)) c3 ∧ OwnC wr w.heap.size wr.heap.size 2 1 A3 (partsN (ps.take k)) c3 (partsC (ps.take k)) ∧ Below w.heap.size w wr) (fun _ iv _ => ps.length - (intOf iv).toNat)
      case atStart => exact ⟨0, A2, c2, Nat.zero_le _, rfl, rfl, o2, b2⟩
      case round =>
        obtain ⟨k, A3, c3, hk, rfl, rfl, ho, hb⟩ := hrel
        have hzs := hb.size
        by_cases hlt : k < ps.length
        · obtain ⟨b, off, A4, c4, p, rfl, hx, hpn, h1, hc, hi⟩ := (h.below hb) k hlt
          have hle := partsN_at hx
          have HN : Hid (partsN (ps.take (k + 1)) = partsN (ps.take k) + p.n) := Lib.hid (partsN_snoc hx)
          have HC : Hid (partsC (ps.take (k + 1)) = partsC (ps.take k) ++ p.cs) := Lib.hid (partsC_snoc hx)
          have HI := Lib.hid hi
          have H1 := Lib.hid h1
          have HP := Lib.hid hpn
          clear hx hi h1 hpn
          generalize partsN (ps.take k) = m at ho hle HN ⊢
          generalize partsC (ps.take k) = L at ho HC
          go_wp2_with (at_builtin; refine wpList_appendC wr rfl (.tmp 31) (.tmp 32) _ rfl 2 i0 _ 1 8 Try.underlying22 hi0 hz0 hz1 hz2 rfl (by decide) rfl ho hzs A4 p.n c4 p.cs rfl HP.out HI.out H1.out (by unfold maxLen; omega) (by omega) ?_; intro A5 c5 w5 ho5 hg5 hb5)
          go_roundw
          case rel => exact ⟨k + 1, A5, c5, by omega, by go_num, by rw [HN.out], by rw [HN.out, HC.out]; exact ho5, hb.trans hb5⟩
          case measure => simp [intOf]; omega
        · obtain rfl : k = ps.length := by omega
          rw [take_all (Nat.le_refl _)] at ho ⊢
          go_wp2_with (fail)
          go_ret
          exact ⟨A3, c3, rfl, ho, hb⟩

/-- The rows whose cells these are; their slices are read where they lie. -/
def SrcRows (w : World) (cs : List Value) (rs : List RowD) : Prop :=
  cs.length = rs.length * 3 ∧ (∀ u ∈ cs, u.oneCell' = true) ∧ ∀ (k : Nat) (r : RowD), rs[k]? = some r → ∃ A' c', cs[k * 3]? = some (.int .i64 r.d) ∧ cs[k * 3 + 1]? = some (.int .i64 r.r) ∧ cs[k * 3 + 2]? = some (.slice A' r.s.length c') ∧ Ints w A' r.s ∧ r.s.length ≤ 9223372036854775807
theorem RowsR.src {w : World} {A : Option Addr} {rs : List RowD} (h : RowsR w A rs) : ∃ cs, CellsAt w A cs ∧ SrcRows w cs rs := by
  cases rs with
  | nil => exact ⟨[], fun j u hu => by simp at hu, rfl, fun u hu => by simp at hu, fun k r hr => by simp at hr⟩
  | cons r0 rs =>
    obtain ⟨b, off, hA⟩ : ∃ b off, A = some ⟨b, off, none⟩ := by
      obtain ⟨b, off, _, _, _, hA, _⟩ := h 0 (by simp)
      exact ⟨b, off, hA⟩
    subst hA
    generalize hrs : r0 :: rs = qs at h
    clear hrs r0 rs
    have at3 : ∀ k (hk : k < qs.length), ∃ A' c', w.cell? ⟨b, off + k * 3, none⟩ = some (.int .i64 qs[k].d) ∧ w.cell? ⟨b, off + k * 3 + 1, none⟩ = some (.int .i64 qs[k].r) ∧ w.cell? ⟨b, off + k * 3 + 2, none⟩ = some (.slice A' qs[k].s.length c') ∧ Ints w A' qs[k].s ∧ qs[k].s.length ≤ 9223372036854775807 := by
      intro k hk
      obtain ⟨b', off', A', c', r, hA, hx, h0, h1, h2, hi, hl⟩ := h k hk
      injection hA with hA
      injection hA with hb ho
      subst hb ho
      rw [List.getElem?_eq_getElem hk] at hx
      injection hx with hx
      subst hx
      exact ⟨A', c', h0, h1, h2, hi, hl⟩
    have some_at : ∀ j, j < qs.length * 3 → ∃ v, w.cell? ⟨b, off + j, none⟩ = some v ∧ v.oneCell' = true := by
      intro j hj
      obtain ⟨A', c', h0, h1, h2, _⟩ := at3 (j / 3) (by omega)
      have e : j = j / 3 * 3 ∨ j = j / 3 * 3 + 1 ∨ j = j / 3 * 3 + 2 := by omega
      rcases e with e | e | e
      · exact ⟨_, by rw [e]; exact h0, rfl⟩
      · exact ⟨_, by rw [e]; exact h1, rfl⟩
      · exact ⟨_, by rw [e]; exact h2, rfl⟩
    have hat : ∀ j, j < qs.length * 3 → ((List.range (qs.length * 3)).map fun j => (w.cell? ⟨b, off + j, none⟩).getD (.int .i64 0))[j]? = w.cell? ⟨b, off + j, none⟩ := by
      intro j hj
      obtain ⟨v, hv, _⟩ := some_at j hj
      rw [List.getElem?_map, List.getElem?_range hj]
      simp [hv]
    refine ⟨(List.range (qs.length * 3)).map fun j => (w.cell? ⟨b, off + j, none⟩).getD (.int .i64 0), ?_, by simp, ?_, ?_⟩
    · intro j u hu
      have hj : j < qs.length * 3 := by simpa using (List.getElem?_eq_some_iff.1 hu).1
      exact ⟨b, off, rfl, by rw [← hat j hj]; exact hu⟩
    · intro u hu
      obtain ⟨j, hj⟩ := List.getElem?_of_mem hu
      have hjl : j < qs.length * 3 := by simpa using (List.getElem?_eq_some_iff.1 hj).1
      obtain ⟨v, hv, h1⟩ := some_at j hjl
      rw [hat j hjl, hv] at hj
      injection hj with hj
      subst hj
      exact h1
    · intro k r hr
      have hk : k < qs.length := (List.getElem?_eq_some_iff.1 hr).1
      obtain ⟨A', c', h0, h1, h2, h3, h4⟩ := at3 k hk
      rw [List.getElem?_eq_getElem hk] at hr
      injection hr with hr
      subst hr
      exact ⟨A', c', by rw [hat _ (by omega)]; exact h0, by rw [hat _ (by omega)]; exact h1, by rw [hat _ (by omega)]; exact h2, h3, h4⟩
theorem CellsRows.storeT {w : World} {lo hi : Nat} {cs : List Value} {rs : List RowD} {lo2 hi2 : Nat} {e2 : TypeId} {sz2 : Nat} {g n2 c2 : Nat} {cs2 : List Value}
    (h : CellsRows w lo hi cs rs) (h2 : OwnC w lo2 hi2 e2 sz2 (some ⟨g, 0, none⟩) n2 c2 cs2) (ht : (2 : TypeId) ≠ e2) (j : Nat) (u : Value) : CellsRows (w.setCell ⟨g, j, none⟩ u) lo hi cs rs :=
  h.keepT fun k cur _ _ hk => Below.heap_setCell w ⟨g, j, none⟩ u k (by
    rintro rfl
    rcases h2.form with ⟨hA, _⟩ | ⟨q, cur2, hA, _, _, hh, _⟩
    · cases hA
    · injection hA with hA
      injection hA with hA
      subst hA
      rw [hk] at hh
      injection hh with hh
      injection hh with _ hh
      exact ht hh)


end Go.Proofs.Ythjamohaeahipaa
