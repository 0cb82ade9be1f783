/- Steps of the proof, joined from several texts: YA YB ZA XD XE. -/
import Derived.Test.YthjamohaeahipaaGreatZ7
import Derived.Test.YthjamohaeahipaaGreatZ5
import Derived.Lib.AppendZerosOnto
import Derived.Lib.AppendZeros

/- The letters of two blocks that change places. -/
namespace Go.Proofs.YthjamohaeahipaaGreat
open Go.RowKit

def swRow (p s : Int) : Nat → List Int
  | 0 => []
  | k + 1 => (s * (p + (k : Int) + 1)) :: swRow p s k
def swTo (place s : Int) (a : Nat) : Nat → List Int
  | 0 => []
  | t + 1 => swTo place s a t ++ swRow (place + (t : Int)) s a
theorem swRow_length (p s : Int) (a : Nat) : (swRow p s a).length = a := by
  induction a with
  | zero => rfl
  | succ a ih => simp [swRow, ih]
theorem swTo_length (place s : Int) (a b : Nat) : (swTo place s a b).length = a * b := by
  induction b with
  | zero => rfl
  | succ b ih => rw [swTo, List.length_append, ih, swRow_length, Nat.mul_succ]

set_option maxHeartbeats 2000000 in
set_option maxRecDepth 10000 in
theorem spec_l03Swap_p (place : Int) (a b : Nat) (w : World) (hp : 0 ≤ place ∧ place ≤ 1000) (ha : a ≤ 100) (hb : b ≤ 100) :
    Calls Tryz.prog 81 #[.int .i64 place, .int .i64 a, .int .i64 b, .int .i64 1] w fun e w' => ∃ A' c', e = .returned (.slice A' (swTo place 1 a b).length c') ∧ OwnI w' w.heap.size w'.heap.size A' c' (swTo place 1 a b) ∧ Below w.heap.size w w' := by
  obtain ⟨i0, hi0, hz0, hz1, hz2⟩ := info_parts info_int64
  obtain ⟨hp0, hp1⟩ := hp
  have o1 := (OwnC.lit (w := w) (lo := w.heap.size) (n := 0) 2 1 #[] (Nat.le_refl _) (Nat.zero_le _) rfl).mono (Nat.le_refl _) (show w.heap.size + 1 ≤ (w.alloc (.cells #[] 2)).heap.size by simp)
  have O1 := Lib.hid o1; clear o1
  have hb1 : Below w.heap.size w (w.alloc (.cells #[] 2)) := by (repeat (first | exact Below.refl _ _ | assumption | apply Below.drew | apply below_drewN | (refine Below.alloc ?_ (by first | omega | (simp; done) | (simp; omega)) _) | (refine Below.setCell ?_ (by first | omega | (simp; done) | (simp; omega)) _)))
  go_enter Tryz.func81, Tryz.ntmps81
  go_wp2_with (fail)
  go_loopw [9, 10] (fun ov tv wr => ∃ (t : Nat) (A' : Option Addr) (c' : Nat) (out : List Int), t ≤ b ∧ tv = .int .i64 t ∧ ov = .slice A' out.length c' ∧ OwnI wr w.heap.size wr.heap.size A' c' out ∧ Below w.heap.size w wr ∧ Hid (out = swTo place 1 a t) ∧ out.length ≤ 100 * t) (fun _ tv _ => b - (intOf tv).toNat)
  case atStart => exact ⟨0, some ⟨w.heap.size, 0, none⟩, 0, [], Nat.zero_le _, rfl, rfl, O1.out, hb1, Lib.hid rfl, by simp⟩
  case round =>
    obtain ⟨t, A', c', out, ht, rfl, rfl, ho, hbr, HO, hol⟩ := hrel
    have hzr := hbr.size
    by_cases htb : t < b
    · have hd : decide ((t : Int) < (b : Int)) = true := decide_eq_true (by omega)
      have HN : Hid (swTo place 1 a (t + 1) = out ++ swRow (place + (t : Int)) 1 a) := Lib.hid (by rw [swTo, HO.out])
      clear HO hd
      go_wp2_with (fail)
      go_loopw [9, 11] (fun ov kv ws => ∃ (j : Nat) (A3 : Option Addr) (c3 : Nat) (done : List Int), j ≤ a ∧ kv = .int .i64 ((j : Int) - 1) ∧ ov = .slice A3 done.length c3 ∧ OwnI ws w.heap.size ws.heap.size A3 c3 done ∧ Below w.heap.size w ws ∧ Hid (swTo place 1 a (t + 1) = done ++ swRow (place + (t : Int)) 1 j) ∧ done.length + j ≤ 100 * t + a) (fun _ kv _ => (intOf kv + 1).toNat)
      case atStart => exact ⟨a, A', c', out, Nat.le_refl _, rfl, rfl, ho, hbr, HN, by omega⟩
      case round =>
        clear ho hbr HN
        obtain ⟨j, A3, c3, done, hj, rfl, rfl, ho, hbs, HN, hdl⟩ := hrel
        have hzs := hbs.size
        cases j with
        | succ j =>
          have HN2 : Hid (swTo place 1 a (t + 1) = (done ++ [1 * (place + (t : Int) + (j : Int) + 1)]) ++ swRow (place + (t : Int)) 1 j) := Lib.hid (by rw [HN.out, swRow, List.append_assoc]; rfl)
          clear HN
          have e1 : ((j + 1 : Nat) : Int) - 1 = (j : Int) := by push_cast; omega
          rw [e1]
          have hd2 : decide ((j : Int) ≥ 0) = true := decide_eq_true (by omega)
          go_wp2_with (at_builtin; refine wpList_append1 wr [.int .i64 (place + (t : Int) + (j : Int) + 1)] _ rfl (.tmp 24) (.tmp 33) _ rfl 2 i0 _ 1 8 Tryz.underlying24 hi0 hz0 hz1 hz2 rfl (by decide) rfl ho hzs 1 rfl rfl (by simp [Value.oneCell']) (by omega) (by decide) ?_; intro A5 c5 w5 ho5 hg5 hb5 hz5)
          refine ⟨⟨j, A5, c5, done ++ [1 * (place + (t : Int) + (j : Int) + 1)], by omega, rfl, by simp, ?_, hbs.trans hb5, HN2, by simp; omega⟩, by first | (simp [intOf]; done) | (simp [intOf]; omega)⟩
          rw [show 1 * (place + (t : Int) + (j : Int) + 1) = (place + (t : Int) + (j : Int) + 1) by omega]
          show OwnC _ _ _ _ _ _ _ _ _
          rw [List.map_append, List.length_append]
          exact ho5
        | zero =>
          have HE : Hid (swTo place 1 a (t + 1) = done) := Lib.hid (by rw [HN.out, swRow, List.append_nil])
          clear HN
          have e1 : ((0 : Nat) : Int) - 1 = -1 := by omega
          rw [e1]
          go_wp2_with (fail)
          refine ⟨⟨t + 1, A3, c3, done, by omega, by go_num, rfl, ho, hbs, Lib.hid HE.out.symm, by omega⟩, by simp [intOf]; omega⟩
    · obtain rfl : t = b := by omega
      go_wp2_with (fail)
      go_ret
      rw [← HO.out]
      exact ⟨A', c', rfl, ho, hbr⟩

set_option maxHeartbeats 2000000 in
set_option maxRecDepth 10000 in
theorem spec_l03Swap_n (place : Int) (a b : Nat) (w : World) (hp : 0 ≤ place ∧ place ≤ 1000) (ha : a ≤ 100) (hb : b ≤ 100) :
    Calls Tryz.prog 81 #[.int .i64 place, .int .i64 a, .int .i64 b, .int .i64 (-1)] w fun e w' => ∃ A' c', e = .returned (.slice A' (swTo place (-1) a b).length c') ∧ OwnI w' w.heap.size w'.heap.size A' c' (swTo place (-1) a b) ∧ Below w.heap.size w w' := by
  obtain ⟨i0, hi0, hz0, hz1, hz2⟩ := info_parts info_int64
  obtain ⟨hp0, hp1⟩ := hp
  have o1 := (OwnC.lit (w := w) (lo := w.heap.size) (n := 0) 2 1 #[] (Nat.le_refl _) (Nat.zero_le _) rfl).mono (Nat.le_refl _) (show w.heap.size + 1 ≤ (w.alloc (.cells #[] 2)).heap.size by simp)
  have O1 := Lib.hid o1; clear o1
  have hb1 : Below w.heap.size w (w.alloc (.cells #[] 2)) := by (repeat (first | exact Below.refl _ _ | assumption | apply Below.drew | apply below_drewN | (refine Below.alloc ?_ (by first | omega | (simp; done) | (simp; omega)) _) | (refine Below.setCell ?_ (by first | omega | (simp; done) | (simp; omega)) _)))
  go_enter Tryz.func81, Tryz.ntmps81
  go_wp2_with (fail)
  go_loopw [9, 10] (fun ov tv wr => ∃ (t : Nat) (A' : Option Addr) (c' : Nat) (out : List Int), t ≤ b ∧ tv = .int .i64 t ∧ ov = .slice A' out.length c' ∧ OwnI wr w.heap.size wr.heap.size A' c' out ∧ Below w.heap.size w wr ∧ Hid (out = swTo place (-1) a t) ∧ out.length ≤ 100 * t) (fun _ tv _ => b - (intOf tv).toNat)
  case atStart => exact ⟨0, some ⟨w.heap.size, 0, none⟩, 0, [], Nat.zero_le _, rfl, rfl, O1.out, hb1, Lib.hid rfl, by simp⟩
  case round =>
    obtain ⟨t, A', c', out, ht, rfl, rfl, ho, hbr, HO, hol⟩ := hrel
    have hzr := hbr.size
    by_cases htb : t < b
    · have hd : decide ((t : Int) < (b : Int)) = true := decide_eq_true (by omega)
      have HN : Hid (swTo place (-1) a (t + 1) = out ++ swRow (place + (t : Int)) (-1) a) := Lib.hid (by rw [swTo, HO.out])
      clear HO hd
      go_wp2_with (fail)
      go_loopw [9, 11] (fun ov kv ws => ∃ (j : Nat) (A3 : Option Addr) (c3 : Nat) (done : List Int), j ≤ a ∧ kv = .int .i64 ((j : Int) - 1) ∧ ov = .slice A3 done.length c3 ∧ OwnI ws w.heap.size ws.heap.size A3 c3 done ∧ Below w.heap.size w ws ∧ Hid (swTo place (-1) a (t + 1) = done ++ swRow (place + (t : Int)) (-1) j) ∧ done.length + j ≤ 100 * t + a) (fun _ kv _ => (intOf kv + 1).toNat)
      case atStart => exact ⟨a, A', c', out, Nat.le_refl _, rfl, rfl, ho, hbr, HN, by omega⟩
      case round =>
        clear ho hbr HN
        obtain ⟨j, A3, c3, done, hj, rfl, rfl, ho, hbs, HN, hdl⟩ := hrel
        have hzs := hbs.size
        cases j with
        | succ j =>
          have HN2 : Hid (swTo place (-1) a (t + 1) = (done ++ [(-1) * (place + (t : Int) + (j : Int) + 1)]) ++ swRow (place + (t : Int)) (-1) j) := Lib.hid (by rw [HN.out, swRow, List.append_assoc]; rfl)
          clear HN
          have e1 : ((j + 1 : Nat) : Int) - 1 = (j : Int) := by push_cast; omega
          rw [e1]
          have hd2 : decide ((j : Int) ≥ 0) = true := decide_eq_true (by omega)
          go_wp2_with (at_builtin; refine wpList_append1 wr [.int .i64 (-(place + (t : Int) + (j : Int) + 1))] _ rfl (.tmp 24) (.tmp 33) _ rfl 2 i0 _ 1 8 Tryz.underlying24 hi0 hz0 hz1 hz2 rfl (by decide) rfl ho hzs 1 rfl rfl (by simp [Value.oneCell']) (by omega) (by decide) ?_; intro A5 c5 w5 ho5 hg5 hb5 hz5)
          refine ⟨⟨j, A5, c5, done ++ [(-1) * (place + (t : Int) + (j : Int) + 1)], by omega, rfl, by simp, ?_, hbs.trans hb5, HN2, by simp; omega⟩, by first | (simp [intOf]; done) | (simp [intOf]; omega)⟩
          rw [show (-1) * (place + (t : Int) + (j : Int) + 1) = (-(place + (t : Int) + (j : Int) + 1)) by omega]
          show OwnC _ _ _ _ _ _ _ _ _
          rw [List.map_append, List.length_append]
          exact ho5
        | zero =>
          have HE : Hid (swTo place (-1) a (t + 1) = done) := Lib.hid (by rw [HN.out, swRow, List.append_nil])
          clear HN
          have e1 : ((0 : Nat) : Int) - 1 = -1 := by omega
          rw [e1]
          go_wp2_with (fail)
          refine ⟨⟨t + 1, A3, c3, done, by omega, by go_num, rfl, ho, hbs, Lib.hid HE.out.symm, by omega⟩, by simp [intOf]; omega⟩
    · obtain rfl : t = b := by omega
      go_wp2_with (fail)
      go_ret
      rw [← HO.out]
      exact ⟨A', c', rfl, ho, hbr⟩

set_option maxHeartbeats 2000000 in
set_option maxRecDepth 10000 in
theorem impl_blockLetters_p (place : Int) (a b : Nat) (w : World) (hp : 0 ≤ place ∧ place ≤ 1000) (ha : a ≤ 100) (hb : b ≤ 100) :
    Calls Tryz.prog 95 #[.int .i64 place, .int .i64 a, .int .i64 b, .int .i64 1] w fun e w' => ∃ A' c', e = .returned (.slice A' (swTo place 1 a b).length c') ∧ OwnI w' w.heap.size w'.heap.size A' c' (swTo place 1 a b) ∧ Below w.heap.size w w' := by
  obtain ⟨i0, hi0, hz0, hz1, hz2⟩ := info_parts info_int64
  obtain ⟨hp0, hp1⟩ := hp
  have o1 := (OwnC.lit (w := w) (lo := w.heap.size) (n := 0) 2 1 #[] (Nat.le_refl _) (Nat.zero_le _) rfl).mono (Nat.le_refl _) (show w.heap.size + 1 ≤ (w.alloc (.cells #[] 2)).heap.size by simp)
  have O1 := Lib.hid o1; clear o1
  have hb1 : Below w.heap.size w (w.alloc (.cells #[] 2)) := by (repeat (first | exact Below.refl _ _ | assumption | apply Below.drew | apply below_drewN | (refine Below.alloc ?_ (by first | omega | (simp; done) | (simp; omega)) _) | (refine Below.setCell ?_ (by first | omega | (simp; done) | (simp; omega)) _)))
  go_enter Tryz.func95, Tryz.ntmps95
  go_wp2_with (fail)
  go_loopw [9, 14] (fun ov tv wr => ∃ (t : Nat) (A' : Option Addr) (c' : Nat) (out : List Int), t ≤ b ∧ tv = .int .i64 t ∧ ov = .slice A' out.length c' ∧ OwnI wr w.heap.size wr.heap.size A' c' out ∧ Below w.heap.size w wr ∧ Hid (out = swTo place 1 a t) ∧ out.length ≤ 100 * t) (fun _ tv _ => b - (intOf tv).toNat)
  case atStart => exact ⟨0, some ⟨w.heap.size, 0, none⟩, 0, [], Nat.zero_le _, rfl, rfl, O1.out, hb1, Lib.hid rfl, by simp⟩
  case round =>
    obtain ⟨t, A', c', out, ht, rfl, rfl, ho, hbr, HO, hol⟩ := hrel
    have hzr := hbr.size
    by_cases htb : t < b
    · have hd : decide ((t : Int) < (b : Int)) = true := decide_eq_true (by omega)
      have HN : Hid (swTo place 1 a (t + 1) = out ++ swRow (place + (t : Int)) 1 a) := Lib.hid (by rw [swTo, HO.out])
      clear HO hd
      go_wp2_with (fail)
      go_loopw [9, 11] (fun ov kv ws => ∃ (j : Nat) (A3 : Option Addr) (c3 : Nat) (done : List Int), j ≤ a ∧ kv = .int .i64 ((j : Int) - 1) ∧ ov = .slice A3 done.length c3 ∧ OwnI ws w.heap.size ws.heap.size A3 c3 done ∧ Below w.heap.size w ws ∧ Hid (swTo place 1 a (t + 1) = done ++ swRow (place + (t : Int)) 1 j) ∧ done.length + j ≤ 100 * t + a) (fun _ kv _ => (intOf kv + 1).toNat)
      case atStart => exact ⟨a, A', c', out, Nat.le_refl _, rfl, rfl, ho, hbr, HN, by omega⟩
      case round =>
        clear ho hbr HN
        obtain ⟨j, A3, c3, done, hj, rfl, rfl, ho, hbs, HN, hdl⟩ := hrel
        have hzs := hbs.size
        cases j with
        | succ j =>
          have HN2 : Hid (swTo place 1 a (t + 1) = (done ++ [1 * (place + (t : Int) + (j : Int) + 1)]) ++ swRow (place + (t : Int)) 1 j) := Lib.hid (by rw [HN.out, swRow, List.append_assoc]; rfl)
          clear HN
          have e1 : ((j + 1 : Nat) : Int) - 1 = (j : Int) := by push_cast; omega
          rw [e1]
          have hd2 : decide ((j : Int) ≥ 0) = true := decide_eq_true (by omega)
          go_wp2_with (at_builtin; refine wpList_append1 wr [.int .i64 (place + (t : Int) + (j : Int) + 1)] _ rfl (.tmp 23) (.tmp 32) _ rfl 2 i0 _ 1 8 Tryz.underlying24 hi0 hz0 hz1 hz2 rfl (by decide) rfl ho hzs 1 rfl rfl (by simp [Value.oneCell']) (by omega) (by decide) ?_; intro A5 c5 w5 ho5 hg5 hb5 hz5)
          refine ⟨⟨j, A5, c5, done ++ [1 * (place + (t : Int) + (j : Int) + 1)], by omega, rfl, by simp, ?_, hbs.trans hb5, HN2, by simp; omega⟩, by first | (simp [intOf]; done) | (simp [intOf]; omega)⟩
          rw [show 1 * (place + (t : Int) + (j : Int) + 1) = (place + (t : Int) + (j : Int) + 1) by omega]
          show OwnC _ _ _ _ _ _ _ _ _
          rw [List.map_append, List.length_append]
          exact ho5
        | zero =>
          have HE : Hid (swTo place 1 a (t + 1) = done) := Lib.hid (by rw [HN.out, swRow, List.append_nil])
          clear HN
          have e1 : ((0 : Nat) : Int) - 1 = -1 := by omega
          rw [e1]
          go_wp2_with (fail)
          refine ⟨⟨t + 1, A3, c3, done, by omega, by go_num, rfl, ho, hbs, Lib.hid HE.out.symm, by omega⟩, by simp [intOf]; omega⟩
    · obtain rfl : t = b := by omega
      go_wp2_with (fail)
      go_ret
      rw [← HO.out]
      exact ⟨A', c', rfl, ho, hbr⟩

set_option maxHeartbeats 2000000 in
set_option maxRecDepth 10000 in
theorem impl_blockLetters_n (place : Int) (a b : Nat) (w : World) (hp : 0 ≤ place ∧ place ≤ 1000) (ha : a ≤ 100) (hb : b ≤ 100) :
    Calls Tryz.prog 95 #[.int .i64 place, .int .i64 a, .int .i64 b, .int .i64 (-1)] w fun e w' => ∃ A' c', e = .returned (.slice A' (swTo place (-1) a b).length c') ∧ OwnI w' w.heap.size w'.heap.size A' c' (swTo place (-1) a b) ∧ Below w.heap.size w w' := by
  obtain ⟨i0, hi0, hz0, hz1, hz2⟩ := info_parts info_int64
  obtain ⟨hp0, hp1⟩ := hp
  have o1 := (OwnC.lit (w := w) (lo := w.heap.size) (n := 0) 2 1 #[] (Nat.le_refl _) (Nat.zero_le _) rfl).mono (Nat.le_refl _) (show w.heap.size + 1 ≤ (w.alloc (.cells #[] 2)).heap.size by simp)
  have O1 := Lib.hid o1; clear o1
  have hb1 : Below w.heap.size w (w.alloc (.cells #[] 2)) := by (repeat (first | exact Below.refl _ _ | assumption | apply Below.drew | apply below_drewN | (refine Below.alloc ?_ (by first | omega | (simp; done) | (simp; omega)) _) | (refine Below.setCell ?_ (by first | omega | (simp; done) | (simp; omega)) _)))
  go_enter Tryz.func95, Tryz.ntmps95
  go_wp2_with (fail)
  go_loopw [9, 14] (fun ov tv wr => ∃ (t : Nat) (A' : Option Addr) (c' : Nat) (out : List Int), t ≤ b ∧ tv = .int .i64 t ∧ ov = .slice A' out.length c' ∧ OwnI wr w.heap.size wr.heap.size A' c' out ∧ Below w.heap.size w wr ∧ Hid (out = swTo place (-1) a t) ∧ out.length ≤ 100 * t) (fun _ tv _ => b - (intOf tv).toNat)
  case atStart => exact ⟨0, some ⟨w.heap.size, 0, none⟩, 0, [], Nat.zero_le _, rfl, rfl, O1.out, hb1, Lib.hid rfl, by simp⟩
  case round =>
    obtain ⟨t, A', c', out, ht, rfl, rfl, ho, hbr, HO, hol⟩ := hrel
    have hzr := hbr.size
    by_cases htb : t < b
    · have hd : decide ((t : Int) < (b : Int)) = true := decide_eq_true (by omega)
      have HN : Hid (swTo place (-1) a (t + 1) = out ++ swRow (place + (t : Int)) (-1) a) := Lib.hid (by rw [swTo, HO.out])
      clear HO hd
      go_wp2_with (fail)
      go_loopw [9, 11] (fun ov kv ws => ∃ (j : Nat) (A3 : Option Addr) (c3 : Nat) (done : List Int), j ≤ a ∧ kv = .int .i64 ((j : Int) - 1) ∧ ov = .slice A3 done.length c3 ∧ OwnI ws w.heap.size ws.heap.size A3 c3 done ∧ Below w.heap.size w ws ∧ Hid (swTo place (-1) a (t + 1) = done ++ swRow (place + (t : Int)) (-1) j) ∧ done.length + j ≤ 100 * t + a) (fun _ kv _ => (intOf kv + 1).toNat)
      case atStart => exact ⟨a, A', c', out, Nat.le_refl _, rfl, rfl, ho, hbr, HN, by omega⟩
      case round =>
        clear ho hbr HN
        obtain ⟨j, A3, c3, done, hj, rfl, rfl, ho, hbs, HN, hdl⟩ := hrel
        have hzs := hbs.size
        cases j with
        | succ j =>
          have HN2 : Hid (swTo place (-1) a (t + 1) = (done ++ [(-1) * (place + (t : Int) + (j : Int) + 1)]) ++ swRow (place + (t : Int)) (-1) j) := Lib.hid (by rw [HN.out, swRow, List.append_assoc]; rfl)
          clear HN
          have e1 : ((j + 1 : Nat) : Int) - 1 = (j : Int) := by push_cast; omega
          rw [e1]
          have hd2 : decide ((j : Int) ≥ 0) = true := decide_eq_true (by omega)
          go_wp2_with (at_builtin; refine wpList_append1 wr [.int .i64 (-(place + (t : Int) + (j : Int) + 1))] _ rfl (.tmp 23) (.tmp 32) _ rfl 2 i0 _ 1 8 Tryz.underlying24 hi0 hz0 hz1 hz2 rfl (by decide) rfl ho hzs 1 rfl rfl (by simp [Value.oneCell']) (by omega) (by decide) ?_; intro A5 c5 w5 ho5 hg5 hb5 hz5)
          refine ⟨⟨j, A5, c5, done ++ [(-1) * (place + (t : Int) + (j : Int) + 1)], by omega, rfl, by simp, ?_, hbs.trans hb5, HN2, by simp; omega⟩, by first | (simp [intOf]; done) | (simp [intOf]; omega)⟩
          rw [show (-1) * (place + (t : Int) + (j : Int) + 1) = (-(place + (t : Int) + (j : Int) + 1)) by omega]
          show OwnC _ _ _ _ _ _ _ _ _
          rw [List.map_append, List.length_append]
          exact ho5
        | zero =>
          have HE : Hid (swTo place (-1) a (t + 1) = done) := Lib.hid (by rw [HN.out, swRow, List.append_nil])
          clear HN
          have e1 : ((0 : Nat) : Int) - 1 = -1 := by omega
          rw [e1]
          go_wp2_with (fail)
          refine ⟨⟨t + 1, A3, c3, done, by omega, by go_num, rfl, ho, hbs, Lib.hid HE.out.symm, by omega⟩, by simp [intOf]; omega⟩
    · obtain rfl : t = b := by omega
      go_wp2_with (fail)
      go_ret
      rw [← HO.out]
      exact ⟨A', c', rfl, ho, hbr⟩

theorem spec_l03Swap (place : Int) (a b : Nat) (s : Int) (w : World) (hs : s = 1 ∨ s = -1) (hp : 0 ≤ place ∧ place ≤ 1000) (ha : a ≤ 100) (hb : b ≤ 100) :
    Calls Tryz.prog 81 #[.int .i64 place, .int .i64 a, .int .i64 b, .int .i64 s] w fun e w' => ∃ A' c', e = .returned (.slice A' (swTo place s a b).length c') ∧ OwnI w' w.heap.size w'.heap.size A' c' (swTo place s a b) ∧ Below w.heap.size w w' := by
  rcases hs with rfl | rfl
  · exact spec_l03Swap_p place a b w hp ha hb
  · exact spec_l03Swap_n place a b w hp ha hb

theorem impl_blockLetters (place : Int) (a b : Nat) (s : Int) (w : World) (hs : s = 1 ∨ s = -1) (hp : 0 ≤ place ∧ place ≤ 1000) (ha : a ≤ 100) (hb : b ≤ 100) :
    Calls Tryz.prog 95 #[.int .i64 place, .int .i64 a, .int .i64 b, .int .i64 s] w fun e w' => ∃ A' c', e = .returned (.slice A' (swTo place s a b).length c') ∧ OwnI w' w.heap.size w'.heap.size A' c' (swTo place s a b) ∧ Below w.heap.size w w' := by
  rcases hs with rfl | rfl
  · exact impl_blockLetters_p place a b w hp ha hb
  · exact impl_blockLetters_n place a b w hp ha hb

end Go.Proofs.YthjamohaeahipaaGreat

/- Doubled braids: the plain functions. -/
namespace Go.Proofs.YthjamohaeahipaaGreat
open Go.RowKit

def sgnI (x : Int) : Int := if x < 0 then -1 else 1
theorem sgnI_cases (x : Int) : sgnI x = 1 ∨ sgnI x = -1 := by unfold sgnI; split <;> simp
def swapL (k : Nat) (xs : List Int) : List Int := (xs.set k (xs.getD (k + 1) 0)).set (k + 1) (xs.getD k 0)
def dblFrom : List Int → List Int → List Int
  | [], _ => []
  | x :: xs, now => swTo (sumI (now.take (x.natAbs - 1))) (sgnI x) (now.getD (x.natAbs - 1) 0).toNat (now.getD (x.natAbs - 1 + 1) 0).toNat ++ dblFrom xs (swapL (x.natAbs - 1) now)
theorem decomp {now : List Int} {k : Nat} {a b : Int} (ha : now[k]? = some a) (hb : now[k + 1]? = some b) : ∃ pre post, now = pre ++ a :: b :: post ∧ pre.length = k ∧ now.take k = pre := by
  have hk := (List.getElem?_eq_some_iff.1 ha).1
  refine ⟨now.take k, now.drop (k + 1 + 1), ?_, by rw [List.length_take]; omega, rfl⟩
  rw [← drop_cons hb, ← drop_cons ha, List.take_append_drop]
theorem getD_of {now : List Int} {k : Nat} {a : Int} (ha : now[k]? = some a) : now.getD k 0 = a := by rw [List.getD_eq_getElem?_getD, ha]; rfl
theorem swapL_at {now : List Int} {k : Nat} {a b : Int} (ha : now[k]? = some a) (hb : now[k + 1]? = some b) : swapL k now = (now.set k b).set (k + 1) a := by
  rw [swapL, getD_of ha, getD_of hb]
theorem swapL_eq {pre post : List Int} {a b : Int} : ((pre ++ a :: b :: post).set pre.length b).set (pre.length + 1) a = pre ++ b :: a :: post := by
  rw [List.set_append_right _ _ (Nat.le_refl _), Nat.sub_self, List.set_cons_zero, List.set_append_right _ _ (by omega), show pre.length + 1 - pre.length = 1 by omega]
  rfl
structure NowB (now : List Int) (n : Nat) (S : Int) : Prop where
  len : now.length = n
  one : ∀ y ∈ now, 1 ≤ y ∧ y ≤ 4
  sum : sumI now = S
theorem sumI_nonneg {xs : List Int} (h : ∀ y ∈ xs, 1 ≤ y ∧ y ≤ 4) : 0 ≤ sumI xs := by
  induction xs with
  | nil => simp [sumI]
  | cons x xs ih =>
    have h1 := h x (by simp)
    have h2 := ih fun y hy => h y (by simp [hy])
    rw [sumI]; omega
theorem NowB.swap {now : List Int} {n k : Nat} {S a b : Int} (h : NowB now n S) (ha : now[k]? = some a) (hb : now[k + 1]? = some b) : NowB (swapL k now) n S ∧ 0 ≤ sumI (now.take k) ∧ sumI (now.take k) + a + b ≤ S := by
  rw [swapL_at ha hb]
  obtain ⟨pre, post, rfl, rfl, hp⟩ := decomp ha hb
  obtain ⟨h1, h2, h3⟩ := h
  rw [swapL_eq, hp]
  simp only [List.length_append, List.length_cons] at h1
  have e : sumI (pre ++ b :: a :: post) = sumI (pre ++ a :: b :: post) := by rw [sumI_append, sumI_append, sumI, sumI, sumI, sumI]; omega
  have hpost := sumI_nonneg (xs := post) (fun y hy => h2 y (by simp [hy]))
  have hpre := sumI_nonneg (xs := pre) (fun y hy => h2 y (by simp [hy]))
  refine ⟨⟨by simp; omega, fun y hy => h2 y ?_, by rw [e, h3]⟩, hpre, ?_⟩
  · simp only [List.mem_append, List.mem_cons] at hy ⊢
    rcases hy with h | h | h | h <;> simp [h]
  · rw [sumI_append, sumI, sumI] at h3; omega
theorem NowB.take {now : List Int} {n : Nat} {S : Int} (h : NowB now n S) (j : Nat) : 0 ≤ sumI (now.take j) ∧ sumI (now.take j) ≤ S := by
  have h1 := sumI_nonneg (xs := now.take j) (fun y hy => h.one y (List.mem_of_mem_take hy))
  have h2 := sumI_nonneg (xs := now.drop j) (fun y hy => h.one y (List.mem_of_mem_drop hy))
  have h3 := h.sum
  rw [← List.take_append_drop j now, sumI_append] at h3
  omega
theorem own_at {w : World} {lo hi g c j : Nat} {now : List Int} {y : Int} (h : OwnI w lo hi (some ⟨g, 0, none⟩) c now) (hy : now[j]? = some y) : w.cell? ⟨g, j, none⟩ = some (.int .i64 y) ∧ w.frozen? ⟨g, j, none⟩ = false ∧ lo ≤ g ∧ g < hi := by
  have hj := (List.getElem?_eq_some_iff.1 hy).1
  obtain ⟨g', hg, h0, h1, hc, hf⟩ := OwnC.cell h (j := j) (by simpa using hj)
  injection hg with hg
  injection hg with hg
  subst hg
  refine ⟨?_, hf, h0, h1⟩
  rw [hc]
  have := (List.getElem?_eq_some_iff.1 hy).2
  simp [this]
theorem own_swap {w : World} {lo hi g c k : Nat} {now : List Int} {a b : Int} (h : OwnI w lo hi (some ⟨g, 0, none⟩) c now) (ha : now[k]? = some a) (hb : now[k + 1]? = some b) :
    OwnI ((w.setCell ⟨g, k, none⟩ (.int .i64 b)).setCell ⟨g, k + 1, none⟩ (.int .i64 a)) lo hi (some ⟨g, 0, none⟩) c (swapL k now) := by
  rw [swapL_at ha hb]
  show OwnC _ _ _ _ _ _ _ _ _
  rw [List.map_set, List.map_set, List.length_set, List.length_set]
  exact (OwnC.store (OwnC.store h _).1 _).1
theorem swRow_mem {p s y : Int} {a : Nat} (h : y ∈ swRow p s a) : ∃ j : Nat, j < a ∧ y = s * (p + (j : Int) + 1) := by
  induction a with
  | zero => simp [swRow] at h
  | succ a ih =>
    rw [swRow, List.mem_cons] at h
    rcases h with h | h
    · exact ⟨a, by omega, h⟩
    · obtain ⟨j, hj, e⟩ := ih h
      exact ⟨j, by omega, e⟩
theorem swTo_mem {p s y : Int} {a b : Nat} (h : y ∈ swTo p s a b) : ∃ j u : Nat, j < a ∧ u < b ∧ y = s * (p + (u : Int) + (j : Int) + 1) := by
  induction b with
  | zero => simp [swTo] at h
  | succ b ih =>
    rw [swTo, List.mem_append] at h
    rcases h with h | h
    · obtain ⟨j, u, hj, hu, e⟩ := ih h
      exact ⟨j, u, hj, by omega, e⟩
    · obtain ⟨j, hj, e⟩ := swRow_mem h
      exact ⟨j, b, hj, by omega, e⟩
theorem now_at {now : List Int} {n k : Nat} {S : Int} (h : NowB now n S) (hk : k < n) : ∃ a, now[k]? = some a ∧ 1 ≤ a ∧ a ≤ 4 := by
  have hl := h.len
  exact ⟨now[k]'(by omega), List.getElem?_eq_getElem (by omega), h.one _ (List.getElem_mem _)⟩
theorem dbl_valid {n : Nat} {S : Int} : ∀ (word now : List Int), (∀ x ∈ word, 1 ≤ x.natAbs ∧ x.natAbs < n) → NowB now n S → lettersB S (dblFrom word now) = true
  | [], _, _, _ => rfl
  | x :: xs, now, hw, hn => by
    obtain ⟨h1, h2⟩ := hw x (by simp)
    obtain ⟨a, ha, a1, a4⟩ := now_at hn (k := x.natAbs - 1) (by omega)
    obtain ⟨b, hb, b1, b4⟩ := now_at hn (k := x.natAbs - 1 + 1) (by omega)
    obtain ⟨hn2, hs0, hs1⟩ := hn.swap ha hb
    rw [dblFrom, getD_of ha, getD_of hb, lettersB, List.all_append, ← lettersB, ← lettersB, dbl_valid xs _ (fun y hy => hw y (by simp [hy])) hn2, Bool.and_true, lettersB, List.all_eq_true]
    intro y hy
    obtain ⟨j, u, hj, hu, rfl⟩ := swTo_mem hy
    have e1 : ((a.toNat : Nat) : Int) = a := by omega
    have e2 : ((b.toNat : Nat) : Int) = b := by omega
    unfold letterB
    rw [Bool.and_eq_true, decide_eq_true_eq, inR_iff]
    rcases sgnI_cases x with e | e <;> rw [e] <;> omega
theorem dbl_length {n : Nat} {S : Int} : ∀ (word now : List Int), (∀ x ∈ word, 1 ≤ x.natAbs ∧ x.natAbs < n) → NowB now n S → (dblFrom word now).length ≤ 16 * word.length
  | [], _, _, _ => by simp [dblFrom]
  | x :: xs, now, hw, hn => by
    obtain ⟨h1, h2⟩ := hw x (by simp)
    obtain ⟨a, ha, a1, a4⟩ := now_at hn (k := x.natAbs - 1) (by omega)
    obtain ⟨b, hb, b1, b4⟩ := now_at hn (k := x.natAbs - 1 + 1) (by omega)
    obtain ⟨hn2, hs0, hs1⟩ := hn.swap ha hb
    have ih := dbl_length xs _ (fun y hy => hw y (by simp [hy])) hn2
    rw [dblFrom, getD_of ha, getD_of hb, List.length_append, swTo_length, List.length_cons]
    have := Nat.mul_le_mul (show a.toNat ≤ 4 by omega) (show b.toNat ≤ 4 by omega)
    omega
/-- Doubled braids, and the braid of a row over stacks. -/
structure BrY where
  n : Int
  xs : List Int
def dbCode (word sizes : List Int) : Int := if braidB sizes.length word then (if (dblFrom word sizes).length ≤ 40 then 0 else 5) else 1
def dbX (word sizes : List Int) : BrY := if dbCode word sizes = 0 then ⟨sumI sizes, dblFrom word sizes⟩ else ⟨0, []⟩
theorem db_err {word sizes : List Int} {k : Int} (e : dbCode word sizes = k) (hk : k ≠ 0) : dbX word sizes = ⟨0, []⟩ ∧ dbCode word sizes = k := ⟨by rw [dbX, if_neg (by rw [e]; exact hk)], e⟩
theorem dbX_size (word sizes : List Int) : (dbX word sizes).xs.length ≤ 40 := by
  unfold dbX
  split
  · rename_i h
    unfold dbCode at h
    split at h
    · split at h
      · assumption
      · simp at h
    · simp at h
  · simp
def rbOk (ks sizes : List Int) : Bool := laidB ks && decide (((takenS ks : Nat) : Int) = (sizes.length : Int))
def rbCode (d r : Int) (ks sizes : List Int) : Int := if rowB d r ks && sizesB sizes then (if rbOk ks sizes then dbCode (lettersFrom ks 0) sizes else 10) else 1
def rbX (d r : Int) (ks sizes : List Int) : BrY := if rbCode d r ks sizes = 0 then dbX (lettersFrom ks 0) sizes else ⟨0, []⟩
theorem rb_err {d r : Int} {ks sizes : List Int} {k : Int} (e : rbCode d r ks sizes = k) (hk : k ≠ 0) : rbX d r ks sizes = ⟨0, []⟩ ∧ rbCode d r ks sizes = k := ⟨by rw [rbX, if_neg (by rw [e]; exact hk)], e⟩
theorem rb_good {d r : Int} {ks sizes : List Int} (h1 : rowB d r ks = true) (h2 : sizesB sizes = true) (h3 : rbOk ks sizes = true) : rbX d r ks sizes = dbX (lettersFrom ks 0) sizes ∧ rbCode d r ks sizes = dbCode (lettersFrom ks 0) sizes := by
  have e : rbCode d r ks sizes = dbCode (lettersFrom ks 0) sizes := by rw [rbCode, h1, h2, h3]; rfl
  refine ⟨?_, e⟩
  by_cases h0 : dbCode (lettersFrom ks 0) sizes = 0
  · rw [rbX, e, if_pos h0]
  · rw [rbX, e, if_neg h0, dbX, if_neg h0]
theorem rbX_size (d r : Int) (ks sizes : List Int) : (rbX d r ks sizes).xs.length ≤ 40 := by
  unfold rbX
  split
  · exact dbX_size _ _
  · simp
theorem nowB_of {xs : List Int} (h : sizesB xs = true) : NowB xs xs.length (sumI xs) ∧ (1 ≤ xs.length ∧ xs.length ≤ 8) ∧ 0 ≤ sumI xs ∧ sumI xs ≤ 12 ∧ sum64 xs = sumI xs := by
  unfold sizesB stacksB at h
  simp only [Bool.and_eq_true, List.all_eq_true, decide_eq_true_eq, inR_iff] at h
  obtain ⟨⟨h1, h2, h3⟩, h4⟩ := h
  have key : ∀ (ys : List Int), (∀ y ∈ ys, 1 ≤ y ∧ y ≤ 4) → ys.length ≤ 8 → 0 ≤ sumI ys ∧ sumI ys ≤ 4 * ys.length := by
    intro ys
    induction ys with
    | nil => simp [sumI]
    | cons y ys ih =>
      intro ha hb
      have := ih (fun z hz => ha z (by simp [hz])) (by simp at hb; omega)
      have := ha y (by simp)
      rw [sumI, List.length_cons]; push_cast; omega
  have e : ∀ k, k ≤ xs.length → sum64 (xs.take k) = sumI (xs.take k) := by
    intro k
    induction k with
    | zero => intro _; simp [sum64, sumI]
    | succ k ih =>
      intro hk
      have hx : xs[k]? = some (xs[k]'(by omega)) := List.getElem?_eq_getElem (by omega)
      rw [take_snoc hx, sum64_snoc, ih (by omega), sumI_append]
      have hk1 := key (xs.take k) (fun y hy => h2 y (List.mem_of_mem_take hy)) (by rw [List.length_take]; omega)
      have hk2 := h2 (xs[k]'(by omega)) (List.getElem_mem _)
      have hk3 : (xs.take k).length ≤ 8 := by rw [List.length_take]; omega
      rw [IntWalk.wrap64_in _ (by omega)]
      simp [sumI]
  have e2 := e xs.length (Nat.le_refl _)
  rw [List.take_length] at e2
  have hk := key xs h2 h3
  exact ⟨⟨rfl, h2, rfl⟩, ⟨by omega, h3⟩, hk.1, by omega, e2⟩

end Go.Proofs.YthjamohaeahipaaGreat

/- Permutations: the plain functions. -/
namespace Go.Proofs.YthjamohaeahipaaGreat
open Go.RowKit

/-- The first descent of a list. -/
def firstDes : List Int → Option Nat
  | a :: b :: xs => if b < a then some 0 else (firstDes (b :: xs)).map (· + 1)
  | _ => none
def invs : List Int → Nat
  | [] => 0
  | x :: xs => xs.countP (fun y => decide (y < x)) + invs xs
def permFuel : Nat → List Int → List Int
  | 0, _ => []
  | f + 1, xs => match firstDes xs with
    | none => []
    | some k => (k : Int) :: permFuel f (swapL k xs)
/-- The exchanges that sort a list, the leftmost one first. -/
def permWord (xs : List Int) : List Int := permFuel (invs xs) xs
theorem firstDes_some {xs : List Int} : ∀ {k : Nat}, firstDes xs = some k → ∃ a b, xs[k]? = some a ∧ xs[k + 1]? = some b ∧ b < a := by
  induction xs with
  | nil => intro k h; simp [firstDes] at h
  | cons a xs ih =>
    intro k h
    cases xs with
    | nil => simp [firstDes] at h
    | cons b xs =>
      rw [firstDes] at h
      split at h
      · rename_i hab
        injection h with h
        subst h
        exact ⟨a, b, rfl, rfl, hab⟩
      · rw [Option.map_eq_some_iff] at h
        obtain ⟨j, hj, rfl⟩ := h
        obtain ⟨a', b', h1, h2, h3⟩ := ih hj
        exact ⟨a', b', by simpa using h1, by simpa using h2, h3⟩
theorem firstDes_before {xs : List Int} : ∀ {j : Nat} {a b : Int}, (∀ k, firstDes xs = some k → j < k) → xs[j]? = some a → xs[j + 1]? = some b → ¬ b < a := by
  induction xs with
  | nil => intro j a b _ h; simp at h
  | cons x xs ih =>
    intro j a b hk ha hb
    cases xs with
    | nil => simp at hb
    | cons y xs =>
      rw [firstDes] at hk
      by_cases hxy : y < x
      · rw [if_pos hxy] at hk
        have := hk 0 rfl
        omega
      · rw [if_neg hxy] at hk
        cases j with
        | zero =>
          simp at ha hb
          subst ha hb
          exact hxy
        | succ j =>
          refine ih (fun k h => ?_) (by simpa using ha) (by simpa using hb)
          have := hk (k + 1) (by rw [h]; rfl)
          omega
theorem firstDes_of {xs : List Int} {k : Nat} {a b : Int} (h1 : ∀ j, j < k → ∀ a b, xs[j]? = some a → xs[j + 1]? = some b → ¬ b < a) (ha : xs[k]? = some a) (hb : xs[k + 1]? = some b) (hab : b < a) : firstDes xs = some k := by
  cases hf : firstDes xs with
  | none => exact absurd hab (firstDes_before (fun k h => by rw [hf] at h; cases h) ha hb)
  | some m =>
    obtain ⟨a', b', h2, h3, h4⟩ := firstDes_some hf
    rcases Nat.lt_trichotomy m k with h | h | h
    · exact absurd h4 (h1 m h a' b' h2 h3)
    · rw [h]
    · exact absurd hab (firstDes_before (fun j hj => by rw [hf] at hj; injection hj with hj; omega) ha hb)
theorem firstDes_none {xs : List Int} (h : ∀ j a b, xs[j]? = some a → xs[j + 1]? = some b → ¬ b < a) : firstDes xs = none := by
  cases hf : firstDes xs with
  | none => rfl
  | some m =>
    obtain ⟨a, b, h2, h3, h4⟩ := firstDes_some hf
    exact absurd h4 (h m a b h2 h3)
theorem invs_swap {a b : Int} (hab : b < a) (post : List Int) : ∀ (pre : List Int), invs (pre ++ a :: b :: post) = invs (pre ++ b :: a :: post) + 1
  | [] => by
    simp only [List.nil_append, invs, List.countP_cons]
    rw [if_pos (by simpa using hab), if_neg (by simp; omega)]
    omega
  | x :: pre => by
    rw [List.cons_append, List.cons_append, invs, invs, invs_swap hab post pre, List.countP_append, List.countP_append, List.countP_cons, List.countP_cons, List.countP_cons, List.countP_cons]
    omega
theorem invs_step {xs : List Int} {k : Nat} (h : firstDes xs = some k) : invs xs = invs (swapL k xs) + 1 := by
  obtain ⟨a, b, ha, hb, hab⟩ := firstDes_some h
  rw [swapL_at ha hb]
  obtain ⟨pre, post, rfl, rfl, _⟩ := decomp ha hb
  rw [swapL_eq, invs_swap hab]
theorem permWord_none {xs : List Int} (h : firstDes xs = none) : permWord xs = [] := by
  unfold permWord
  cases invs xs with
  | zero => rfl
  | succ n => rw [permFuel, h]
theorem permWord_some {xs : List Int} {k : Nat} (h : firstDes xs = some k) : permWord xs = (k : Int) :: permWord (swapL k xs) := by
  unfold permWord
  rw [invs_step h, permFuel, h]
theorem permWord_length (xs : List Int) : (permWord xs).length ≤ invs xs := by
  have key : ∀ (f : Nat) (xs : List Int), (permFuel f xs).length ≤ f := by
    intro f
    induction f with
    | zero => intro xs; simp [permFuel]
    | succ f ih =>
      intro xs
      rw [permFuel]
      split
      · simp
      · rw [List.length_cons]; have := ih (swapL ‹Nat› xs); omega
  exact key _ _
theorem invs_le (xs : List Int) : invs xs ≤ xs.length * xs.length := by
  induction xs with
  | nil => simp [invs]
  | cons x xs ih =>
    have h := List.countP_le_length (p := fun y => decide (y < x)) (l := xs)
    rw [invs, List.length_cons]
    have e : (xs.length + 1) * (xs.length + 1) = xs.length * xs.length + 2 * xs.length + 1 := by simp [Nat.add_mul, Nat.mul_add]; omega
    omega

end Go.Proofs.YthjamohaeahipaaGreat

/- Charts: slices.Grow, slices.Concat, copies of rows. -/
namespace Go.Proofs.YthjamohaeahipaaGreat
open Go.RowKit

/-- The cells at an address, wherever they lie. -/
def CellsAt (w : World) (A : Option Addr) (cs : List Value) : Prop := ∀ (j : Nat) (u : Value), cs[j]? = some u → ∃ b off, A = some ⟨b, off, none⟩ ∧ w.cell? ⟨b, off + j, none⟩ = some u
theorem CellsAt.of_cells {w w' : World} {A : Option Addr} {cs : List Value} (h : CellsAt w A cs) (hk : ∀ a v, w.cell? a = some v → w'.cell? a = some v) : CellsAt w' A cs :=
  fun j u hu => by obtain ⟨b, off, hA, hc⟩ := h j u hu; exact ⟨b, off, hA, hk _ _ hc⟩
theorem CellsAt.below {w w' : World} {A : Option Addr} {cs : List Value} (h : CellsAt w A cs) (hb : Below w.heap.size w w') : CellsAt w' A cs := h.of_cells (cells_below hb)
theorem OwnC.cellsAt {w : World} {lo hi : Nat} {e : TypeId} {sz : Nat} {A : Option Addr} {n c : Nat} {cs : List Value} (h : OwnC w lo hi e sz A n c cs) : CellsAt w A cs := by
  intro j u hu
  have hj := (List.getElem?_eq_some_iff.1 hu).1
  obtain ⟨g, hA, _, _, hc, _⟩ := h.cell hj
  refine ⟨g, 0, hA, ?_⟩
  rw [Nat.zero_add, hc, ← hu, List.getElem?_eq_getElem hj]
structure PartD where
  n : Nat
  cs : List Value
def partsN : List PartD → Nat
  | [] => 0
  | p :: r => p.n + partsN r
def partsC : List PartD → List Value
  | [] => []
  | p :: r => p.cs ++ partsC r
theorem partsN_append (a b : List PartD) : partsN (a ++ b) = partsN a + partsN b := by
  induction a with
  | nil => simp [partsN]
  | cons x r ih => simp [partsN, ih]; omega
theorem partsC_append (a b : List PartD) : partsC (a ++ b) = partsC a ++ partsC b := by
  induction a with
  | nil => simp [partsC]
  | cons x r ih => simp [partsC, ih]
theorem partsN_snoc {ps : List PartD} {k : Nat} {p : PartD} (h : ps[k]? = some p) : partsN (ps.take (k + 1)) = partsN (ps.take k) + p.n := by
  rw [take_snoc h, partsN_append]; simp [partsN]
theorem partsC_snoc {ps : List PartD} {k : Nat} {p : PartD} (h : ps[k]? = some p) : partsC (ps.take (k + 1)) = partsC (ps.take k) ++ p.cs := by
  rw [take_snoc h, partsC_append]; simp [partsC]
theorem partsN_take_le (ps : List PartD) (k : Nat) : partsN (ps.take k) ≤ partsN ps := by
  have := partsN_append (ps.take k) (ps.drop k)
  rw [List.take_append_drop] at this
  omega
theorem partsN_at {ps : List PartD} {k : Nat} {p : PartD} (h : ps[k]? = some p) : partsN (ps.take k) + p.n ≤ partsN ps := by
  rw [← partsN_snoc h]; exact partsN_take_le _ _
/-- A slice of slices, whose cells are known. -/
def SlicesAt (w : World) (A : Option Addr) (sz : Nat) (ps : List PartD) : Prop :=
  ∀ k, k < ps.length → ∃ b off A' c' p, A = some ⟨b, off, none⟩ ∧ ps[k]? = some p ∧ p.cs.length = p.n * sz ∧ (∀ u ∈ p.cs, u.oneCell' = true) ∧ w.cell? ⟨b, off + k, none⟩ = some (.slice A' p.n c') ∧ CellsAt w A' p.cs
theorem SlicesAt.of_cells {w w' : World} {A : Option Addr} {sz : Nat} {ps : List PartD} (h : SlicesAt w A sz ps) (hk : ∀ a v, w.cell? a = some v → w'.cell? a = some v) : SlicesAt w' A sz ps :=
  fun k hk' => by
    obtain ⟨b, off, A', c', p, hA, hx, hn, h1, hc, hi⟩ := h k hk'
    exact ⟨b, off, A', c', p, hA, hx, hn, h1, hk _ _ hc, hi.of_cells hk⟩
theorem SlicesAt.below {w w' : World} {A : Option Addr} {sz : Nat} {ps : List PartD} (h : SlicesAt w A sz ps) (hb : Below w.heap.size w w') : SlicesAt w' A sz ps := h.of_cells (cells_below hb)
def partOf (xs : List Int) : PartD := ⟨xs.length, xs.map (Value.int .i64)⟩
theorem partsN_of (xss : List (List Int)) : partsN (xss.map partOf) = cntII xss := by
  induction xss with
  | nil => rfl
  | cons x r ih => simp [partsN, cntII, partOf, ih]
theorem partsC_of (xss : List (List Int)) : partsC (xss.map partOf) = xss.flatten.map (Value.int .i64) := by
  induction xss with
  | nil => rfl
  | cons x r ih => simp [partsC, partOf, ih]
theorem length_flatten (xss : List (List Int)) : xss.flatten.length = cntII xss := by
  induction xss with
  | nil => rfl
  | cons x r ih => simp [cntII, ih]
theorem Ints2.slices {w : World} {A : Option Addr} {xss : List (List Int)} (h : Ints2 w A xss) : SlicesAt w A 1 (xss.map partOf) := by
  intro k hk
  obtain ⟨b, off, A', c', xs, hA, hx, hc, hi, _⟩ := h k (by simpa using hk)
  exact ⟨b, off, A', c', partOf xs, hA, by rw [List.getElem?_map, hx]; rfl, by simp [partOf], ints_one _, hc, hi.news⟩
theorem zeroCells_size (z : Array Value) (k : Nat) : (Builtin.zeroCells z k).size = k * z.size := by simp [Builtin.zeroCells]

set_option maxHeartbeats 2000000 in
set_option maxRecDepth 100000 in
theorem slices_Grow_int64_int64 (n : Nat) (w : World) (hn : n ≤ 1000000) :
    Calls Tryz.prog 78 #[.slice none 0 0, .int .i64 n] w fun e w' => ∃ A' c', e = .returned (.slice A' 0 c') ∧ OwnC w' w.heap.size w'.heap.size 2 1 A' 0 c' [] ∧ Below w.heap.size w w' := by
  obtain ⟨i0, hi0, hz0, hz1, hz2⟩ := info_parts info_int64
  by_cases h0 : n = 0
  · subst h0
    rw [show ((0 : Nat) : Int) = 0 from rfl]
    go_enter Tryz.func78, Tryz.ntmps78
    go_wp2_with (fail)
    go_ret
    exact ⟨none, 0, rfl, OwnC.nil _ _ _ _ _, Below.refl _ _⟩
  · have hpos : 0 < n := by omega
    have hold : (Builtin.firstCells i0.size 0 (.slice none 0 0)).run Tryz.prog w.drew = .ok ([] : List Value).toArray w.drew := run_firstCells_none w.drew i0.size 0 0 0
    have hrz : ∀ ty, (Builtin.append_ #[24, 3] ty #[.slice none 0 0, .int .i64 n]).run Tryz.prog w = .ok (.slice (some ⟨w.heap.size, 0, none⟩) (0 + n) (grownCap w (0 + n) 0 2)) (w.drew.alloc (.cells (([] : List Value).toArray ++ Builtin.zeroCells _ n ++ Builtin.zeroCells _ (grownCap w (0 + n) 0 2 - (0 + n))) 2)) := fun ty =>
      Lib.run_append_grow_zeros w 24 3 ty 2 i0 _ .i64 .i64 Tryz.underlying24 Tryz.underlying3 hi0 hz0 none 0 0 [] hold n hpos (by rw [hz1]; decide) (by omega) (by omega) (by rw [hz2]; omega) (growslice_fits (by omega) (by rw [hz2]; omega))
    have hGn : 0 + n ≤ grownCap w (0 + n) 0 2 := grownCap_ge w _ _ _
    have hGm : grownCap w (0 + n) 0 2 ≤ maxLen := grownCap_le_maxLen w (0 + n) 0 2 (by unfold maxLen; omega)
    simp only [Nat.zero_add] at hrz hGn hGm
    obtain ⟨G, hG⟩ : ∃ G, G = grownCap w n 0 2 := ⟨_, rfl⟩
    rw [← hG] at hrz hGn hGm
    have hG63 : G ≤ 9223372036854775807 := by unfold maxLen at hGm; omega
    clear hG hold
    have HRZ := Lib.hid hrz; clear hrz
    have HGM := Lib.hid hGm; clear hGm
    go_enter Tryz.func78, Tryz.ntmps78
    go_wp2_with (at_builtin; refine Lib.wpList_append_run _ rfl _ _ _ _ rfl _ _ rfl rfl _ _ (HRZ.out _) ?_)
    all_goals go_ret
    all_goals
      refine ⟨_, _, rfl, ⟨⟨rfl, .inr ⟨w.heap.size, G, _, rfl, Nat.le_refl _, heap_alloc_new w.drew _, Nat.zero_le _, HGM.out, ?_, by simp⟩⟩, fun a h => by injection h with h; subst h; simp⟩, ?_⟩
      · simp only [Array.size_append, zeroCells_size, List.size_toArray]
        rw [← Nat.add_mul, Nat.add_sub_cancel' hGn]
        rfl
      · exact ((Below.refl _ _).drew).alloc (Nat.le_refl _) _

set_option maxHeartbeats 2000000 in
set_option maxRecDepth 100000 in
theorem slices_Concat_int64_int64 (ps : List PartD) (A : Option Addr) (c : Nat) (w : World) (h : SlicesAt w A 1 ps) (hl : ps.length ≤ 1000000) (hn : partsN ps ≤ 1000000) :
    Calls Tryz.prog 51 #[.slice A ps.length c] w fun e w' => ∃ A' c', e = .returned (.slice A' (partsN ps) c') ∧ OwnC w' w.heap.size w'.heap.size 2 1 A' (partsN ps) c' (partsC ps) ∧ Below w.heap.size w w' := by
  obtain ⟨i0, hi0, hz0, hz1, hz2⟩ := info_parts info_int64
  go_enter Tryz.func51, Tryz.ntmps51
  go_wp2_with (fail)
  go_loop [3, 11] (fun s i => ∃ k : Nat, k ≤ ps.length ∧ i = .int .i64 k ∧ s = .int .i64 (partsN (ps.take k))) (fun _ i => ps.length - (intOf i).toNat)
  case atStart => exact ⟨0, Nat.zero_le _, rfl, rfl⟩
  case round =>
    obtain ⟨k, hk, rfl, rfl⟩ := hrel
    by_cases hlt : k < ps.length
    · obtain ⟨b, off, A', c', p, rfl, hx, hpn, _, hc, hi⟩ := h k hlt
      have hle := partsN_at hx
      have HS : Hid (partsN (ps.take (k + 1)) = partsN (ps.take k) + p.n) := Lib.hid (partsN_snoc hx)
      clear hx
      go_wp2_with (fail)
      go_round
      case rel => exact ⟨k + 1, by omega, by go_num, by rw [HS.out]; go_num⟩
      case measure => simp [intOf]; omega
    · obtain rfl : k = ps.length := by omega
      rw [take_all (Nat.le_refl _)]
      go_wp2_with (fail)
      refine (slices_Grow_int64_int64 (partsN ps) _ hn).mono ?_; rintro e w2 ⟨A2, c2, rfl, o2, b2⟩
      go_wp2_with (fail)
      go_loopw [6, 27] (fun ov iv wr => ∃ (k : Nat) (A3 : Option Addr) (c3 : Nat), k ≤ ps.length ∧ iv = .int .i64 k ∧ ov = .slice A3 (partsN (ps.take k)) c3 ∧ OwnC wr w.heap.size wr.heap.size 2 1 A3 (partsN (ps.take k)) c3 (partsC (ps.take k)) ∧ Below w.heap.size w wr) (fun _ iv _ => ps.length - (intOf iv).toNat)
      case atStart => exact ⟨0, A2, c2, Nat.zero_le _, rfl, rfl, o2, b2⟩
      case round =>
        obtain ⟨k, A3, c3, hk, rfl, rfl, ho, hb⟩ := hrel
        have hzs := hb.size
        by_cases hlt : k < ps.length
        · obtain ⟨b, off, A4, c4, p, rfl, hx, hpn, h1, hc, hi⟩ := (h.below hb) k hlt
          have hle := partsN_at hx
          have HN : Hid (partsN (ps.take (k + 1)) = partsN (ps.take k) + p.n) := Lib.hid (partsN_snoc hx)
          have HC : Hid (partsC (ps.take (k + 1)) = partsC (ps.take k) ++ p.cs) := Lib.hid (partsC_snoc hx)
          have HI := Lib.hid hi
          have H1 := Lib.hid h1
          have HP := Lib.hid hpn
          clear hx hi h1 hpn
          generalize partsN (ps.take k) = m at ho hle HN ⊢
          generalize partsC (ps.take k) = L at ho HC
          go_wp2_with (at_builtin; refine wpList_appendC wr rfl (.tmp 31) (.tmp 32) _ rfl 2 i0 _ 1 8 Tryz.underlying24 hi0 hz0 hz1 hz2 rfl (by decide) rfl ho hzs A4 p.n c4 p.cs rfl HP.out HI.out H1.out (by unfold maxLen; omega) (by omega) ?_; intro A5 c5 w5 ho5 hg5 hb5)
          go_roundw
          case rel => exact ⟨k + 1, A5, c5, by omega, by go_num, by rw [HN.out], by rw [HN.out, HC.out]; exact ho5, hb.trans hb5⟩
          case measure => simp [intOf]; omega
        · obtain rfl : k = ps.length := by omega
          rw [take_all (Nat.le_refl _)] at ho ⊢
          go_wp2_with (fail)
          go_ret
          exact ⟨A3, c3, rfl, ho, hb⟩

/-- The rows whose cells these are; their slices are read where they lie. -/
def SrcRows (w : World) (cs : List Value) (rs : List RowD) : Prop :=
  cs.length = rs.length * 3 ∧ (∀ u ∈ cs, u.oneCell' = true) ∧ ∀ (k : Nat) (r : RowD), rs[k]? = some r → ∃ A' c', cs[k * 3]? = some (.int .i64 r.d) ∧ cs[k * 3 + 1]? = some (.int .i64 r.r) ∧ cs[k * 3 + 2]? = some (.slice A' r.s.length c') ∧ Ints w A' r.s ∧ r.s.length ≤ 9223372036854775807
theorem RowsR.src {w : World} {A : Option Addr} {rs : List RowD} (h : RowsR w A rs) : ∃ cs, CellsAt w A cs ∧ SrcRows w cs rs := by
  cases rs with
  | nil => exact ⟨[], fun j u hu => by simp at hu, rfl, fun u hu => by simp at hu, fun k r hr => by simp at hr⟩
  | cons r0 rs =>
    obtain ⟨b, off, hA⟩ : ∃ b off, A = some ⟨b, off, none⟩ := by
      obtain ⟨b, off, _, _, _, hA, _⟩ := h 0 (by simp)
      exact ⟨b, off, hA⟩
    subst hA
    generalize hrs : r0 :: rs = qs at h
    clear hrs r0 rs
    have at3 : ∀ k (hk : k < qs.length), ∃ A' c', w.cell? ⟨b, off + k * 3, none⟩ = some (.int .i64 qs[k].d) ∧ w.cell? ⟨b, off + k * 3 + 1, none⟩ = some (.int .i64 qs[k].r) ∧ w.cell? ⟨b, off + k * 3 + 2, none⟩ = some (.slice A' qs[k].s.length c') ∧ Ints w A' qs[k].s ∧ qs[k].s.length ≤ 9223372036854775807 := by
      intro k hk
      obtain ⟨b', off', A', c', r, hA, hx, h0, h1, h2, hi, hl⟩ := h k hk
      injection hA with hA
      injection hA with hb ho
      subst hb ho
      rw [List.getElem?_eq_getElem hk] at hx
      injection hx with hx
      subst hx
      exact ⟨A', c', h0, h1, h2, hi, hl⟩
    have some_at : ∀ j, j < qs.length * 3 → ∃ v, w.cell? ⟨b, off + j, none⟩ = some v ∧ v.oneCell' = true := by
      intro j hj
      obtain ⟨A', c', h0, h1, h2, _⟩ := at3 (j / 3) (by omega)
      have e : j = j / 3 * 3 ∨ j = j / 3 * 3 + 1 ∨ j = j / 3 * 3 + 2 := by omega
      rcases e with e | e | e
      · exact ⟨_, by rw [e]; exact h0, rfl⟩
      · exact ⟨_, by rw [e]; exact h1, rfl⟩
      · exact ⟨_, by rw [e]; exact h2, rfl⟩
    have hat : ∀ j, j < qs.length * 3 → ((List.range (qs.length * 3)).map fun j => (w.cell? ⟨b, off + j, none⟩).getD (.int .i64 0))[j]? = w.cell? ⟨b, off + j, none⟩ := by
      intro j hj
      obtain ⟨v, hv, _⟩ := some_at j hj
      rw [List.getElem?_map, List.getElem?_range hj]
      simp [hv]
    refine ⟨(List.range (qs.length * 3)).map fun j => (w.cell? ⟨b, off + j, none⟩).getD (.int .i64 0), ?_, by simp, ?_, ?_⟩
    · intro j u hu
      have hj : j < qs.length * 3 := by simpa using (List.getElem?_eq_some_iff.1 hu).1
      exact ⟨b, off, rfl, by rw [← hat j hj]; exact hu⟩
    · intro u hu
      obtain ⟨j, hj⟩ := List.getElem?_of_mem hu
      have hjl : j < qs.length * 3 := by simpa using (List.getElem?_eq_some_iff.1 hj).1
      obtain ⟨v, hv, h1⟩ := some_at j hjl
      rw [hat j hjl, hv] at hj
      injection hj with hj
      subst hj
      exact h1
    · intro k r hr
      have hk : k < qs.length := (List.getElem?_eq_some_iff.1 hr).1
      obtain ⟨A', c', h0, h1, h2, h3, h4⟩ := at3 k hk
      rw [List.getElem?_eq_getElem hk] at hr
      injection hr with hr
      subst hr
      exact ⟨A', c', by rw [hat _ (by omega)]; exact h0, by rw [hat _ (by omega)]; exact h1, by rw [hat _ (by omega)]; exact h2, h3, h4⟩
theorem CellsRows.storeT {w : World} {lo hi : Nat} {cs : List Value} {rs : List RowD} {lo2 hi2 : Nat} {e2 : TypeId} {sz2 : Nat} {g n2 c2 : Nat} {cs2 : List Value}
    (h : CellsRows w lo hi cs rs) (h2 : OwnC w lo2 hi2 e2 sz2 (some ⟨g, 0, none⟩) n2 c2 cs2) (ht : (2 : TypeId) ≠ e2) (j : Nat) (u : Value) : CellsRows (w.setCell ⟨g, j, none⟩ u) lo hi cs rs :=
  h.keepT fun k cur _ _ hk => Below.heap_setCell w ⟨g, j, none⟩ u k (by
    rintro rfl
    rcases h2.form with ⟨hA, _⟩ | ⟨q, cur2, hA, _, _, hh, _⟩
    · cases hA
    · injection hA with hA
      injection hA with hA
      subst hA
      rw [hk] at hh
      injection hh with hh
      injection hh with _ hh
      exact ht hh)


end Go.Proofs.YthjamohaeahipaaGreat

/- Charts: ifChart, the last columns, own copies. -/
namespace Go.Proofs.YthjamohaeahipaaGreat
open Go.RowKit

theorem chartStacks_last {n : Int} {rs : List RowD} (h : chartB n rs = true) : ∃ m xs, (chartStacks n rs).length = m + 1 ∧ (chartStacks n rs)[m]? = some xs ∧ lastOf n rs = (xs.length : Int) := by
  have h1 := (chartB_of h).2.1.1
  have h2 : (chartStacks n rs).length = rs.length := by rw [chartStacks, if_pos h, stacksFrom_length]
  obtain ⟨m, hm⟩ : ∃ m, (chartStacks n rs).length = m + 1 := ⟨rs.length - 1, by omega⟩
  obtain ⟨xs, hx⟩ : ∃ xs, (chartStacks n rs)[m]? = some xs := ⟨_, List.getElem?_eq_getElem (by omega)⟩
  refine ⟨m, xs, hm, hx, ?_⟩
  unfold lastOf
  rw [List.getLast?_eq_getElem?, hm, Nat.add_sub_cancel, hx]
  rfl


end Go.Proofs.YthjamohaeahipaaGreat
