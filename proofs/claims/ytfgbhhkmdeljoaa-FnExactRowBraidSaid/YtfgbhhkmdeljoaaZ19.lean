/- Steps of the proof, joined from several texts: YA YB YC YD PP. -/
import Derived.Test.YtfgbhhkmdeljoaaZ11
import Derived.Test.YtfgbhhkmdeljoaaZ7
import Derived.Test.YtfgbhhkmdeljoaaZ15
import Derived.Test.YtfgbhhkmdeljoaaZ13
import Derived.Test.YtfgbhhkmdeljoaaZ4

/- The letters of two blocks that change places. -/
namespace Go.Proofs.Ytfgbhhkmdeljoaa
open Go.RowKit

def swRow (p s : Int) : Nat → List Int
  | 0 => []
  | k + 1 => (s * (p + (k : Int) + 1)) :: swRow p s k
def swTo (place s : Int) (a : Nat) : Nat → List Int
  | 0 => []
  | t + 1 => swTo place s a t ++ swRow (place + (t : Int)) s a
theorem swRow_length (p s : Int) (a : Nat) : (swRow p s a).length = a := by
  induction a with
  | zero => rfl
  | succ a ih => simp [swRow, ih]
theorem swTo_length (place s : Int) (a b : Nat) : (swTo place s a b).length = a * b := by
  induction b with
  | zero => rfl
  | succ b ih => rw [swTo, List.length_append, ih, swRow_length, Nat.mul_succ]

set_option maxHeartbeats 2000000 in
set_option maxRecDepth 10000 in
theorem spec_l03Swap_p (place : Int) (a b : Nat) (w : World) (hp : 0 ≤ place ∧ place ≤ 1000) (ha : a ≤ 4) (hb : b ≤ 4) :
    Calls Try.prog 147 #[.int .i64 place, .int .i64 a, .int .i64 b, .int .i64 1] w fun e w' => ∃ A' c', e = .returned (.slice A' (swTo place 1 a b).length c') ∧ OwnI w' w.heap.size w'.heap.size A' c' (swTo place 1 a b) ∧ Below w.heap.size w w' := by
  obtain ⟨i0, hi0, hz0, hz1, hz2⟩ := info_parts info_int64
  obtain ⟨hp0, hp1⟩ := hp
  have o1 := (OwnC.lit (w := w) (lo := w.heap.size) (n := 0) 2 1 #[] (Nat.le_refl _) (Nat.zero_le _) rfl).mono (Nat.le_refl _) (show w.heap.size + 1 ≤ (w.alloc (.cells #[] 2)).heap.size by simp)
  have O1 := Lib.hid o1; clear o1
  have hb1 : Below w.heap.size w (w.alloc (.cells #[] 2)) := by (repeat (first | exact Below.refl _ _ | assumption | apply Below.drew | apply below_drewN | (refine Below.alloc ?_ (by first | omega | (simp; done) | (simp; omega)) _) | (refine Below.setCell ?_ (by first | omega | (simp; done) | (simp; omega)) _)))
  go_enter Try.func147, Try.ntmps147
  go_wp2_with (fail)
  go_loopw [9, 10] (fun ov tv wr => ∃ (t : Nat) (A' : Option Addr) (c' : Nat) (out : List Int), t ≤ b ∧ tv = .int .i64 t ∧ ov = .slice A' out.length c' ∧ OwnI wr w.heap.size wr.heap.size A' c' out ∧ Below w.heap.size w wr ∧ Hid (out = swTo place 1 a t) ∧ out.length ≤ 4 * t) (fun _ tv _ => b - (intOf tv).toNat)
  case atStart => exact ⟨0, some ⟨w.heap.size, 0, none⟩, 0, [], Nat.zero_le _, rfl, rfl, O1.out, hb1, Lib.hid rfl, by simp⟩
  case round =>
    obtain ⟨t, A', c', out, ht, rfl, rfl, ho, hbr, HO, hol⟩ := hrel
    have hzr := hbr.size
    by_cases htb : t < b
    · have hd : decide ((t : Int) < (b : Int)) = true := decide_eq_true (by omega)
      have HN : Hid (swTo place 1 a (t + 1) = out ++ swRow (place + (t : Int)) 1 a) := Lib.hid (by rw [swTo, HO.out])
      clear HO hd
      go_wp2_with (fail)
      go_loopw [9, 11] (fun ov kv ws => ∃ (j : Nat) (A3 : Option Addr) (c3 : Nat) (done : List Int), j ≤ a ∧ kv = .int .i64 ((j : Int) - 1) ∧ ov = .slice A3 done.length c3 ∧ OwnI ws w.heap.size ws.heap.size A3 c3 done ∧ Below w.heap.size w ws ∧ Hid (swTo place 1 a (t + 1) = done ++ swRow (place + (t : Int)) 1 j) ∧ done.length + j ≤ 4 * t + a) (fun _ kv _ => (intOf kv + 1).toNat)
      case atStart => exact ⟨a, A', c', out, Nat.le_refl _, rfl, rfl, ho, hbr, HN, by omega⟩
      case round =>
        clear ho hbr HN
        obtain ⟨j, A3, c3, done, hj, rfl, rfl, ho, hbs, HN, hdl⟩ := hrel
        have hzs := hbs.size
        cases j with
        | succ j =>
          have HN2 : Hid (swTo place 1 a (t + 1) = (done ++ [1 * (place + (t : Int) + (j : Int) + 1)]) ++ swRow (place + (t : Int)) 1 j) := Lib.hid (by rw [HN.out, swRow, List.append_assoc]; rfl)
          clear HN
          have e1 : ((j + 1 : Nat) : Int) - 1 = (j : Int) := by push_cast; omega
          rw [e1]
          have hd2 : decide ((j : Int) ≥ 0) = true := decide_eq_true (by omega)
          go_wp2_with (at_builtin; refine wpList_append1 wr [.int .i64 (place + (t : Int) + (j : Int) + 1)] _ rfl (.tmp 24) (.tmp 33) _ rfl 2 i0 _ 1 8 Try.underlying33 hi0 hz0 hz1 hz2 rfl (by decide) rfl ho hzs 1 rfl rfl (by simp [Value.oneCell']) (by omega) (by decide) ?_; intro A5 c5 w5 ho5 hg5 hb5 hz5)
          refine ⟨⟨j, A5, c5, done ++ [1 * (place + (t : Int) + (j : Int) + 1)], by omega, rfl, by simp, ?_, hbs.trans hb5, HN2, by simp; omega⟩, by first | (simp [intOf]; done) | (simp [intOf]; omega)⟩
          rw [show 1 * (place + (t : Int) + (j : Int) + 1) = (place + (t : Int) + (j : Int) + 1) by omega]
          show OwnC _ _ _ _ _ _ _ _ _
          rw [List.map_append, List.length_append]
          exact ho5
        | zero =>
          have HE : Hid (swTo place 1 a (t + 1) = done) := Lib.hid (by rw [HN.out, swRow, List.append_nil])
          clear HN
          have e1 : ((0 : Nat) : Int) - 1 = -1 := by omega
          rw [e1]
          go_wp2_with (fail)
          refine ⟨⟨t + 1, A3, c3, done, by omega, by go_num, rfl, ho, hbs, Lib.hid HE.out.symm, by omega⟩, by simp [intOf]; omega⟩
    · obtain rfl : t = b := by omega
      go_wp2_with (fail)
      go_ret
      rw [← HO.out]
      exact ⟨A', c', rfl, ho, hbr⟩

set_option maxHeartbeats 2000000 in
set_option maxRecDepth 10000 in
theorem spec_l03Swap_n (place : Int) (a b : Nat) (w : World) (hp : 0 ≤ place ∧ place ≤ 1000) (ha : a ≤ 4) (hb : b ≤ 4) :
    Calls Try.prog 147 #[.int .i64 place, .int .i64 a, .int .i64 b, .int .i64 (-1)] w fun e w' => ∃ A' c', e = .returned (.slice A' (swTo place (-1) a b).length c') ∧ OwnI w' w.heap.size w'.heap.size A' c' (swTo place (-1) a b) ∧ Below w.heap.size w w' := by
  obtain ⟨i0, hi0, hz0, hz1, hz2⟩ := info_parts info_int64
  obtain ⟨hp0, hp1⟩ := hp
  have o1 := (OwnC.lit (w := w) (lo := w.heap.size) (n := 0) 2 1 #[] (Nat.le_refl _) (Nat.zero_le _) rfl).mono (Nat.le_refl _) (show w.heap.size + 1 ≤ (w.alloc (.cells #[] 2)).heap.size by simp)
  have O1 := Lib.hid o1; clear o1
  have hb1 : Below w.heap.size w (w.alloc (.cells #[] 2)) := by (repeat (first | exact Below.refl _ _ | assumption | apply Below.drew | apply below_drewN | (refine Below.alloc ?_ (by first | omega | (simp; done) | (simp; omega)) _) | (refine Below.setCell ?_ (by first | omega | (simp; done) | (simp; omega)) _)))
  go_enter Try.func147, Try.ntmps147
  go_wp2_with (fail)
  go_loopw [9, 10] (fun ov tv wr => ∃ (t : Nat) (A' : Option Addr) (c' : Nat) (out : List Int), t ≤ b ∧ tv = .int .i64 t ∧ ov = .slice A' out.length c' ∧ OwnI wr w.heap.size wr.heap.size A' c' out ∧ Below w.heap.size w wr ∧ Hid (out = swTo place (-1) a t) ∧ out.length ≤ 4 * t) (fun _ tv _ => b - (intOf tv).toNat)
  case atStart => exact ⟨0, some ⟨w.heap.size, 0, none⟩, 0, [], Nat.zero_le _, rfl, rfl, O1.out, hb1, Lib.hid rfl, by simp⟩
  case round =>
    obtain ⟨t, A', c', out, ht, rfl, rfl, ho, hbr, HO, hol⟩ := hrel
    have hzr := hbr.size
    by_cases htb : t < b
    · have hd : decide ((t : Int) < (b : Int)) = true := decide_eq_true (by omega)
      have HN : Hid (swTo place (-1) a (t + 1) = out ++ swRow (place + (t : Int)) (-1) a) := Lib.hid (by rw [swTo, HO.out])
      clear HO hd
      go_wp2_with (fail)
      go_loopw [9, 11] (fun ov kv ws => ∃ (j : Nat) (A3 : Option Addr) (c3 : Nat) (done : List Int), j ≤ a ∧ kv = .int .i64 ((j : Int) - 1) ∧ ov = .slice A3 done.length c3 ∧ OwnI ws w.heap.size ws.heap.size A3 c3 done ∧ Below w.heap.size w ws ∧ Hid (swTo place (-1) a (t + 1) = done ++ swRow (place + (t : Int)) (-1) j) ∧ done.length + j ≤ 4 * t + a) (fun _ kv _ => (intOf kv + 1).toNat)
      case atStart => exact ⟨a, A', c', out, Nat.le_refl _, rfl, rfl, ho, hbr, HN, by omega⟩
      case round =>
        clear ho hbr HN
        obtain ⟨j, A3, c3, done, hj, rfl, rfl, ho, hbs, HN, hdl⟩ := hrel
        have hzs := hbs.size
        cases j with
        | succ j =>
          have HN2 : Hid (swTo place (-1) a (t + 1) = (done ++ [(-1) * (place + (t : Int) + (j : Int) + 1)]) ++ swRow (place + (t : Int)) (-1) j) := Lib.hid (by rw [HN.out, swRow, List.append_assoc]; rfl)
          clear HN
          have e1 : ((j + 1 : Nat) : Int) - 1 = (j : Int) := by push_cast; omega
          rw [e1]
          have hd2 : decide ((j : Int) ≥ 0) = true := decide_eq_true (by omega)
          go_wp2_with (at_builtin; refine wpList_append1 wr [.int .i64 (-(place + (t : Int) + (j : Int) + 1))] _ rfl (.tmp 24) (.tmp 33) _ rfl 2 i0 _ 1 8 Try.underlying33 hi0 hz0 hz1 hz2 rfl (by decide) rfl ho hzs 1 rfl rfl (by simp [Value.oneCell']) (by omega) (by decide) ?_; intro A5 c5 w5 ho5 hg5 hb5 hz5)
          refine ⟨⟨j, A5, c5, done ++ [(-1) * (place + (t : Int) + (j : Int) + 1)], by omega, rfl, by simp, ?_, hbs.trans hb5, HN2, by simp; omega⟩, by first | (simp [intOf]; done) | (simp [intOf]; omega)⟩
          rw [show (-1) * (place + (t : Int) + (j : Int) + 1) = (-(place + (t : Int) + (j : Int) + 1)) by omega]
          show OwnC _ _ _ _ _ _ _ _ _
          rw [List.map_append, List.length_append]
          exact ho5
        | zero =>
          have HE : Hid (swTo place (-1) a (t + 1) = done) := Lib.hid (by rw [HN.out, swRow, List.append_nil])
          clear HN
          have e1 : ((0 : Nat) : Int) - 1 = -1 := by omega
          rw [e1]
          go_wp2_with (fail)
          refine ⟨⟨t + 1, A3, c3, done, by omega, by go_num, rfl, ho, hbs, Lib.hid HE.out.symm, by omega⟩, by simp [intOf]; omega⟩
    · obtain rfl : t = b := by omega
      go_wp2_with (fail)
      go_ret
      rw [← HO.out]
      exact ⟨A', c', rfl, ho, hbr⟩

set_option maxHeartbeats 2000000 in
set_option maxRecDepth 10000 in
theorem impl_blockLetters_p (place : Int) (a b : Nat) (w : World) (hp : 0 ≤ place ∧ place ≤ 1000) (ha : a ≤ 4) (hb : b ≤ 4) :
    Calls Try.prog 129 #[.int .i64 place, .int .i64 a, .int .i64 b, .int .i64 1] w fun e w' => ∃ A' c', e = .returned (.slice A' (swTo place 1 a b).length c') ∧ OwnI w' w.heap.size w'.heap.size A' c' (swTo place 1 a b) ∧ Below w.heap.size w w' := by
  obtain ⟨i0, hi0, hz0, hz1, hz2⟩ := info_parts info_int64
  obtain ⟨hp0, hp1⟩ := hp
  have o1 := (OwnC.lit (w := w) (lo := w.heap.size) (n := 0) 2 1 #[] (Nat.le_refl _) (Nat.zero_le _) rfl).mono (Nat.le_refl _) (show w.heap.size + 1 ≤ (w.alloc (.cells #[] 2)).heap.size by simp)
  have O1 := Lib.hid o1; clear o1
  have hb1 : Below w.heap.size w (w.alloc (.cells #[] 2)) := by (repeat (first | exact Below.refl _ _ | assumption | apply Below.drew | apply below_drewN | (refine Below.alloc ?_ (by first | omega | (simp; done) | (simp; omega)) _) | (refine Below.setCell ?_ (by first | omega | (simp; done) | (simp; omega)) _)))
  go_enter Try.func129, Try.ntmps129
  go_wp2_with (fail)
  go_loopw [9, 14] (fun ov tv wr => ∃ (t : Nat) (A' : Option Addr) (c' : Nat) (out : List Int), t ≤ b ∧ tv = .int .i64 t ∧ ov = .slice A' out.length c' ∧ OwnI wr w.heap.size wr.heap.size A' c' out ∧ Below w.heap.size w wr ∧ Hid (out = swTo place 1 a t) ∧ out.length ≤ 4 * t) (fun _ tv _ => b - (intOf tv).toNat)
  case atStart => exact ⟨0, some ⟨w.heap.size, 0, none⟩, 0, [], Nat.zero_le _, rfl, rfl, O1.out, hb1, Lib.hid rfl, by simp⟩
  case round =>
    obtain ⟨t, A', c', out, ht, rfl, rfl, ho, hbr, HO, hol⟩ := hrel
    have hzr := hbr.size
    by_cases htb : t < b
    · have hd : decide ((t : Int) < (b : Int)) = true := decide_eq_true (by omega)
      have HN : Hid (swTo place 1 a (t + 1) = out ++ swRow (place + (t : Int)) 1 a) := Lib.hid (by rw [swTo, HO.out])
      clear HO hd
      go_wp2_with (fail)
      go_loopw [9, 11] (fun ov kv ws => ∃ (j : Nat) (A3 : Option Addr) (c3 : Nat) (done : List Int), j ≤ a ∧ kv = .int .i64 ((j : Int) - 1) ∧ ov = .slice A3 done.length c3 ∧ OwnI ws w.heap.size ws.heap.size A3 c3 done ∧ Below w.heap.size w ws ∧ Hid (swTo place 1 a (t + 1) = done ++ swRow (place + (t : Int)) 1 j) ∧ done.length + j ≤ 4 * t + a) (fun _ kv _ => (intOf kv + 1).toNat)
      case atStart => exact ⟨a, A', c', out, Nat.le_refl _, rfl, rfl, ho, hbr, HN, by omega⟩
      case round =>
        clear ho hbr HN
        obtain ⟨j, A3, c3, done, hj, rfl, rfl, ho, hbs, HN, hdl⟩ := hrel
        have hzs := hbs.size
        cases j with
        | succ j =>
          have HN2 : Hid (swTo place 1 a (t + 1) = (done ++ [1 * (place + (t : Int) + (j : Int) + 1)]) ++ swRow (place + (t : Int)) 1 j) := Lib.hid (by rw [HN.out, swRow, List.append_assoc]; rfl)
          clear HN
          have e1 : ((j + 1 : Nat) : Int) - 1 = (j : Int) := by push_cast; omega
          rw [e1]
          have hd2 : decide ((j : Int) ≥ 0) = true := decide_eq_true (by omega)
          go_wp2_with (at_builtin; refine wpList_append1 wr [.int .i64 (place + (t : Int) + (j : Int) + 1)] _ rfl (.tmp 23) (.tmp 32) _ rfl 2 i0 _ 1 8 Try.underlying33 hi0 hz0 hz1 hz2 rfl (by decide) rfl ho hzs 1 rfl rfl (by simp [Value.oneCell']) (by omega) (by decide) ?_; intro A5 c5 w5 ho5 hg5 hb5 hz5)
          refine ⟨⟨j, A5, c5, done ++ [1 * (place + (t : Int) + (j : Int) + 1)], by omega, rfl, by simp, ?_, hbs.trans hb5, HN2, by simp; omega⟩, by first | (simp [intOf]; done) | (simp [intOf]; omega)⟩
          rw [show 1 * (place + (t : Int) + (j : Int) + 1) = (place + (t : Int) + (j : Int) + 1) by omega]
          show OwnC _ _ _ _ _ _ _ _ _
          rw [List.map_append, List.length_append]
          exact ho5
        | zero =>
          have HE : Hid (swTo place 1 a (t + 1) = done) := Lib.hid (by rw [HN.out, swRow, List.append_nil])
          clear HN
          have e1 : ((0 : Nat) : Int) - 1 = -1 := by omega
          rw [e1]
          go_wp2_with (fail)
          refine ⟨⟨t + 1, A3, c3, done, by omega, by go_num, rfl, ho, hbs, Lib.hid HE.out.symm, by omega⟩, by simp [intOf]; omega⟩
    · obtain rfl : t = b := by omega
      go_wp2_with (fail)
      go_ret
      rw [← HO.out]
      exact ⟨A', c', rfl, ho, hbr⟩

set_option maxHeartbeats 2000000 in
set_option maxRecDepth 10000 in
theorem impl_blockLetters_n (place : Int) (a b : Nat) (w : World) (hp : 0 ≤ place ∧ place ≤ 1000) (ha : a ≤ 4) (hb : b ≤ 4) :
    Calls Try.prog 129 #[.int .i64 place, .int .i64 a, .int .i64 b, .int .i64 (-1)] w fun e w' => ∃ A' c', e = .returned (.slice A' (swTo place (-1) a b).length c') ∧ OwnI w' w.heap.size w'.heap.size A' c' (swTo place (-1) a b) ∧ Below w.heap.size w w' := by
  obtain ⟨i0, hi0, hz0, hz1, hz2⟩ := info_parts info_int64
  obtain ⟨hp0, hp1⟩ := hp
  have o1 := (OwnC.lit (w := w) (lo := w.heap.size) (n := 0) 2 1 #[] (Nat.le_refl _) (Nat.zero_le _) rfl).mono (Nat.le_refl _) (show w.heap.size + 1 ≤ (w.alloc (.cells #[] 2)).heap.size by simp)
  have O1 := Lib.hid o1; clear o1
  have hb1 : Below w.heap.size w (w.alloc (.cells #[] 2)) := by (repeat (first | exact Below.refl _ _ | assumption | apply Below.drew | apply below_drewN | (refine Below.alloc ?_ (by first | omega | (simp; done) | (simp; omega)) _) | (refine Below.setCell ?_ (by first | omega | (simp; done) | (simp; omega)) _)))
  go_enter Try.func129, Try.ntmps129
  go_wp2_with (fail)
  go_loopw [9, 14] (fun ov tv wr => ∃ (t : Nat) (A' : Option Addr) (c' : Nat) (out : List Int), t ≤ b ∧ tv = .int .i64 t ∧ ov = .slice A' out.length c' ∧ OwnI wr w.heap.size wr.heap.size A' c' out ∧ Below w.heap.size w wr ∧ Hid (out = swTo place (-1) a t) ∧ out.length ≤ 4 * t) (fun _ tv _ => b - (intOf tv).toNat)
  case atStart => exact ⟨0, some ⟨w.heap.size, 0, none⟩, 0, [], Nat.zero_le _, rfl, rfl, O1.out, hb1, Lib.hid rfl, by simp⟩
  case round =>
    obtain ⟨t, A', c', out, ht, rfl, rfl, ho, hbr, HO, hol⟩ := hrel
    have hzr := hbr.size
    by_cases htb : t < b
    · have hd : decide ((t : Int) < (b : Int)) = true := decide_eq_true (by omega)
      have HN : Hid (swTo place (-1) a (t + 1) = out ++ swRow (place + (t : Int)) (-1) a) := Lib.hid (by rw [swTo, HO.out])
      clear HO hd
      go_wp2_with (fail)
      go_loopw [9, 11] (fun ov kv ws => ∃ (j : Nat) (A3 : Option Addr) (c3 : Nat) (done : List Int), j ≤ a ∧ kv = .int .i64 ((j : Int) - 1) ∧ ov = .slice A3 done.length c3 ∧ OwnI ws w.heap.size ws.heap.size A3 c3 done ∧ Below w.heap.size w ws ∧ Hid (swTo place (-1) a (t + 1) = done ++ swRow (place + (t : Int)) (-1) j) ∧ done.length + j ≤ 4 * t + a) (fun _ kv _ => (intOf kv + 1).toNat)
      case atStart => exact ⟨a, A', c', out, Nat.le_refl _, rfl, rfl, ho, hbr, HN, by omega⟩
      case round =>
        clear ho hbr HN
        obtain ⟨j, A3, c3, done, hj, rfl, rfl, ho, hbs, HN, hdl⟩ := hrel
        have hzs := hbs.size
        cases j with
        | succ j =>
          have HN2 : Hid (swTo place (-1) a (t + 1) = (done ++ [(-1) * (place + (t : Int) + (j : Int) + 1)]) ++ swRow (place + (t : Int)) (-1) j) := Lib.hid (by rw [HN.out, swRow, List.append_assoc]; rfl)
          clear HN
          have e1 : ((j + 1 : Nat) : Int) - 1 = (j : Int) := by push_cast; omega
          rw [e1]
          have hd2 : decide ((j : Int) ≥ 0) = true := decide_eq_true (by omega)
          go_wp2_with (at_builtin; refine wpList_append1 wr [.int .i64 (-(place + (t : Int) + (j : Int) + 1))] _ rfl (.tmp 23) (.tmp 32) _ rfl 2 i0 _ 1 8 Try.underlying33 hi0 hz0 hz1 hz2 rfl (by decide) rfl ho hzs 1 rfl rfl (by simp [Value.oneCell']) (by omega) (by decide) ?_; intro A5 c5 w5 ho5 hg5 hb5 hz5)
          refine ⟨⟨j, A5, c5, done ++ [(-1) * (place + (t : Int) + (j : Int) + 1)], by omega, rfl, by simp, ?_, hbs.trans hb5, HN2, by simp; omega⟩, by first | (simp [intOf]; done) | (simp [intOf]; omega)⟩
          rw [show (-1) * (place + (t : Int) + (j : Int) + 1) = (-(place + (t : Int) + (j : Int) + 1)) by omega]
          show OwnC _ _ _ _ _ _ _ _ _
          rw [List.map_append, List.length_append]
          exact ho5
        | zero =>
          have HE : Hid (swTo place (-1) a (t + 1) = done) := Lib.hid (by rw [HN.out, swRow, List.append_nil])
          clear HN
          have e1 : ((0 : Nat) : Int) - 1 = -1 := by omega
          rw [e1]
          go_wp2_with (fail)
          refine ⟨⟨t + 1, A3, c3, done, by omega, by go_num, rfl, ho, hbs, Lib.hid HE.out.symm, by omega⟩, by simp [intOf]; omega⟩
    · obtain rfl : t = b := by omega
      go_wp2_with (fail)
      go_ret
      rw [← HO.out]
      exact ⟨A', c', rfl, ho, hbr⟩

theorem spec_l03Swap (place : Int) (a b : Nat) (s : Int) (w : World) (hs : s = 1 ∨ s = -1) (hp : 0 ≤ place ∧ place ≤ 1000) (ha : a ≤ 4) (hb : b ≤ 4) :
    Calls Try.prog 147 #[.int .i64 place, .int .i64 a, .int .i64 b, .int .i64 s] w fun e w' => ∃ A' c', e = .returned (.slice A' (swTo place s a b).length c') ∧ OwnI w' w.heap.size w'.heap.size A' c' (swTo place s a b) ∧ Below w.heap.size w w' := by
  rcases hs with rfl | rfl
  · exact spec_l03Swap_p place a b w hp ha hb
  · exact spec_l03Swap_n place a b w hp ha hb

theorem impl_blockLetters (place : Int) (a b : Nat) (s : Int) (w : World) (hs : s = 1 ∨ s = -1) (hp : 0 ≤ place ∧ place ≤ 1000) (ha : a ≤ 4) (hb : b ≤ 4) :
    Calls Try.prog 129 #[.int .i64 place, .int .i64 a, .int .i64 b, .int .i64 s] w fun e w' => ∃ A' c', e = .returned (.slice A' (swTo place s a b).length c') ∧ OwnI w' w.heap.size w'.heap.size A' c' (swTo place s a b) ∧ Below w.heap.size w w' := by
  rcases hs with rfl | rfl
  · exact impl_blockLetters_p place a b w hp ha hb
  · exact impl_blockLetters_n place a b w hp ha hb

end Go.Proofs.Ytfgbhhkmdeljoaa

/- Doubled braids: the plain functions. -/
namespace Go.Proofs.Ytfgbhhkmdeljoaa
open Go.RowKit

def sgnI (x : Int) : Int := if x < 0 then -1 else 1
theorem sgnI_cases (x : Int) : sgnI x = 1 ∨ sgnI x = -1 := by unfold sgnI; split <;> simp
def swapL (k : Nat) (xs : List Int) : List Int := (xs.set k (xs.getD (k + 1) 0)).set (k + 1) (xs.getD k 0)
def dblFrom : List Int → List Int → List Int
  | [], _ => []
  | x :: xs, now => swTo (sumI (now.take (x.natAbs - 1))) (sgnI x) (now.getD (x.natAbs - 1) 0).toNat (now.getD (x.natAbs - 1 + 1) 0).toNat ++ dblFrom xs (swapL (x.natAbs - 1) now)
theorem decomp {now : List Int} {k : Nat} {a b : Int} (ha : now[k]? = some a) (hb : now[k + 1]? = some b) : ∃ pre post, now = pre ++ a :: b :: post ∧ pre.length = k ∧ now.take k = pre := by
  have hk := (List.getElem?_eq_some_iff.1 ha).1
  refine ⟨now.take k, now.drop (k + 1 + 1), ?_, by rw [List.length_take]; omega, rfl⟩
  rw [← drop_cons hb, ← drop_cons ha, List.take_append_drop]
theorem getD_of {now : List Int} {k : Nat} {a : Int} (ha : now[k]? = some a) : now.getD k 0 = a := by rw [List.getD_eq_getElem?_getD, ha]; rfl
theorem swapL_at {now : List Int} {k : Nat} {a b : Int} (ha : now[k]? = some a) (hb : now[k + 1]? = some b) : swapL k now = (now.set k b).set (k + 1) a := by
  rw [swapL, getD_of ha, getD_of hb]
theorem swapL_eq {pre post : List Int} {a b : Int} : ((pre ++ a :: b :: post).set pre.length b).set (pre.length + 1) a = pre ++ b :: a :: post := by
  rw [List.set_append_right _ _ (Nat.le_refl _), Nat.sub_self, List.set_cons_zero, List.set_append_right _ _ (by omega), show pre.length + 1 - pre.length = 1 by omega]
  rfl
structure NowB (now : List Int) (n : Nat) (S : Int) : Prop where
  len : now.length = n
  one : ∀ y ∈ now, 1 ≤ y ∧ y ≤ 4
  sum : sumI now = S
theorem sumI_nonneg {xs : List Int} (h : ∀ y ∈ xs, 1 ≤ y ∧ y ≤ 4) : 0 ≤ sumI xs := by
  induction xs with
  | nil => simp [sumI]
  | cons x xs ih =>
    have h1 := h x (by simp)
    have h2 := ih fun y hy => h y (by simp [hy])
    rw [sumI]; omega
theorem NowB.swap {now : List Int} {n k : Nat} {S a b : Int} (h : NowB now n S) (ha : now[k]? = some a) (hb : now[k + 1]? = some b) : NowB (swapL k now) n S ∧ 0 ≤ sumI (now.take k) ∧ sumI (now.take k) + a + b ≤ S := by
  rw [swapL_at ha hb]
  obtain ⟨pre, post, rfl, rfl, hp⟩ := decomp ha hb
  obtain ⟨h1, h2, h3⟩ := h
  rw [swapL_eq, hp]
  simp only [List.length_append, List.length_cons] at h1
  have e : sumI (pre ++ b :: a :: post) = sumI (pre ++ a :: b :: post) := by rw [sumI_append, sumI_append, sumI, sumI, sumI, sumI]; omega
  have hpost := sumI_nonneg (xs := post) (fun y hy => h2 y (by simp [hy]))
  have hpre := sumI_nonneg (xs := pre) (fun y hy => h2 y (by simp [hy]))
  refine ⟨⟨by simp; omega, fun y hy => h2 y ?_, by rw [e, h3]⟩, hpre, ?_⟩
  · simp only [List.mem_append, List.mem_cons] at hy ⊢
    rcases hy with h | h | h | h <;> simp [h]
  · rw [sumI_append, sumI, sumI] at h3; omega
theorem NowB.take {now : List Int} {n : Nat} {S : Int} (h : NowB now n S) (j : Nat) : 0 ≤ sumI (now.take j) ∧ sumI (now.take j) ≤ S := by
  have h1 := sumI_nonneg (xs := now.take j) (fun y hy => h.one y (List.mem_of_mem_take hy))
  have h2 := sumI_nonneg (xs := now.drop j) (fun y hy => h.one y (List.mem_of_mem_drop hy))
  have h3 := h.sum
  rw [← List.take_append_drop j now, sumI_append] at h3
  omega
theorem own_at {w : World} {lo hi g c j : Nat} {now : List Int} {y : Int} (h : OwnI w lo hi (some ⟨g, 0, none⟩) c now) (hy : now[j]? = some y) : w.cell? ⟨g, j, none⟩ = some (.int .i64 y) ∧ w.frozen? ⟨g, j, none⟩ = false ∧ lo ≤ g ∧ g < hi := by
  have hj := (List.getElem?_eq_some_iff.1 hy).1
  obtain ⟨g', hg, h0, h1, hc, hf⟩ := OwnC.cell h (j := j) (by simpa using hj)
  injection hg with hg
  injection hg with hg
  subst hg
  refine ⟨?_, hf, h0, h1⟩
  rw [hc]
  have := (List.getElem?_eq_some_iff.1 hy).2
  simp [this]
theorem own_swap {w : World} {lo hi g c k : Nat} {now : List Int} {a b : Int} (h : OwnI w lo hi (some ⟨g, 0, none⟩) c now) (ha : now[k]? = some a) (hb : now[k + 1]? = some b) :
    OwnI ((w.setCell ⟨g, k, none⟩ (.int .i64 b)).setCell ⟨g, k + 1, none⟩ (.int .i64 a)) lo hi (some ⟨g, 0, none⟩) c (swapL k now) := by
  rw [swapL_at ha hb]
  show OwnC _ _ _ _ _ _ _ _ _
  rw [List.map_set, List.map_set, List.length_set, List.length_set]
  exact (OwnC.store (OwnC.store h _).1 _).1
theorem swRow_mem {p s y : Int} {a : Nat} (h : y ∈ swRow p s a) : ∃ j : Nat, j < a ∧ y = s * (p + (j : Int) + 1) := by
  induction a with
  | zero => simp [swRow] at h
  | succ a ih =>
    rw [swRow, List.mem_cons] at h
    rcases h with h | h
    · exact ⟨a, by omega, h⟩
    · obtain ⟨j, hj, e⟩ := ih h
      exact ⟨j, by omega, e⟩
theorem swTo_mem {p s y : Int} {a b : Nat} (h : y ∈ swTo p s a b) : ∃ j u : Nat, j < a ∧ u < b ∧ y = s * (p + (u : Int) + (j : Int) + 1) := by
  induction b with
  | zero => simp [swTo] at h
  | succ b ih =>
    rw [swTo, List.mem_append] at h
    rcases h with h | h
    · obtain ⟨j, u, hj, hu, e⟩ := ih h
      exact ⟨j, u, hj, by omega, e⟩
    · obtain ⟨j, hj, e⟩ := swRow_mem h
      exact ⟨j, b, hj, by omega, e⟩
theorem now_at {now : List Int} {n k : Nat} {S : Int} (h : NowB now n S) (hk : k < n) : ∃ a, now[k]? = some a ∧ 1 ≤ a ∧ a ≤ 4 := by
  have hl := h.len
  exact ⟨now[k]'(by omega), List.getElem?_eq_getElem (by omega), h.one _ (List.getElem_mem _)⟩
theorem dbl_valid {n : Nat} {S : Int} : ∀ (word now : List Int), (∀ x ∈ word, 1 ≤ x.natAbs ∧ x.natAbs < n) → NowB now n S → lettersB S (dblFrom word now) = true
  | [], _, _, _ => rfl
  | x :: xs, now, hw, hn => by
    obtain ⟨h1, h2⟩ := hw x (by simp)
    obtain ⟨a, ha, a1, a4⟩ := now_at hn (k := x.natAbs - 1) (by omega)
    obtain ⟨b, hb, b1, b4⟩ := now_at hn (k := x.natAbs - 1 + 1) (by omega)
    obtain ⟨hn2, hs0, hs1⟩ := hn.swap ha hb
    rw [dblFrom, getD_of ha, getD_of hb, lettersB, List.all_append, ← lettersB, ← lettersB, dbl_valid xs _ (fun y hy => hw y (by simp [hy])) hn2, Bool.and_true, lettersB, List.all_eq_true]
    intro y hy
    obtain ⟨j, u, hj, hu, rfl⟩ := swTo_mem hy
    have e1 : ((a.toNat : Nat) : Int) = a := by omega
    have e2 : ((b.toNat : Nat) : Int) = b := by omega
    unfold letterB
    rw [Bool.and_eq_true, decide_eq_true_eq, inR_iff]
    rcases sgnI_cases x with e | e <;> rw [e] <;> omega
theorem dbl_length {n : Nat} {S : Int} : ∀ (word now : List Int), (∀ x ∈ word, 1 ≤ x.natAbs ∧ x.natAbs < n) → NowB now n S → (dblFrom word now).length ≤ 16 * word.length
  | [], _, _, _ => by simp [dblFrom]
  | x :: xs, now, hw, hn => by
    obtain ⟨h1, h2⟩ := hw x (by simp)
    obtain ⟨a, ha, a1, a4⟩ := now_at hn (k := x.natAbs - 1) (by omega)
    obtain ⟨b, hb, b1, b4⟩ := now_at hn (k := x.natAbs - 1 + 1) (by omega)
    obtain ⟨hn2, hs0, hs1⟩ := hn.swap ha hb
    have ih := dbl_length xs _ (fun y hy => hw y (by simp [hy])) hn2
    rw [dblFrom, getD_of ha, getD_of hb, List.length_append, swTo_length, List.length_cons]
    have := Nat.mul_le_mul (show a.toNat ≤ 4 by omega) (show b.toNat ≤ 4 by omega)
    omega
/-- Doubled braids, and the braid of a row over stacks. -/
structure BrY where
  n : Int
  xs : List Int
def dbCode (word sizes : List Int) : Int := if braidB sizes.length word then (if (dblFrom word sizes).length ≤ 40 then 0 else 5) else 1
def dbX (word sizes : List Int) : BrY := if dbCode word sizes = 0 then ⟨sumI sizes, dblFrom word sizes⟩ else ⟨0, []⟩
theorem db_err {word sizes : List Int} {k : Int} (e : dbCode word sizes = k) (hk : k ≠ 0) : dbX word sizes = ⟨0, []⟩ ∧ dbCode word sizes = k := ⟨by rw [dbX, if_neg (by rw [e]; exact hk)], e⟩
theorem dbX_size (word sizes : List Int) : (dbX word sizes).xs.length ≤ 40 := by
  unfold dbX
  split
  · rename_i h
    unfold dbCode at h
    split at h
    · split at h
      · assumption
      · simp at h
    · simp at h
  · simp
def rbOk (ks sizes : List Int) : Bool := laidB ks && decide (((takenS ks : Nat) : Int) = (sizes.length : Int))
def rbCode (d r : Int) (ks sizes : List Int) : Int := if rowB d r ks && sizesB sizes then (if rbOk ks sizes then dbCode (lettersFrom ks 0) sizes else 10) else 1
def rbX (d r : Int) (ks sizes : List Int) : BrY := if rbCode d r ks sizes = 0 then dbX (lettersFrom ks 0) sizes else ⟨0, []⟩
theorem rb_err {d r : Int} {ks sizes : List Int} {k : Int} (e : rbCode d r ks sizes = k) (hk : k ≠ 0) : rbX d r ks sizes = ⟨0, []⟩ ∧ rbCode d r ks sizes = k := ⟨by rw [rbX, if_neg (by rw [e]; exact hk)], e⟩
theorem rb_good {d r : Int} {ks sizes : List Int} (h1 : rowB d r ks = true) (h2 : sizesB sizes = true) (h3 : rbOk ks sizes = true) : rbX d r ks sizes = dbX (lettersFrom ks 0) sizes ∧ rbCode d r ks sizes = dbCode (lettersFrom ks 0) sizes := by
  have e : rbCode d r ks sizes = dbCode (lettersFrom ks 0) sizes := by rw [rbCode, h1, h2, h3]; rfl
  refine ⟨?_, e⟩
  by_cases h0 : dbCode (lettersFrom ks 0) sizes = 0
  · rw [rbX, e, if_pos h0]
  · rw [rbX, e, if_neg h0, dbX, if_neg h0]
theorem rbX_size (d r : Int) (ks sizes : List Int) : (rbX d r ks sizes).xs.length ≤ 40 := by
  unfold rbX
  split
  · exact dbX_size _ _
  · simp
theorem nowB_of {xs : List Int} (h : sizesB xs = true) : NowB xs xs.length (sumI xs) ∧ (1 ≤ xs.length ∧ xs.length ≤ 8) ∧ 0 ≤ sumI xs ∧ sumI xs ≤ 12 ∧ sum64 xs = sumI xs := by
  unfold sizesB stacksB at h
  simp only [Bool.and_eq_true, List.all_eq_true, decide_eq_true_eq, inR_iff] at h
  obtain ⟨⟨h1, h2, h3⟩, h4⟩ := h
  have key : ∀ (ys : List Int), (∀ y ∈ ys, 1 ≤ y ∧ y ≤ 4) → ys.length ≤ 8 → 0 ≤ sumI ys ∧ sumI ys ≤ 4 * ys.length := by
    intro ys
    induction ys with
    | nil => simp [sumI]
    | cons y ys ih =>
      intro ha hb
      have := ih (fun z hz => ha z (by simp [hz])) (by simp at hb; omega)
      have := ha y (by simp)
      rw [sumI, List.length_cons]; push_cast; omega
  have e : ∀ k, k ≤ xs.length → sum64 (xs.take k) = sumI (xs.take k) := by
    intro k
    induction k with
    | zero => intro _; simp [sum64, sumI]
    | succ k ih =>
      intro hk
      have hx : xs[k]? = some (xs[k]'(by omega)) := List.getElem?_eq_getElem (by omega)
      rw [take_snoc hx, sum64_snoc, ih (by omega), sumI_append]
      have hk1 := key (xs.take k) (fun y hy => h2 y (List.mem_of_mem_take hy)) (by rw [List.length_take]; omega)
      have hk2 := h2 (xs[k]'(by omega)) (List.getElem_mem _)
      have hk3 : (xs.take k).length ≤ 8 := by rw [List.length_take]; omega
      rw [IntWalk.wrap64_in _ (by omega)]
      simp [sumI]
  have e2 := e xs.length (Nat.le_refl _)
  rw [List.take_length] at e2
  have hk := key xs h2 h3
  exact ⟨⟨rfl, h2, rfl⟩, ⟨by omega, h3⟩, hk.1, by omega, e2⟩

end Go.Proofs.Ytfgbhhkmdeljoaa

/- Doubled braids: the given side's word. -/
namespace Go.Proofs.Ytfgbhhkmdeljoaa
open Go Go.RowKit

set_option maxHeartbeats 4000000 in
set_option maxRecDepth 10000 in
theorem spec_l03Double (word sizes : List Int) (A B : Option Addr) (c d n : Nat) (S : Int) (w : World) (h : Ints w A word) (hl : word.length ≤ 40) (h' : Ints w B sizes) (hn : NowB sizes n S) (hn8 : 1 ≤ n ∧ n ≤ 8) (hS : S ≤ 32) (hw : ∀ x ∈ word, 1 ≤ x.natAbs ∧ x.natAbs < n) :
    Calls Try.prog 119 #[.slice A word.length c, .slice B sizes.length d] w fun e w' => ∃ A' c', e = .returned (.slice A' (dblFrom word sizes).length c') ∧ OwnI w' w.heap.size w'.heap.size A' c' (dblFrom word sizes) ∧ Below w.heap.size w w' := by
  obtain ⟨i0, hi0, hz0, hz1, hz2⟩ := info_parts info_int64
  obtain rfl := hn.len
  obtain ⟨hn1, hn8⟩ := hn8
  have HW := Lib.hid hw; clear hw
  have HNB := Lib.hid hn; clear hn
  go_enter Try.func119, Try.ntmps119
  go_wp2_with (fail)
  refine (spec_l00Own B d sizes w h' (by omega)).mono ?_; rintro e w5 ⟨A5, c5, rfl, o5, b5⟩
  obtain ⟨g5, rfl⟩ := OwnC.head o5 (by omega)
  have hz5 := b5.size
  have o6 := (OwnC.lit (w := w5) (lo := w5.heap.size) (n := 0) 2 1 #[] (Nat.le_refl _) (Nat.zero_le _) rfl).mono (Nat.le_refl _) (show w5.heap.size + 1 ≤ (w5.alloc (.cells #[] 2)).heap.size by simp)
  have hb6 : Below w.heap.size w (w5.alloc (.cells #[] 2)) := b5.alloc (by omega) _
  have o5a := o5.alloc (.cells #[] 2)
  have O6 := Lib.hid o6; clear o6
  go_wp2_with (fail)
  go_loopw [6, 7] (fun ov iv wr => ∃ (i : Nat) (A' : Option Addr) (c' : Nat) (out now : List Int), i ≤ word.length ∧ iv = .int .i64 i ∧ ov = .slice A' out.length c' ∧ OwnI wr w5.heap.size wr.heap.size A' c' out ∧ OwnI wr w.heap.size w5.heap.size (some ⟨g5, 0, none⟩) c5 now ∧ NowB now sizes.length S ∧ Below w.heap.size w wr ∧ w5.heap.size ≤ wr.heap.size ∧ Hid (dblFrom word sizes = out ++ dblFrom (word.drop i) now) ∧ out.length ≤ 16 * i) (fun _ iv _ => word.length - (intOf iv).toNat)
  case atStart => exact ⟨0, some ⟨w5.heap.size, 0, none⟩, 0, [], sizes, Nat.zero_le _, rfl, rfl, O6.out, o5a, HNB.out, hb6, by simp, Lib.hid rfl, by simp⟩
  case round =>
    clear O6 hb6 o5a
    obtain ⟨i, A', c', out, now, hi, rfl, rfl, ho, hnow, hnb, hb, hz, HD, hol⟩ := hrel
    by_cases hil : i < word.length
    · obtain ⟨b, off, x, rfl, hc, hx⟩ := (h.below hb) i hil
      obtain ⟨hx1, hx2⟩ := HW.out x (List.mem_of_getElem? hx)
      obtain ⟨K, hK⟩ : ∃ K, x.natAbs = K + 1 := ⟨x.natAbs - 1, by omega⟩
      have hab : absI x = (K : Int) + 1 := by unfold absI; split <;> omega
      have HAB := Lib.hid hab; clear hab
      obtain ⟨a, ha, a1, a4⟩ := now_at hnb (k := K) (by omega)
      obtain ⟨bb, hbb, b1, b4⟩ := now_at hnb (k := K + 1) (by omega)
      obtain ⟨aN, rfl⟩ := Int.eq_ofNat_of_zero_le (show (0 : Int) ≤ a by omega)
      obtain ⟨bN, rfl⟩ := Int.eq_ofNat_of_zero_le (show (0 : Int) ≤ bb by omega)
      obtain ⟨hn2, hs0, hs1⟩ := hnb.swap ha hbb
      have HD2 : Hid (dblFrom word sizes = (out ++ swTo (sumI (now.take K)) (sgnI x) aN bN) ++ dblFrom (word.drop (i + 1)) (swapL K now)) := Lib.hid (by
        rw [HD.out, drop_cons hx, dblFrom, hK, Nat.add_sub_cancel, getD_of ha, getD_of hbb, Int.toNat_natCast, Int.toNat_natCast, List.append_assoc])
      have HSW := Lib.hid (swapL_at ha hbb)
      have hxs : -1000 ≤ x ∧ x ≤ 1000 := by omega
      have HNL := Lib.hid hnb.len
      have j1 : (0 : Int) ≤ (i : Int) := by omega
      have j2 : (i : Int) < (word.length : Int) := by omega
      have HXS := Lib.hid hxs; clear hxs hx HD
      go_wp2_with (go_at_call 146; refine (spec_l03Abs _ _ HXS.out).mono ?_; rintro e _ ⟨rfl, rfl⟩; rw [HAB.out])
      go_loop [9, 10] (fun pv jv => ∃ j : Nat, j ≤ K ∧ jv = .int .i64 j ∧ pv = .int .i64 (sumI (now.take j)) ∧ Hid (0 ≤ sumI (now.take j))) (fun _ jv => K - (intOf jv).toNat)
      case atStart => exact ⟨0, Nat.zero_le _, rfl, rfl, Lib.hid (by simp [sumI])⟩
      case round =>
        obtain ⟨j, hj, rfl, rfl, H0⟩ := hrel
        by_cases hjk : j < K
        · obtain ⟨y, hy, y1, y4⟩ := now_at hnb (k := j) (by omega)
          obtain ⟨cy, fy, _, _⟩ := own_at hnow hy
          have HSN := Lib.hid (sumI_snoc hy)
          have htk := hnb.take (j + 1)
          obtain ⟨t0, t1⟩ := htk
          rw [HSN.out] at t0 t1
          have h0 := H0.out
          have hd : decide ((j : Int) < (K : Int)) = true := decide_eq_true (by omega)
          clear hy
          have j3 : (0 : Int) ≤ (j : Int) := by omega
          have j4 : (j : Int) < (sizes.length : Int) := by omega
          generalize sumI (now.take j) = pj at HSN t0 t1 h0 H0 ⊢
          go_wp2_with (fail)
          refine ⟨⟨j + 1, by omega, by go_num, by rw [HSN.out], Lib.hid (by rw [HSN.out]; exact t0)⟩, by simp [intOf]; omega⟩
        · obtain rfl : j = K := by omega
          have h0 := H0.out
          have hpS : sumI (now.take j) ≤ 1000 := by have := (hnb.take j).2; omega
          obtain ⟨ca, fa, ga, gb⟩ := own_at hnow ha
          obtain ⟨cb, fb, _, _⟩ := own_at hnow hbb
          generalize sumI (now.take j) = place at hpS h0 HD2 hs1 H0 ⊢
          have hd : decide ((j : Int) < (j : Int)) = false := decide_eq_false (by omega)
          have j3 : (0 : Int) ≤ (j : Int) := by omega
          have j4 : (j : Int) < (sizes.length : Int) := by omega
          have j5 : (j : Int) + 1 < (sizes.length : Int) := by omega
          have j6 : IntKind.i64.wrap (j : Int) = (j : Int) := IntWalk.i64_in _ (by omega)
          have j7 : (0 : Int) ≤ (j : Int) + 1 := by omega
          have j8 : ((j : Int) + 1).toNat = j + 1 := by omega
          by_cases hneg : x < 0
          case' pos =>
            have hng : decide (x < 0) = true := decide_eq_true hneg
            have HSG : Hid (sgnI x = -1) := Lib.hid (by rw [sgnI, if_pos hneg])
          case' neg =>
            have hng : decide (x < 0) = false := decide_eq_false hneg
            have HSG : Hid (sgnI x = 1) := Lib.hid (by rw [sgnI, if_neg hneg])
          all_goals
            rw [HSG.out] at HD2
            clear hneg HSG
            go_wp2_with (fail)
            (refine wp_region_pops 2 (S := (fun W' => W'.cell? ⟨g5, j, none⟩ = some (.int .i64 (aN : Int)) ∧ W'.cell? ⟨g5, j + 1, none⟩ = some (.int .i64 (bN : Int)))) (pre := ?_) (T := ?_) (n := ?_) (by kernel_rfl) (by kernel_rfl) ?_ ?_ ?_ ?_ (fun hHeld => ?_); rotate_left 3; (focus (simp only [pops, List.pop_toArray, List.dropLast_cons_cons, List.dropLast_singleton]; rfl)); (focus (simp only [tailOf, List.pop_toArray, List.dropLast_cons_cons, List.dropLast_singleton, List.back?_toArray, List.getLast?_cons_cons, List.getLast?_singleton, Option.toList_some, List.nil_append, List.cons_append]; rfl)); (focus rfl); (focus (exact ⟨ca, cb⟩)))
            ((refine wpAnyH_take (i := 0) (v := ?_) rfl (by kernel_rfl) (by kernel_rfl) (by kernel_rfl) (fun _ _ _ h => h) (Or.inl ⟨by rfl, ?_⟩) (by assumption) ?_; rotate_left; (focus (intro W hSw; (try dsimp only at hSw); go_simp; try (with_reducible rfl)))); (try simp only [List.getElem_toArray, List.getElem_cons_zero, Act.put, List.setIfInBounds_toArray, List.set_cons_zero, List.set_cons_succ]); (refine wpAnyH_take (i := 1) (v := ?_) rfl (by kernel_rfl) (by kernel_rfl) (by kernel_rfl) (fun _ _ _ h => h) (Or.inl ⟨by rfl, ?_⟩) (by assumption) ?_; rotate_left; (focus (intro W hSw; (try dsimp only at hSw); go_simp; try (with_reducible rfl)))); (try simp only [List.getElem_toArray, List.getElem_cons_zero, List.getElem_cons_succ, Act.put, List.setIfInBounds_toArray, List.set_cons_zero, List.set_cons_succ]); (refine wpAnyH_take (i := 2) (v := ?_) rfl (by kernel_rfl) (by kernel_rfl) (by kernel_rfl) (fun _ _ _ h => h) (Or.inl ⟨by rfl, ?_⟩) (by assumption) ?_; rotate_left; (focus (intro W hSw; (try dsimp only at hSw); go_simp; try (with_reducible rfl)))); (try simp only [List.getElem_toArray, List.getElem_cons_zero, List.getElem_cons_succ, Act.put, List.setIfInBounds_toArray, List.set_cons_zero, List.set_cons_succ]); (refine wpAnyH_take (i := 3) (v := ?_) rfl (by kernel_rfl) (by kernel_rfl) (by kernel_rfl) (fun _ _ _ h => h) (Or.inl ⟨by rfl, ?_⟩) (by assumption) ?_; rotate_left; (focus (intro W hSw; (try dsimp only at hSw); go_simp; try (with_reducible rfl)))); (try simp only [List.getElem_toArray, List.getElem_cons_zero, List.getElem_cons_succ, Act.put, List.setIfInBounds_toArray, List.set_cons_zero, List.set_cons_succ]); (refine wpAnyH_take (i := 4) (v := ?_) rfl (by kernel_rfl) (by kernel_rfl) (by kernel_rfl) (fun _ _ _ h => h) (Or.inl ⟨by rfl, ?_⟩) (by assumption) ?_; rotate_left; (focus (intro W hSw; (try dsimp only at hSw); go_simp; try (with_reducible rfl)))); (try simp only [List.getElem_toArray, List.getElem_cons_zero, List.getElem_cons_succ, Act.put, List.setIfInBounds_toArray, List.set_cons_zero, List.set_cons_succ]); (refine wpAnyH_take (i := 5) (v := ?_) rfl (by kernel_rfl) (by kernel_rfl) (by kernel_rfl) (fun _ _ _ h => h) (Or.inl ⟨by rfl, ?_⟩) (by assumption) ?_; rotate_left; (focus (intro W hSw; (try dsimp only at hSw); go_simp; try (with_reducible rfl)))); (try simp only [List.getElem_toArray, List.getElem_cons_zero, List.getElem_cons_succ, Act.put, List.setIfInBounds_toArray, List.set_cons_zero, List.set_cons_succ]); (refine wpAnyH_take (i := 6) (v := ?_) rfl (by kernel_rfl) (by kernel_rfl) (by kernel_rfl) (fun _ _ _ h => h) (Or.inl ⟨by rfl, ?_⟩) (by assumption) ?_; rotate_left; (focus (intro W hSw; (try dsimp only at hSw); go_simp; try (with_reducible rfl)))); (try simp only [List.getElem_toArray, List.getElem_cons_zero, List.getElem_cons_succ, Act.put, List.setIfInBounds_toArray, List.set_cons_zero, List.set_cons_succ]); (refine wpAnyH_take (i := 7) (v := ?_) rfl (by kernel_rfl) (by kernel_rfl) (by kernel_rfl) (fun _ _ _ h => h) (Or.inl ⟨by rfl, ?_⟩) (by assumption) ?_; rotate_left; (focus (intro W hSw; (try dsimp only at hSw); go_simp; try (with_reducible rfl)))); (try simp only [List.getElem_toArray, List.getElem_cons_zero, List.getElem_cons_succ, Act.put, List.setIfInBounds_toArray, List.set_cons_zero, List.set_cons_succ]); (refine wpAnyH_take (i := 8) (v := ?_) rfl (by kernel_rfl) (by kernel_rfl) (by kernel_rfl) (fun _ _ _ h => h) (Or.inl ⟨by rfl, ?_⟩) (by assumption) ?_; rotate_left; (focus (intro W hSw; (try dsimp only at hSw); go_simp; try (with_reducible rfl)))); (try simp only [List.getElem_toArray, List.getElem_cons_zero, List.getElem_cons_succ, Act.put, List.setIfInBounds_toArray, List.set_cons_zero, List.set_cons_succ]); (refine wpAnyH_take (i := 9) (v := ?_) rfl (by kernel_rfl) (by kernel_rfl) (by kernel_rfl) (fun _ _ _ h => h) (Or.inl ⟨by rfl, ?_⟩) (by assumption) ?_; rotate_left; (focus (intro W hSw; (try dsimp only at hSw); go_simp; try (with_reducible rfl)))); (try simp only [List.getElem_toArray, List.getElem_cons_zero, List.getElem_cons_succ, Act.put, List.setIfInBounds_toArray, List.set_cons_zero, List.set_cons_succ]); (refine wpAnyH_take (i := 10) (v := ?_) rfl (by kernel_rfl) (by kernel_rfl) (by kernel_rfl) (fun _ _ _ h => h) (Or.inl ⟨by rfl, ?_⟩) (by assumption) ?_; rotate_left; (focus (intro W hSw; (try dsimp only at hSw); go_simp; try (with_reducible rfl)))); (try simp only [List.getElem_toArray, List.getElem_cons_zero, List.getElem_cons_succ, Act.put, List.setIfInBounds_toArray, List.set_cons_zero, List.set_cons_succ]); (refine wpAnyH_take (i := 11) (v := ?_) rfl (by kernel_rfl) (by kernel_rfl) (by kernel_rfl) (fun _ _ _ h => h) (Or.inl ⟨by rfl, ?_⟩) (by assumption) ?_; rotate_left; (focus (intro W hSw; (try dsimp only at hSw); go_simp; try (with_reducible rfl)))); (try simp only [List.getElem_toArray, List.getElem_cons_zero, List.getElem_cons_succ, Act.put, List.setIfInBounds_toArray, List.set_cons_zero, List.set_cons_succ]))
            (refine wpAnyH_ready (rs := [12]) (by kernel_rfl) (by simp) ?_; refine AllReadyH.cons rfl (fun K hK => ?_) AllReadyH.nil)
            go_simp
            refine (spec_l03Swap place aN bN _ _ (by first | exact .inl rfl | exact .inr rfl) ⟨h0, hpS⟩ (by omega) (by omega)).mono ?_; rintro e w7 ⟨A8, c8, rfl, o7', b7'⟩
            have b7 := undrew b7'
            have o7 : OwnI w7 wr.heap.size w7.heap.size A8 c8 (swTo place _ aN bN) := o7'
            have hz7 := b7.size
            refine hK.out _ _ ⟨(own_at (OwnC.below hnow b7 (by omega)) ha).1, (own_at (OwnC.below hnow b7 (by omega)) hbb).1⟩ (fun hHeld => ?_)
            clear hK K b7' o7'
            (try simp only [List.getElem_toArray, List.getElem_cons_zero, List.getElem_cons_succ, Act.put, List.setIfInBounds_toArray, List.set_cons_zero, List.set_cons_succ])
            (refine wpAnyH_done (by kernel_rfl) ?_ _; change wpList _ _ _ _ _ _)
            clear hHeld
            have hm := Nat.mul_le_mul (show aN ≤ 4 by omega) (show bN ≤ 4 by omega)
            generalize hms : swTo place _ aN bN = ms at o7 HD2 ⊢
            have hml : ms.length ≤ 16 := by rw [← hms, swTo_length]; exact hm
            clear hms hm
            have hnow7 := OwnC.below hnow b7 (by omega)
            have ho7 := OwnC.below ho b7 (Nat.le_refl _)
            go_wp2_with (at_builtin; refine wpList_appendC w7 rfl (.tmp 44) (.tmp 56) _ rfl 2 i0 _ 1 8 Try.underlying33 hi0 hz0 hz1 hz2 rfl (by decide) rfl ho7 (by omega) A8 ms.length c8 (ms.map (Value.int .i64)) rfl (by simp) o7.news (ints_one _) (by unfold maxLen; omega) (by omega) ?_; intro A9 c9 w8 ho8 hg8 hb8; have hnow8 := OwnC.below hnow7 hb8 (Nat.le_refl _); obtain ⟨ca8, fa8, _, _⟩ := own_at hnow8 ha; obtain ⟨cb8, fb8, _, _⟩ := own_at hnow8 hbb)
            have hz8 := hb8.size
            refine ⟨⟨i + 1, A9, c9, out ++ ms, swapL j now, by omega, by go_num, by simp, ?_, own_swap hnow8 ha hbb, hn2, ((((hb.trans (b7.mono (by omega))).trans (hb8.mono (by omega))).setCell (by show w.heap.size ≤ g5; omega) _).setCell (by show w.heap.size ≤ g5; omega) _), by simp; omega, HD2, by simp; omega⟩, by first | (simp [intOf]; done) | (simp [intOf]; omega)⟩
            show OwnC _ _ _ _ _ _ _ _ _
            rw [List.map_append, List.length_append]
            exact ((ho8.far (.inl gb) _).far (.inl gb) _).mono (Nat.le_refl _) (by simp)
    · go_wp2_with (fail)
      go_ret
      have he := HD.out
      rw [drop_all (by omega), dblFrom, List.append_nil] at he
      rw [he]
      exact ⟨_, _, rfl, ho.mono (by omega) (Nat.le_refl _), hb⟩

end Go.Proofs.Ytfgbhhkmdeljoaa

/- Doubled braids, the given side. -/
namespace Go.Proofs.Ytfgbhhkmdeljoaa
open Go Go.RowKit

theorem dbl_braid {word : List Int} {sizes : List Int} {S : Int} (hb : braidB sizes.length word = true) (hn : NowB sizes sizes.length S) (hS : 0 ≤ S ∧ S ≤ 12) :
    (∀ x ∈ word, 1 ≤ x.natAbs ∧ x.natAbs < sizes.length) ∧ word.length ≤ 40 ∧ braidB S (dblFrom word sizes) = decide ((dblFrom word sizes).length ≤ 40) ∧ (dblFrom word sizes).length ≤ 640 := by
  obtain ⟨_, _, h40, hx⟩ := braidB_of hb
  have hw : ∀ x ∈ word, 1 ≤ x.natAbs ∧ x.natAbs < sizes.length := fun x hm => by have := hx x hm; omega
  have h1 : inR S 0 12 = true := by rw [inR_iff]; exact hS
  refine ⟨hw, h40, ?_, ?_⟩
  · rw [braidB, h1, dbl_valid _ _ hw hn]; simp
  · have := dbl_length _ _ hw hn; omega
theorem dbCode_1 {word sizes : List Int} (h : braidB sizes.length word = false) : dbCode word sizes = 1 := by simp [dbCode, h]
theorem dbCode_2 {word sizes : List Int} (h : braidB sizes.length word = true) : dbCode word sizes = if (dblFrom word sizes).length ≤ 40 then 0 else 5 := by simp [dbCode, h]

set_option maxHeartbeats 4000000 in
set_option maxRecDepth 10000 in
theorem spec_DoubleBraid (word sizes : List Int) (A B : Option Addr) (c d : Nat) (w : World) (h : Ints w A word) (hl : word.length ≤ 9223372036854775807) (h' : Ints w B sizes) (hv : sizesB sizes = true) :
    Calls Try.prog 84 #[.agg #[.int .i64 sizes.length, .slice A word.length c], .slice B sizes.length d] w fun e w' => ∃ A' c', e = .returned (.tuple #[.agg #[.int .i64 (dbX word sizes).n, .slice A' (dbX word sizes).xs.length c'], .int .i64 (dbCode word sizes)]) ∧ OwnI w' w.heap.size w'.heap.size A' c' (dbX word sizes).xs ∧ Below w.heap.size w w' := by
  have t1 : (51 : TypeId) ≠ 2 := by decide
  obtain ⟨hn, ⟨hn1, hn8⟩, hS0, hS12, _⟩ := nowB_of hv
  clear hv
  have HN := Lib.hid hn
  have hb1 : Below w.heap.size w ((w.alloc (.cells #[.int .i64 sizes.length, .slice A word.length c] 51)).alloc (.cells #[.int .i64 0, .slice none 0 0] 51)) := by (repeat (first | exact Below.refl _ _ | assumption | apply Below.drew | apply below_drewN | (refine Below.alloc ?_ (by first | omega | (simp; done) | (simp; omega)) _) | (refine Below.setCell ?_ (by first | omega | (simp; done) | (simp; omega)) _)))
  have ka := (Blk.new w 51 #[.int .i64 sizes.length, .slice A word.length c]).alloc (.cells #[.int .i64 0, .slice none 0 0] 51)
  have kz : Blk ((w.alloc (.cells #[.int .i64 sizes.length, .slice A word.length c] 51)).alloc (.cells #[.int .i64 0, .slice none 0 0] 51)) (w.heap.size + 1) 51 #[.int .i64 0, .slice none 0 0] := by simpa using Blk.new (w.alloc (.cells #[.int .i64 sizes.length, .slice A word.length c] 51)) 51 #[.int .i64 0, .slice none 0 0]
  cases hbr : braidB sizes.length word
  · have HF := Lib.hid (db_err (dbCode_1 hbr) (by decide))
    go_enter Try.func84, Try.ntmps84
    go_wp2_with (fail)
    refine (belowOfN (spec_l03Ok _ _ _ A c word _ (h.below hb1) hl ka.c2.1 ka.c2.2)).mono ?_; rintro e w2 ⟨rfl, b2⟩
    have hb2 : Below w.heap.size w w2 := hb1.trans (b2.mono (by simp only [World.size_alloc]; omega))
    have kz2 := kz.below b2 (by simp)
    obtain ⟨r0, r1⟩ := kz2.c2
    have g0 := kz2.frozen 0
    have g1 := kz2.frozen 1
    rw [hbr]
    go_wp2_with (fail)
    refine bodyPost_ret (v := .tuple #[.agg #[.int .i64 (dbX word sizes).n, .slice none (dbX word sizes).xs.length 0], .int .i64 (dbCode word sizes)]) (by rw [HF.out.1, HF.out.2]; simp [results, Try.results84, go_sem, r0, r1]) rfl ⟨none, 0, rfl, ?_, ?_⟩
    · rw [HF.out.1]; exact OwnC.nil _ _ _ _ _
    · (repeat (first | exact Below.refl _ _ | assumption | apply Below.drew | apply below_drewN | (refine Below.alloc ?_ (by first | omega | (simp; done) | (simp; omega)) _) | (refine Below.setCell ?_ (by first | omega | (simp; done) | (simp; omega)) _)))
  · have HC := Lib.hid (dbCode_2 hbr)
    obtain ⟨hw, h40, hok, h640⟩ := dbl_braid hbr hn ⟨hS0, hS12⟩
    have HW := Lib.hid hw; clear hw
    have HOK := Lib.hid hok; clear hok hn
    go_enter Try.func84, Try.ntmps84
    go_wp2_with (fail)
    refine (belowOfN (spec_l03Ok _ _ _ A c word _ (h.below hb1) hl ka.c2.1 ka.c2.2)).mono ?_; rintro e w2 ⟨rfl, b2⟩
    have hb2 : Below w.heap.size w w2 := hb1.trans (b2.mono (by simp only [World.size_alloc]; omega))
    have ka2 := ka.below b2 (by simp; omega)
    have kz2 := kz.below b2 (by simp)
    have hz2 : w.heap.size + 1 < w2.heap.size := kz2.lt
    have i2 := h'.below hb2
    rw [hbr]
    clear ka kz hb1 b2 hbr
    obtain ⟨q0, q1⟩ := ka2.c2
    go_wp2_with (fail)
    go_loop [6, 7] (fun sv iv => ∃ i : Nat, i ≤ sizes.length ∧ iv = .int .i64 i ∧ sv = .int .i64 (sumI (sizes.take i))) (fun _ iv => sizes.length - (intOf iv).toNat)
    case atStart => exact ⟨0, Nat.zero_le _, rfl, rfl⟩
    case round =>
      obtain ⟨i, hi, rfl, rfl⟩ := hrel
      by_cases hil : i < sizes.length
      · obtain ⟨b, off, y, rfl, hc, hy⟩ := i2 i hil
        have hy14 := HN.out.one y (List.mem_of_getElem? hy)
        have HSN := Lib.hid (sumI_snoc hy)
        have t0 := HN.out.take i
        have t2 := HN.out.take (i + 1)
        rw [HSN.out] at t2
        clear hy
        have hin : inR y 0 4 = true := by rw [inR_iff]; omega
        have j1 : (0 : Int) ≤ (i : Int) := by omega
        have j2 : (i : Int) < (sizes.length : Int) := by omega
        generalize sumI (sizes.take i) = s0 at HSN t0 t2 ⊢
        obtain ⟨t0, t0'⟩ := t0
        obtain ⟨t2, t2'⟩ := t2
        go_wp2_with (go_at_call 66; refine (spec_l00In _ _ _ _).mono ?_; rintro e _ ⟨rfl, rfl⟩; rw [hin])
        refine ⟨⟨i + 1, by omega, by go_num, by rw [HSN.out]⟩, by simp [intOf]; omega⟩
      · obtain rfl : i = sizes.length := by omega
        rw [take_all (Nat.le_refl _)]
        go_wp2_with (fail)
        refine (spec_l03Double word sizes A B c d sizes.length (sumI sizes) _ (h.below hb2) h40 i2 HN.out ⟨hn1, hn8⟩ (by omega) HW.out).mono ?_; rintro e w3 ⟨A3, c3, rfl, o3, b3⟩
        generalize hqs : dblFrom word sizes = qs at o3 HOK HC h640 ⊢
        have HQ := Lib.hid hqs; clear hqs
        generalize hss : sumI sizes = S at HOK hS0 hS12 ⊢
        have HSS := Lib.hid hss; clear hss
        have hz3 := b3.size
        have hb3 : Below w.heap.size w w3 := hb2.trans (b3.mono (by omega))
        have kz3 := kz2.below b3 (by omega)
        have ka3 := ka2.below b3 (by omega)
        go_wp2_with (fail)
        have hb4 : Below w.heap.size w (w3.alloc (.cells #[.int .i64 S, .slice A3 qs.length c3] 51)) := by (repeat (first | exact Below.refl _ _ | assumption | apply Below.drew | apply below_drewN | (refine Below.alloc ?_ (by first | omega | (simp; done) | (simp; omega)) _) | (refine Below.setCell ?_ (by first | omega | (simp; done) | (simp; omega)) _)))
        have kx4 := Blk.new w3 51 #[.int .i64 S, .slice A3 qs.length c3]
        have kz4 := kz3.alloc (.cells #[.int .i64 S, .slice A3 qs.length c3] 51)
        have o4 := o3.alloc (.cells #[.int .i64 S, .slice A3 qs.length c3] 51)
        refine (belowOfN (spec_l03Ok _ _ _ A3 c3 qs _ (OwnC.ints o4) (by omega) kx4.c2.1 kx4.c2.2)).mono ?_; rintro e w5 ⟨rfl, b5⟩
        have hb5 : Below w.heap.size w w5 := hb4.trans (b5.mono (by simp only [World.size_alloc]; omega))
        have kx5 := kx4.below b5 (by simp)
        have kz5 := kz4.below b5 (by simp; omega)
        have hz5 := b5.size
        simp only [World.size_alloc] at hz5
        have o5 : OwnI w5 w2.heap.size w3.heap.size A3 c3 qs := OwnC.below o4 b5 (by simp)
        obtain ⟨x0, x1⟩ := kx5.c2
        obtain ⟨r0, r1⟩ := kz5.c2
        have g0 := kz5.frozen 0
        have g1 := kz5.frozen 1
        rw [HOK.out]
        by_cases hq : qs.length ≤ 40
        · have hqd : decide (qs.length ≤ 40) = true := decide_eq_true hq
          have HF : Hid (dbX word sizes = ⟨S, qs⟩ ∧ dbCode word sizes = 0) := Lib.hid (by
            have e : dbCode word sizes = 0 := by rw [HC.out, if_pos hq]
            exact ⟨by rw [dbX, if_pos e, HQ.out, HSS.out], e⟩)
          rw [hqd]
          clear hq hqd
          go_wp2_with (fail)
          refine bodyPost_ret (v := .tuple #[.agg #[.int .i64 (dbX word sizes).n, .slice A3 (dbX word sizes).xs.length c3], .int .i64 (dbCode word sizes)]) (by rw [HF.out.1, HF.out.2]; simp [results, Try.results84, go_sem, r0, r1]) rfl ⟨A3, c3, rfl, ?_, ?_⟩
          · rw [HF.out.1]
            have k1 := kz5.set20 (.int .i64 S)
            exact OwnC.mono ((o5.farT kz5 t1 0 _).farT k1 t1 1 _) (by omega) (by simp; omega)
          · (repeat (first | exact Below.refl _ _ | assumption | apply Below.drew | apply below_drewN | (refine Below.alloc ?_ (by first | omega | (simp; done) | (simp; omega)) _) | (refine Below.setCell ?_ (by first | omega | (simp; done) | (simp; omega)) _)))
        · have hqd : decide (qs.length ≤ 40) = false := decide_eq_false hq
          have HF := Lib.hid (db_err (k := 5) (by rw [HC.out, if_neg hq]) (by decide))
          rw [hqd]
          clear hq hqd
          go_wp2_with (fail)
          refine bodyPost_ret (v := .tuple #[.agg #[.int .i64 (dbX word sizes).n, .slice none (dbX word sizes).xs.length 0], .int .i64 (dbCode word sizes)]) (by rw [HF.out.1, HF.out.2]; simp [results, Try.results84, go_sem, r0, r1]) rfl ⟨none, 0, rfl, ?_, ?_⟩
          · rw [HF.out.1]; exact OwnC.nil _ _ _ _ _
          · (repeat (first | exact Below.refl _ _ | assumption | apply Below.drew | apply below_drewN | (refine Below.alloc ?_ (by first | omega | (simp; done) | (simp; omega)) _) | (refine Below.setCell ?_ (by first | omega | (simp; done) | (simp; omega)) _)))

end Go.Proofs.Ytfgbhhkmdeljoaa

/- A region whose last ready operation is a store. -/
namespace Go.Proofs.Ytfgbhhkmdeljoaa
open Go Go.RowKit

def lastQ (S : World → Prop) (Q : Exit → Act → World → Prop) : Exit → Act → World → Prop
  | .normal, a, w => S w ∧ Q .normal a w
  | e, a, w => Q e a w
theorem lastQ_mk {S : World → Prop} {Q : Exit → Act → World → Prop} {a : Act} {w : World} (hS : S w) (hQ : Q .normal a w) : lastQ S Q .normal a w := ⟨hS, hQ⟩
theorem wpAnyH_end {P : Program} {md : Region.Mode} {ops : Array Oper} {Q : Exit → Act → World → Prop} {S : World → Prop} {fuel : Nat} {listed : Array Bool} {a : Act} {w : World} {i : Nat} {o : Oper}
    (hr : Region.ready md ops listed = [i]) (ho : ops[i]? = some o) (hg : o.guard = none) (hall : Region.ready md ops (listed.setIfInBounds i true) = []) (h : wpList P #[] (lastQ S Q) [o] a w) : wpAnyH P md ops Q S (fuel + 1) listed a w :=
  wpAnyH_ready hr (by simp) (fun j hj => by
    obtain rfl := List.mem_singleton.1 hj
    unfold wpOp
    rw [ho]
    have hw : Region.wanted o (yielded ops a.tmps) = true := by simp [Region.wanted, hg]
    have hw0 : Region.wanted o (yielded #[] a.tmps) = true := by simp [Region.wanted, hg]
    simp only [hw, if_true]
    unfold wpList at h
    simp only [hw0, if_true] at h
    rcases h with h | ⟨h1, h2⟩
    · exact .inl (Oper.wp_le (fun a w hq => ⟨hq.1, wpAnyH_done hall hq.2 _⟩) (fun _ _ _ h => h) (fun ⟨a, w, h⟩ => ⟨a, w, h⟩) h)
    · exact .inr ⟨h1, h2.imp fun a h => h.imp fun w h => h⟩)

end Go.Proofs.Ytfgbhhkmdeljoaa
