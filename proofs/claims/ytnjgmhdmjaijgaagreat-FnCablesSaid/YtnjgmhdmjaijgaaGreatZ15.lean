/- Steps of the proof, joined from several texts: YA YB ZM ZA ZB. -/
import Derived.Test.YtnjgmhdmjaijgaaGreatZ11
import Derived.Test.YtnjgmhdmjaijgaaGreatZ7
import Derived.Test.YtnjgmhdmjaijgaaGreatZ9
import Derived.Test.YtnjgmhdmjaijgaaGreatZ12
import Derived.Test.YtnjgmhdmjaijgaaGreatZ4

/- The letters of two blocks that change places. -/
namespace Go.Proofs.YtnjgmhdmjaijgaaGreat
open Go.RowKit

def swRow (p s : Int) : Nat → List Int
  | 0 => []
  | k + 1 => (s * (p + (k : Int) + 1)) :: swRow p s k
def swTo (place s : Int) (a : Nat) : Nat → List Int
  | 0 => []
  | t + 1 => swTo place s a t ++ swRow (place + (t : Int)) s a
theorem swRow_length (p s : Int) (a : Nat) : (swRow p s a).length = a := by
  induction a with
  | zero => rfl
  | succ a ih => simp [swRow, ih]
theorem swTo_length (place s : Int) (a b : Nat) : (swTo place s a b).length = a * b := by
  induction b with
  | zero => rfl
  | succ b ih => rw [swTo, List.length_append, ih, swRow_length, Nat.mul_succ]

set_option maxHeartbeats 2000000 in
set_option maxRecDepth 10000 in
theorem spec_l03Swap_p (place : Int) (a b : Nat) (w : World) (hp : 0 ≤ place ∧ place ≤ 1000) (ha : a ≤ 4) (hb : b ≤ 4) :
    Calls Tryz.prog 149 #[.int .i64 place, .int .i64 a, .int .i64 b, .int .i64 1] w fun e w' => ∃ A' c', e = .returned (.slice A' (swTo place 1 a b).length c') ∧ OwnI w' w.heap.size w'.heap.size A' c' (swTo place 1 a b) ∧ Below w.heap.size w w' := by
  obtain ⟨i0, hi0, hz0, hz1, hz2⟩ := info_parts info_int64
  obtain ⟨hp0, hp1⟩ := hp
  have o1 := (OwnC.lit (w := w) (lo := w.heap.size) (n := 0) 2 1 #[] (Nat.le_refl _) (Nat.zero_le _) rfl).mono (Nat.le_refl _) (show w.heap.size + 1 ≤ (w.alloc (.cells #[] 2)).heap.size by simp)
  have O1 := Lib.hid o1; clear o1
  have hb1 : Below w.heap.size w (w.alloc (.cells #[] 2)) := by (repeat (first | exact Below.refl _ _ | assumption | apply Below.drew | apply below_drewN | (refine Below.alloc ?_ (by first | omega | (simp; done) | (simp; omega)) _) | (refine Below.setCell ?_ (by first | omega | (simp; done) | (simp; omega)) _)))
  go_enter Tryz.func149, Tryz.ntmps149
  go_wp2_with (fail)
  go_loopw [9, 10] (fun ov tv wr => ∃ (t : Nat) (A' : Option Addr) (c' : Nat) (out : List Int), t ≤ b ∧ tv = .int .i64 t ∧ ov = .slice A' out.length c' ∧ OwnI wr w.heap.size wr.heap.size A' c' out ∧ Below w.heap.size w wr ∧ Hid (out = swTo place 1 a t) ∧ out.length ≤ 4 * t) (fun _ tv _ => b - (intOf tv).toNat)
  case atStart => exact ⟨0, some ⟨w.heap.size, 0, none⟩, 0, [], Nat.zero_le _, rfl, rfl, O1.out, hb1, Lib.hid rfl, by simp⟩
  case round =>
    obtain ⟨t, A', c', out, ht, rfl, rfl, ho, hbr, HO, hol⟩ := hrel
    have hzr := hbr.size
    by_cases htb : t < b
    · have hd : decide ((t : Int) < (b : Int)) = true := decide_eq_true (by omega)
      have HN : Hid (swTo place 1 a (t + 1) = out ++ swRow (place + (t : Int)) 1 a) := Lib.hid (by rw [swTo, HO.out])
      clear HO hd
      go_wp2_with (fail)
      go_loopw [9, 11] (fun ov kv ws => ∃ (j : Nat) (A3 : Option Addr) (c3 : Nat) (done : List Int), j ≤ a ∧ kv = .int .i64 ((j : Int) - 1) ∧ ov = .slice A3 done.length c3 ∧ OwnI ws w.heap.size ws.heap.size A3 c3 done ∧ Below w.heap.size w ws ∧ Hid (swTo place 1 a (t + 1) = done ++ swRow (place + (t : Int)) 1 j) ∧ done.length + j ≤ 4 * t + a) (fun _ kv _ => (intOf kv + 1).toNat)
      case atStart => exact ⟨a, A', c', out, Nat.le_refl _, rfl, rfl, ho, hbr, HN, by omega⟩
      case round =>
        clear ho hbr HN
        obtain ⟨j, A3, c3, done, hj, rfl, rfl, ho, hbs, HN, hdl⟩ := hrel
        have hzs := hbs.size
        cases j with
        | succ j =>
          have HN2 : Hid (swTo place 1 a (t + 1) = (done ++ [1 * (place + (t : Int) + (j : Int) + 1)]) ++ swRow (place + (t : Int)) 1 j) := Lib.hid (by rw [HN.out, swRow, List.append_assoc]; rfl)
          clear HN
          have e1 : ((j + 1 : Nat) : Int) - 1 = (j : Int) := by push_cast; omega
          rw [e1]
          have hd2 : decide ((j : Int) ≥ 0) = true := decide_eq_true (by omega)
          go_wp2_with (at_builtin; refine wpList_append1 wr [.int .i64 (place + (t : Int) + (j : Int) + 1)] _ rfl (.tmp 24) (.tmp 33) _ rfl 2 i0 _ 1 8 Tryz.underlying36 hi0 hz0 hz1 hz2 rfl (by decide) rfl ho hzs 1 rfl rfl (by simp [Value.oneCell']) (by omega) (by decide) ?_; intro A5 c5 w5 ho5 hg5 hb5 hz5)
          refine ⟨⟨j, A5, c5, done ++ [1 * (place + (t : Int) + (j : Int) + 1)], by omega, rfl, by simp, ?_, hbs.trans hb5, HN2, by simp; omega⟩, by first | (simp [intOf]; done) | (simp [intOf]; omega)⟩
          rw [show 1 * (place + (t : Int) + (j : Int) + 1) = (place + (t : Int) + (j : Int) + 1) by omega]
          show OwnC _ _ _ _ _ _ _ _ _
          rw [List.map_append, List.length_append]
          exact ho5
        | zero =>
          have HE : Hid (swTo place 1 a (t + 1) = done) := Lib.hid (by rw [HN.out, swRow, List.append_nil])
          clear HN
          have e1 : ((0 : Nat) : Int) - 1 = -1 := by omega
          rw [e1]
          go_wp2_with (fail)
          refine ⟨⟨t + 1, A3, c3, done, by omega, by go_num, rfl, ho, hbs, Lib.hid HE.out.symm, by omega⟩, by simp [intOf]; omega⟩
    · obtain rfl : t = b := by omega
      go_wp2_with (fail)
      go_ret
      rw [← HO.out]
      exact ⟨A', c', rfl, ho, hbr⟩

set_option maxHeartbeats 2000000 in
set_option maxRecDepth 10000 in
theorem spec_l03Swap_n (place : Int) (a b : Nat) (w : World) (hp : 0 ≤ place ∧ place ≤ 1000) (ha : a ≤ 4) (hb : b ≤ 4) :
    Calls Tryz.prog 149 #[.int .i64 place, .int .i64 a, .int .i64 b, .int .i64 (-1)] w fun e w' => ∃ A' c', e = .returned (.slice A' (swTo place (-1) a b).length c') ∧ OwnI w' w.heap.size w'.heap.size A' c' (swTo place (-1) a b) ∧ Below w.heap.size w w' := by
  obtain ⟨i0, hi0, hz0, hz1, hz2⟩ := info_parts info_int64
  obtain ⟨hp0, hp1⟩ := hp
  have o1 := (OwnC.lit (w := w) (lo := w.heap.size) (n := 0) 2 1 #[] (Nat.le_refl _) (Nat.zero_le _) rfl).mono (Nat.le_refl _) (show w.heap.size + 1 ≤ (w.alloc (.cells #[] 2)).heap.size by simp)
  have O1 := Lib.hid o1; clear o1
  have hb1 : Below w.heap.size w (w.alloc (.cells #[] 2)) := by (repeat (first | exact Below.refl _ _ | assumption | apply Below.drew | apply below_drewN | (refine Below.alloc ?_ (by first | omega | (simp; done) | (simp; omega)) _) | (refine Below.setCell ?_ (by first | omega | (simp; done) | (simp; omega)) _)))
  go_enter Tryz.func149, Tryz.ntmps149
  go_wp2_with (fail)
  go_loopw [9, 10] (fun ov tv wr => ∃ (t : Nat) (A' : Option Addr) (c' : Nat) (out : List Int), t ≤ b ∧ tv = .int .i64 t ∧ ov = .slice A' out.length c' ∧ OwnI wr w.heap.size wr.heap.size A' c' out ∧ Below w.heap.size w wr ∧ Hid (out = swTo place (-1) a t) ∧ out.length ≤ 4 * t) (fun _ tv _ => b - (intOf tv).toNat)
  case atStart => exact ⟨0, some ⟨w.heap.size, 0, none⟩, 0, [], Nat.zero_le _, rfl, rfl, O1.out, hb1, Lib.hid rfl, by simp⟩
  case round =>
    obtain ⟨t, A', c', out, ht, rfl, rfl, ho, hbr, HO, hol⟩ := hrel
    have hzr := hbr.size
    by_cases htb : t < b
    · have hd : decide ((t : Int) < (b : Int)) = true := decide_eq_true (by omega)
      have HN : Hid (swTo place (-1) a (t + 1) = out ++ swRow (place + (t : Int)) (-1) a) := Lib.hid (by rw [swTo, HO.out])
      clear HO hd
      go_wp2_with (fail)
      go_loopw [9, 11] (fun ov kv ws => ∃ (j : Nat) (A3 : Option Addr) (c3 : Nat) (done : List Int), j ≤ a ∧ kv = .int .i64 ((j : Int) - 1) ∧ ov = .slice A3 done.length c3 ∧ OwnI ws w.heap.size ws.heap.size A3 c3 done ∧ Below w.heap.size w ws ∧ Hid (swTo place (-1) a (t + 1) = done ++ swRow (place + (t : Int)) (-1) j) ∧ done.length + j ≤ 4 * t + a) (fun _ kv _ => (intOf kv + 1).toNat)
      case atStart => exact ⟨a, A', c', out, Nat.le_refl _, rfl, rfl, ho, hbr, HN, by omega⟩
      case round =>
        clear ho hbr HN
        obtain ⟨j, A3, c3, done, hj, rfl, rfl, ho, hbs, HN, hdl⟩ := hrel
        have hzs := hbs.size
        cases j with
        | succ j =>
          have HN2 : Hid (swTo place (-1) a (t + 1) = (done ++ [(-1) * (place + (t : Int) + (j : Int) + 1)]) ++ swRow (place + (t : Int)) (-1) j) := Lib.hid (by rw [HN.out, swRow, List.append_assoc]; rfl)
          clear HN
          have e1 : ((j + 1 : Nat) : Int) - 1 = (j : Int) := by push_cast; omega
          rw [e1]
          have hd2 : decide ((j : Int) ≥ 0) = true := decide_eq_true (by omega)
          go_wp2_with (at_builtin; refine wpList_append1 wr [.int .i64 (-(place + (t : Int) + (j : Int) + 1))] _ rfl (.tmp 24) (.tmp 33) _ rfl 2 i0 _ 1 8 Tryz.underlying36 hi0 hz0 hz1 hz2 rfl (by decide) rfl ho hzs 1 rfl rfl (by simp [Value.oneCell']) (by omega) (by decide) ?_; intro A5 c5 w5 ho5 hg5 hb5 hz5)
          refine ⟨⟨j, A5, c5, done ++ [(-1) * (place + (t : Int) + (j : Int) + 1)], by omega, rfl, by simp, ?_, hbs.trans hb5, HN2, by simp; omega⟩, by first | (simp [intOf]; done) | (simp [intOf]; omega)⟩
          rw [show (-1) * (place + (t : Int) + (j : Int) + 1) = (-(place + (t : Int) + (j : Int) + 1)) by omega]
          show OwnC _ _ _ _ _ _ _ _ _
          rw [List.map_append, List.length_append]
          exact ho5
        | zero =>
          have HE : Hid (swTo place (-1) a (t + 1) = done) := Lib.hid (by rw [HN.out, swRow, List.append_nil])
          clear HN
          have e1 : ((0 : Nat) : Int) - 1 = -1 := by omega
          rw [e1]
          go_wp2_with (fail)
          refine ⟨⟨t + 1, A3, c3, done, by omega, by go_num, rfl, ho, hbs, Lib.hid HE.out.symm, by omega⟩, by simp [intOf]; omega⟩
    · obtain rfl : t = b := by omega
      go_wp2_with (fail)
      go_ret
      rw [← HO.out]
      exact ⟨A', c', rfl, ho, hbr⟩

set_option maxHeartbeats 2000000 in
set_option maxRecDepth 10000 in
theorem impl_blockLetters_p (place : Int) (a b : Nat) (w : World) (hp : 0 ≤ place ∧ place ≤ 1000) (ha : a ≤ 4) (hb : b ≤ 4) :
    Calls Tryz.prog 172 #[.int .i64 place, .int .i64 a, .int .i64 b, .int .i64 1] w fun e w' => ∃ A' c', e = .returned (.slice A' (swTo place 1 a b).length c') ∧ OwnI w' w.heap.size w'.heap.size A' c' (swTo place 1 a b) ∧ Below w.heap.size w w' := by
  obtain ⟨i0, hi0, hz0, hz1, hz2⟩ := info_parts info_int64
  obtain ⟨hp0, hp1⟩ := hp
  have o1 := (OwnC.lit (w := w) (lo := w.heap.size) (n := 0) 2 1 #[] (Nat.le_refl _) (Nat.zero_le _) rfl).mono (Nat.le_refl _) (show w.heap.size + 1 ≤ (w.alloc (.cells #[] 2)).heap.size by simp)
  have O1 := Lib.hid o1; clear o1
  have hb1 : Below w.heap.size w (w.alloc (.cells #[] 2)) := by (repeat (first | exact Below.refl _ _ | assumption | apply Below.drew | apply below_drewN | (refine Below.alloc ?_ (by first | omega | (simp; done) | (simp; omega)) _) | (refine Below.setCell ?_ (by first | omega | (simp; done) | (simp; omega)) _)))
  go_enter Tryz.func172, Tryz.ntmps172
  go_wp2_with (fail)
  go_loopw [9, 14] (fun ov tv wr => ∃ (t : Nat) (A' : Option Addr) (c' : Nat) (out : List Int), t ≤ b ∧ tv = .int .i64 t ∧ ov = .slice A' out.length c' ∧ OwnI wr w.heap.size wr.heap.size A' c' out ∧ Below w.heap.size w wr ∧ Hid (out = swTo place 1 a t) ∧ out.length ≤ 4 * t) (fun _ tv _ => b - (intOf tv).toNat)
  case atStart => exact ⟨0, some ⟨w.heap.size, 0, none⟩, 0, [], Nat.zero_le _, rfl, rfl, O1.out, hb1, Lib.hid rfl, by simp⟩
  case round =>
    obtain ⟨t, A', c', out, ht, rfl, rfl, ho, hbr, HO, hol⟩ := hrel
    have hzr := hbr.size
    by_cases htb : t < b
    · have hd : decide ((t : Int) < (b : Int)) = true := decide_eq_true (by omega)
      have HN : Hid (swTo place 1 a (t + 1) = out ++ swRow (place + (t : Int)) 1 a) := Lib.hid (by rw [swTo, HO.out])
      clear HO hd
      go_wp2_with (fail)
      go_loopw [9, 11] (fun ov kv ws => ∃ (j : Nat) (A3 : Option Addr) (c3 : Nat) (done : List Int), j ≤ a ∧ kv = .int .i64 ((j : Int) - 1) ∧ ov = .slice A3 done.length c3 ∧ OwnI ws w.heap.size ws.heap.size A3 c3 done ∧ Below w.heap.size w ws ∧ Hid (swTo place 1 a (t + 1) = done ++ swRow (place + (t : Int)) 1 j) ∧ done.length + j ≤ 4 * t + a) (fun _ kv _ => (intOf kv + 1).toNat)
      case atStart => exact ⟨a, A', c', out, Nat.le_refl _, rfl, rfl, ho, hbr, HN, by omega⟩
      case round =>
        clear ho hbr HN
        obtain ⟨j, A3, c3, done, hj, rfl, rfl, ho, hbs, HN, hdl⟩ := hrel
        have hzs := hbs.size
        cases j with
        | succ j =>
          have HN2 : Hid (swTo place 1 a (t + 1) = (done ++ [1 * (place + (t : Int) + (j : Int) + 1)]) ++ swRow (place + (t : Int)) 1 j) := Lib.hid (by rw [HN.out, swRow, List.append_assoc]; rfl)
          clear HN
          have e1 : ((j + 1 : Nat) : Int) - 1 = (j : Int) := by push_cast; omega
          rw [e1]
          have hd2 : decide ((j : Int) ≥ 0) = true := decide_eq_true (by omega)
          go_wp2_with (at_builtin; refine wpList_append1 wr [.int .i64 (place + (t : Int) + (j : Int) + 1)] _ rfl (.tmp 23) (.tmp 32) _ rfl 2 i0 _ 1 8 Tryz.underlying36 hi0 hz0 hz1 hz2 rfl (by decide) rfl ho hzs 1 rfl rfl (by simp [Value.oneCell']) (by omega) (by decide) ?_; intro A5 c5 w5 ho5 hg5 hb5 hz5)
          refine ⟨⟨j, A5, c5, done ++ [1 * (place + (t : Int) + (j : Int) + 1)], by omega, rfl, by simp, ?_, hbs.trans hb5, HN2, by simp; omega⟩, by first | (simp [intOf]; done) | (simp [intOf]; omega)⟩
          rw [show 1 * (place + (t : Int) + (j : Int) + 1) = (place + (t : Int) + (j : Int) + 1) by omega]
          show OwnC _ _ _ _ _ _ _ _ _
          rw [List.map_append, List.length_append]
          exact ho5
        | zero =>
          have HE : Hid (swTo place 1 a (t + 1) = done) := Lib.hid (by rw [HN.out, swRow, List.append_nil])
          clear HN
          have e1 : ((0 : Nat) : Int) - 1 = -1 := by omega
          rw [e1]
          go_wp2_with (fail)
          refine ⟨⟨t + 1, A3, c3, done, by omega, by go_num, rfl, ho, hbs, Lib.hid HE.out.symm, by omega⟩, by simp [intOf]; omega⟩
    · obtain rfl : t = b := by omega
      go_wp2_with (fail)
      go_ret
      rw [← HO.out]
      exact ⟨A', c', rfl, ho, hbr⟩

set_option maxHeartbeats 2000000 in
set_option maxRecDepth 10000 in
theorem impl_blockLetters_n (place : Int) (a b : Nat) (w : World) (hp : 0 ≤ place ∧ place ≤ 1000) (ha : a ≤ 4) (hb : b ≤ 4) :
    Calls Tryz.prog 172 #[.int .i64 place, .int .i64 a, .int .i64 b, .int .i64 (-1)] w fun e w' => ∃ A' c', e = .returned (.slice A' (swTo place (-1) a b).length c') ∧ OwnI w' w.heap.size w'.heap.size A' c' (swTo place (-1) a b) ∧ Below w.heap.size w w' := by
  obtain ⟨i0, hi0, hz0, hz1, hz2⟩ := info_parts info_int64
  obtain ⟨hp0, hp1⟩ := hp
  have o1 := (OwnC.lit (w := w) (lo := w.heap.size) (n := 0) 2 1 #[] (Nat.le_refl _) (Nat.zero_le _) rfl).mono (Nat.le_refl _) (show w.heap.size + 1 ≤ (w.alloc (.cells #[] 2)).heap.size by simp)
  have O1 := Lib.hid o1; clear o1
  have hb1 : Below w.heap.size w (w.alloc (.cells #[] 2)) := by (repeat (first | exact Below.refl _ _ | assumption | apply Below.drew | apply below_drewN | (refine Below.alloc ?_ (by first | omega | (simp; done) | (simp; omega)) _) | (refine Below.setCell ?_ (by first | omega | (simp; done) | (simp; omega)) _)))
  go_enter Tryz.func172, Tryz.ntmps172
  go_wp2_with (fail)
  go_loopw [9, 14] (fun ov tv wr => ∃ (t : Nat) (A' : Option Addr) (c' : Nat) (out : List Int), t ≤ b ∧ tv = .int .i64 t ∧ ov = .slice A' out.length c' ∧ OwnI wr w.heap.size wr.heap.size A' c' out ∧ Below w.heap.size w wr ∧ Hid (out = swTo place (-1) a t) ∧ out.length ≤ 4 * t) (fun _ tv _ => b - (intOf tv).toNat)
  case atStart => exact ⟨0, some ⟨w.heap.size, 0, none⟩, 0, [], Nat.zero_le _, rfl, rfl, O1.out, hb1, Lib.hid rfl, by simp⟩
  case round =>
    obtain ⟨t, A', c', out, ht, rfl, rfl, ho, hbr, HO, hol⟩ := hrel
    have hzr := hbr.size
    by_cases htb : t < b
    · have hd : decide ((t : Int) < (b : Int)) = true := decide_eq_true (by omega)
      have HN : Hid (swTo place (-1) a (t + 1) = out ++ swRow (place + (t : Int)) (-1) a) := Lib.hid (by rw [swTo, HO.out])
      clear HO hd
      go_wp2_with (fail)
      go_loopw [9, 11] (fun ov kv ws => ∃ (j : Nat) (A3 : Option Addr) (c3 : Nat) (done : List Int), j ≤ a ∧ kv = .int .i64 ((j : Int) - 1) ∧ ov = .slice A3 done.length c3 ∧ OwnI ws w.heap.size ws.heap.size A3 c3 done ∧ Below w.heap.size w ws ∧ Hid (swTo place (-1) a (t + 1) = done ++ swRow (place + (t : Int)) (-1) j) ∧ done.length + j ≤ 4 * t + a) (fun _ kv _ => (intOf kv + 1).toNat)
      case atStart => exact ⟨a, A', c', out, Nat.le_refl _, rfl, rfl, ho, hbr, HN, by omega⟩
      case round =>
        clear ho hbr HN
        obtain ⟨j, A3, c3, done, hj, rfl, rfl, ho, hbs, HN, hdl⟩ := hrel
        have hzs := hbs.size
        cases j with
        | succ j =>
          have HN2 : Hid (swTo place (-1) a (t + 1) = (done ++ [(-1) * (place + (t : Int) + (j : Int) + 1)]) ++ swRow (place + (t : Int)) (-1) j) := Lib.hid (by rw [HN.out, swRow, List.append_assoc]; rfl)
          clear HN
          have e1 : ((j + 1 : Nat) : Int) - 1 = (j : Int) := by push_cast; omega
          rw [e1]
          have hd2 : decide ((j : Int) ≥ 0) = true := decide_eq_true (by omega)
          go_wp2_with (at_builtin; refine wpList_append1 wr [.int .i64 (-(place + (t : Int) + (j : Int) + 1))] _ rfl (.tmp 23) (.tmp 32) _ rfl 2 i0 _ 1 8 Tryz.underlying36 hi0 hz0 hz1 hz2 rfl (by decide) rfl ho hzs 1 rfl rfl (by simp [Value.oneCell']) (by omega) (by decide) ?_; intro A5 c5 w5 ho5 hg5 hb5 hz5)
          refine ⟨⟨j, A5, c5, done ++ [(-1) * (place + (t : Int) + (j : Int) + 1)], by omega, rfl, by simp, ?_, hbs.trans hb5, HN2, by simp; omega⟩, by first | (simp [intOf]; done) | (simp [intOf]; omega)⟩
          rw [show (-1) * (place + (t : Int) + (j : Int) + 1) = (-(place + (t : Int) + (j : Int) + 1)) by omega]
          show OwnC _ _ _ _ _ _ _ _ _
          rw [List.map_append, List.length_append]
          exact ho5
        | zero =>
          have HE : Hid (swTo place (-1) a (t + 1) = done) := Lib.hid (by rw [HN.out, swRow, List.append_nil])
          clear HN
          have e1 : ((0 : Nat) : Int) - 1 = -1 := by omega
          rw [e1]
          go_wp2_with (fail)
          refine ⟨⟨t + 1, A3, c3, done, by omega, by go_num, rfl, ho, hbs, Lib.hid HE.out.symm, by omega⟩, by simp [intOf]; omega⟩
    · obtain rfl : t = b := by omega
      go_wp2_with (fail)
      go_ret
      rw [← HO.out]
      exact ⟨A', c', rfl, ho, hbr⟩

theorem spec_l03Swap (place : Int) (a b : Nat) (s : Int) (w : World) (hs : s = 1 ∨ s = -1) (hp : 0 ≤ place ∧ place ≤ 1000) (ha : a ≤ 4) (hb : b ≤ 4) :
    Calls Tryz.prog 149 #[.int .i64 place, .int .i64 a, .int .i64 b, .int .i64 s] w fun e w' => ∃ A' c', e = .returned (.slice A' (swTo place s a b).length c') ∧ OwnI w' w.heap.size w'.heap.size A' c' (swTo place s a b) ∧ Below w.heap.size w w' := by
  rcases hs with rfl | rfl
  · exact spec_l03Swap_p place a b w hp ha hb
  · exact spec_l03Swap_n place a b w hp ha hb

theorem impl_blockLetters (place : Int) (a b : Nat) (s : Int) (w : World) (hs : s = 1 ∨ s = -1) (hp : 0 ≤ place ∧ place ≤ 1000) (ha : a ≤ 4) (hb : b ≤ 4) :
    Calls Tryz.prog 172 #[.int .i64 place, .int .i64 a, .int .i64 b, .int .i64 s] w fun e w' => ∃ A' c', e = .returned (.slice A' (swTo place s a b).length c') ∧ OwnI w' w.heap.size w'.heap.size A' c' (swTo place s a b) ∧ Below w.heap.size w w' := by
  rcases hs with rfl | rfl
  · exact impl_blockLetters_p place a b w hp ha hb
  · exact impl_blockLetters_n place a b w hp ha hb

end Go.Proofs.YtnjgmhdmjaijgaaGreat

/- Doubled braids: the plain functions. -/
namespace Go.Proofs.YtnjgmhdmjaijgaaGreat
open Go.RowKit

def sgnI (x : Int) : Int := if x < 0 then -1 else 1
theorem sgnI_cases (x : Int) : sgnI x = 1 ∨ sgnI x = -1 := by unfold sgnI; split <;> simp
def swapL (k : Nat) (xs : List Int) : List Int := (xs.set k (xs.getD (k + 1) 0)).set (k + 1) (xs.getD k 0)
def dblFrom : List Int → List Int → List Int
  | [], _ => []
  | x :: xs, now => swTo (sumI (now.take (x.natAbs - 1))) (sgnI x) (now.getD (x.natAbs - 1) 0).toNat (now.getD (x.natAbs - 1 + 1) 0).toNat ++ dblFrom xs (swapL (x.natAbs - 1) now)
theorem decomp {now : List Int} {k : Nat} {a b : Int} (ha : now[k]? = some a) (hb : now[k + 1]? = some b) : ∃ pre post, now = pre ++ a :: b :: post ∧ pre.length = k ∧ now.take k = pre := by
  have hk := (List.getElem?_eq_some_iff.1 ha).1
  refine ⟨now.take k, now.drop (k + 1 + 1), ?_, by rw [List.length_take]; omega, rfl⟩
  rw [← drop_cons hb, ← drop_cons ha, List.take_append_drop]
theorem getD_of {now : List Int} {k : Nat} {a : Int} (ha : now[k]? = some a) : now.getD k 0 = a := by rw [List.getD_eq_getElem?_getD, ha]; rfl
theorem swapL_at {now : List Int} {k : Nat} {a b : Int} (ha : now[k]? = some a) (hb : now[k + 1]? = some b) : swapL k now = (now.set k b).set (k + 1) a := by
  rw [swapL, getD_of ha, getD_of hb]
theorem swapL_eq {pre post : List Int} {a b : Int} : ((pre ++ a :: b :: post).set pre.length b).set (pre.length + 1) a = pre ++ b :: a :: post := by
  rw [List.set_append_right _ _ (Nat.le_refl _), Nat.sub_self, List.set_cons_zero, List.set_append_right _ _ (by omega), show pre.length + 1 - pre.length = 1 by omega]
  rfl
structure NowB (now : List Int) (n : Nat) (S : Int) : Prop where
  len : now.length = n
  one : ∀ y ∈ now, 1 ≤ y ∧ y ≤ 4
  sum : sumI now = S
theorem sumI_nonneg {xs : List Int} (h : ∀ y ∈ xs, 1 ≤ y ∧ y ≤ 4) : 0 ≤ sumI xs := by
  induction xs with
  | nil => simp [sumI]
  | cons x xs ih =>
    have h1 := h x (by simp)
    have h2 := ih fun y hy => h y (by simp [hy])
    rw [sumI]; omega
theorem NowB.swap {now : List Int} {n k : Nat} {S a b : Int} (h : NowB now n S) (ha : now[k]? = some a) (hb : now[k + 1]? = some b) : NowB (swapL k now) n S ∧ 0 ≤ sumI (now.take k) ∧ sumI (now.take k) + a + b ≤ S := by
  rw [swapL_at ha hb]
  obtain ⟨pre, post, rfl, rfl, hp⟩ := decomp ha hb
  obtain ⟨h1, h2, h3⟩ := h
  rw [swapL_eq, hp]
  simp only [List.length_append, List.length_cons] at h1
  have e : sumI (pre ++ b :: a :: post) = sumI (pre ++ a :: b :: post) := by rw [sumI_append, sumI_append, sumI, sumI, sumI, sumI]; omega
  have hpost := sumI_nonneg (xs := post) (fun y hy => h2 y (by simp [hy]))
  have hpre := sumI_nonneg (xs := pre) (fun y hy => h2 y (by simp [hy]))
  refine ⟨⟨by simp; omega, fun y hy => h2 y ?_, by rw [e, h3]⟩, hpre, ?_⟩
  · simp only [List.mem_append, List.mem_cons] at hy ⊢
    rcases hy with h | h | h | h <;> simp [h]
  · rw [sumI_append, sumI, sumI] at h3; omega
theorem NowB.take {now : List Int} {n : Nat} {S : Int} (h : NowB now n S) (j : Nat) : 0 ≤ sumI (now.take j) ∧ sumI (now.take j) ≤ S := by
  have h1 := sumI_nonneg (xs := now.take j) (fun y hy => h.one y (List.mem_of_mem_take hy))
  have h2 := sumI_nonneg (xs := now.drop j) (fun y hy => h.one y (List.mem_of_mem_drop hy))
  have h3 := h.sum
  rw [← List.take_append_drop j now, sumI_append] at h3
  omega
theorem own_at {w : World} {lo hi g c j : Nat} {now : List Int} {y : Int} (h : OwnI w lo hi (some ⟨g, 0, none⟩) c now) (hy : now[j]? = some y) : w.cell? ⟨g, j, none⟩ = some (.int .i64 y) ∧ w.frozen? ⟨g, j, none⟩ = false ∧ lo ≤ g ∧ g < hi := by
  have hj := (List.getElem?_eq_some_iff.1 hy).1
  obtain ⟨g', hg, h0, h1, hc, hf⟩ := OwnC.cell h (j := j) (by simpa using hj)
  injection hg with hg
  injection hg with hg
  subst hg
  refine ⟨?_, hf, h0, h1⟩
  rw [hc]
  have := (List.getElem?_eq_some_iff.1 hy).2
  simp [this]
theorem own_swap {w : World} {lo hi g c k : Nat} {now : List Int} {a b : Int} (h : OwnI w lo hi (some ⟨g, 0, none⟩) c now) (ha : now[k]? = some a) (hb : now[k + 1]? = some b) :
    OwnI ((w.setCell ⟨g, k, none⟩ (.int .i64 b)).setCell ⟨g, k + 1, none⟩ (.int .i64 a)) lo hi (some ⟨g, 0, none⟩) c (swapL k now) := by
  rw [swapL_at ha hb]
  show OwnC _ _ _ _ _ _ _ _ _
  rw [List.map_set, List.map_set, List.length_set, List.length_set]
  exact (OwnC.store (OwnC.store h _).1 _).1
theorem swRow_mem {p s y : Int} {a : Nat} (h : y ∈ swRow p s a) : ∃ j : Nat, j < a ∧ y = s * (p + (j : Int) + 1) := by
  induction a with
  | zero => simp [swRow] at h
  | succ a ih =>
    rw [swRow, List.mem_cons] at h
    rcases h with h | h
    · exact ⟨a, by omega, h⟩
    · obtain ⟨j, hj, e⟩ := ih h
      exact ⟨j, by omega, e⟩
theorem swTo_mem {p s y : Int} {a b : Nat} (h : y ∈ swTo p s a b) : ∃ j u : Nat, j < a ∧ u < b ∧ y = s * (p + (u : Int) + (j : Int) + 1) := by
  induction b with
  | zero => simp [swTo] at h
  | succ b ih =>
    rw [swTo, List.mem_append] at h
    rcases h with h | h
    · obtain ⟨j, u, hj, hu, e⟩ := ih h
      exact ⟨j, u, hj, by omega, e⟩
    · obtain ⟨j, hj, e⟩ := swRow_mem h
      exact ⟨j, b, hj, by omega, e⟩
theorem now_at {now : List Int} {n k : Nat} {S : Int} (h : NowB now n S) (hk : k < n) : ∃ a, now[k]? = some a ∧ 1 ≤ a ∧ a ≤ 4 := by
  have hl := h.len
  exact ⟨now[k]'(by omega), List.getElem?_eq_getElem (by omega), h.one _ (List.getElem_mem _)⟩
theorem dbl_valid {n : Nat} {S : Int} : ∀ (word now : List Int), (∀ x ∈ word, 1 ≤ x.natAbs ∧ x.natAbs < n) → NowB now n S → lettersB S (dblFrom word now) = true
  | [], _, _, _ => rfl
  | x :: xs, now, hw, hn => by
    obtain ⟨h1, h2⟩ := hw x (by simp)
    obtain ⟨a, ha, a1, a4⟩ := now_at hn (k := x.natAbs - 1) (by omega)
    obtain ⟨b, hb, b1, b4⟩ := now_at hn (k := x.natAbs - 1 + 1) (by omega)
    obtain ⟨hn2, hs0, hs1⟩ := hn.swap ha hb
    rw [dblFrom, getD_of ha, getD_of hb, lettersB, List.all_append, ← lettersB, ← lettersB, dbl_valid xs _ (fun y hy => hw y (by simp [hy])) hn2, Bool.and_true, lettersB, List.all_eq_true]
    intro y hy
    obtain ⟨j, u, hj, hu, rfl⟩ := swTo_mem hy
    have e1 : ((a.toNat : Nat) : Int) = a := by omega
    have e2 : ((b.toNat : Nat) : Int) = b := by omega
    unfold letterB
    rw [Bool.and_eq_true, decide_eq_true_eq, inR_iff]
    rcases sgnI_cases x with e | e <;> rw [e] <;> omega
theorem dbl_length {n : Nat} {S : Int} : ∀ (word now : List Int), (∀ x ∈ word, 1 ≤ x.natAbs ∧ x.natAbs < n) → NowB now n S → (dblFrom word now).length ≤ 16 * word.length
  | [], _, _, _ => by simp [dblFrom]
  | x :: xs, now, hw, hn => by
    obtain ⟨h1, h2⟩ := hw x (by simp)
    obtain ⟨a, ha, a1, a4⟩ := now_at hn (k := x.natAbs - 1) (by omega)
    obtain ⟨b, hb, b1, b4⟩ := now_at hn (k := x.natAbs - 1 + 1) (by omega)
    obtain ⟨hn2, hs0, hs1⟩ := hn.swap ha hb
    have ih := dbl_length xs _ (fun y hy => hw y (by simp [hy])) hn2
    rw [dblFrom, getD_of ha, getD_of hb, List.length_append, swTo_length, List.length_cons]
    have := Nat.mul_le_mul (show a.toNat ≤ 4 by omega) (show b.toNat ≤ 4 by omega)
    omega
/-- Doubled braids, and the braid of a row over stacks. -/
structure BrY where
  n : Int
  xs : List Int
def dbCode (word sizes : List Int) : Int := if braidB sizes.length word then (if (dblFrom word sizes).length ≤ 40 then 0 else 5) else 1
def dbX (word sizes : List Int) : BrY := if dbCode word sizes = 0 then ⟨sumI sizes, dblFrom word sizes⟩ else ⟨0, []⟩
theorem db_err {word sizes : List Int} {k : Int} (e : dbCode word sizes = k) (hk : k ≠ 0) : dbX word sizes = ⟨0, []⟩ ∧ dbCode word sizes = k := ⟨by rw [dbX, if_neg (by rw [e]; exact hk)], e⟩
theorem dbX_size (word sizes : List Int) : (dbX word sizes).xs.length ≤ 40 := by
  unfold dbX
  split
  · rename_i h
    unfold dbCode at h
    split at h
    · split at h
      · assumption
      · simp at h
    · simp at h
  · simp
def rbOk (ks sizes : List Int) : Bool := laidB ks && decide (((takenS ks : Nat) : Int) = (sizes.length : Int))
def rbCode (d r : Int) (ks sizes : List Int) : Int := if rowB d r ks && sizesB sizes then (if rbOk ks sizes then dbCode (lettersFrom ks 0) sizes else 10) else 1
def rbX (d r : Int) (ks sizes : List Int) : BrY := if rbCode d r ks sizes = 0 then dbX (lettersFrom ks 0) sizes else ⟨0, []⟩
theorem rb_err {d r : Int} {ks sizes : List Int} {k : Int} (e : rbCode d r ks sizes = k) (hk : k ≠ 0) : rbX d r ks sizes = ⟨0, []⟩ ∧ rbCode d r ks sizes = k := ⟨by rw [rbX, if_neg (by rw [e]; exact hk)], e⟩
theorem rb_good {d r : Int} {ks sizes : List Int} (h1 : rowB d r ks = true) (h2 : sizesB sizes = true) (h3 : rbOk ks sizes = true) : rbX d r ks sizes = dbX (lettersFrom ks 0) sizes ∧ rbCode d r ks sizes = dbCode (lettersFrom ks 0) sizes := by
  have e : rbCode d r ks sizes = dbCode (lettersFrom ks 0) sizes := by rw [rbCode, h1, h2, h3]; rfl
  refine ⟨?_, e⟩
  by_cases h0 : dbCode (lettersFrom ks 0) sizes = 0
  · rw [rbX, e, if_pos h0]
  · rw [rbX, e, if_neg h0, dbX, if_neg h0]
theorem rbX_size (d r : Int) (ks sizes : List Int) : (rbX d r ks sizes).xs.length ≤ 40 := by
  unfold rbX
  split
  · exact dbX_size _ _
  · simp
theorem nowB_of {xs : List Int} (h : sizesB xs = true) : NowB xs xs.length (sumI xs) ∧ (1 ≤ xs.length ∧ xs.length ≤ 8) ∧ 0 ≤ sumI xs ∧ sumI xs ≤ 12 ∧ sum64 xs = sumI xs := by
  unfold sizesB stacksB at h
  simp only [Bool.and_eq_true, List.all_eq_true, decide_eq_true_eq, inR_iff] at h
  obtain ⟨⟨h1, h2, h3⟩, h4⟩ := h
  have key : ∀ (ys : List Int), (∀ y ∈ ys, 1 ≤ y ∧ y ≤ 4) → ys.length ≤ 8 → 0 ≤ sumI ys ∧ sumI ys ≤ 4 * ys.length := by
    intro ys
    induction ys with
    | nil => simp [sumI]
    | cons y ys ih =>
      intro ha hb
      have := ih (fun z hz => ha z (by simp [hz])) (by simp at hb; omega)
      have := ha y (by simp)
      rw [sumI, List.length_cons]; push_cast; omega
  have e : ∀ k, k ≤ xs.length → sum64 (xs.take k) = sumI (xs.take k) := by
    intro k
    induction k with
    | zero => intro _; simp [sum64, sumI]
    | succ k ih =>
      intro hk
      have hx : xs[k]? = some (xs[k]'(by omega)) := List.getElem?_eq_getElem (by omega)
      rw [take_snoc hx, sum64_snoc, ih (by omega), sumI_append]
      have hk1 := key (xs.take k) (fun y hy => h2 y (List.mem_of_mem_take hy)) (by rw [List.length_take]; omega)
      have hk2 := h2 (xs[k]'(by omega)) (List.getElem_mem _)
      have hk3 : (xs.take k).length ≤ 8 := by rw [List.length_take]; omega
      rw [IntWalk.wrap64_in _ (by omega)]
      simp [sumI]
  have e2 := e xs.length (Nat.le_refl _)
  rw [List.take_length] at e2
  have hk := key xs h2 h3
  exact ⟨⟨rfl, h2, rfl⟩, ⟨by omega, h3⟩, hk.1, by omega, e2⟩

end Go.Proofs.YtnjgmhdmjaijgaaGreat

/- Cables of permutations, plain: the rows of letters that do not touch, their letters, the chart of a braid is a valid cable. -/
namespace Go.Proofs.YtnjgmhdmjaijgaaGreat
open Go.RowKit

/-- Letters of which no two touch. -/
def Apart2 (xs : List Int) : Prop := xs.Pairwise fun a b => a.natAbs + 2 ≤ b.natAbs ∨ b.natAbs + 2 ≤ a.natAbs
def Letters (n : Nat) (xs : List Int) : Prop := ∀ x ∈ xs, 1 ≤ x.natAbs ∧ x.natAbs < n
def rowL (n : Nat) (xs : List Int) (c : Nat) : List Int := lettersFrom (rowFrom n xs c) c
theorem touchB_iff (a b : Int) : touchB a b = false ↔ a.natAbs + 2 ≤ b.natAbs ∨ b.natAbs + 2 ≤ a.natAbs := by
  have ea : absI a = (a.natAbs : Int) := by unfold absI; split <;> omega
  have eb : absI b = (b.natAbs : Int) := by unfold absI; split <;> omega
  unfold touchB
  rw [ea, eb, ← Bool.not_eq_true, inR_iff]
  omega
theorem apart_snoc {xs : List Int} {x : Int} (h : Apart2 xs) (ht : touchAny xs x = false) : Apart2 (xs ++ [x]) := by
  unfold Apart2
  rw [List.pairwise_append]
  refine ⟨h, by simp, fun a ha b hb => ?_⟩
  rw [List.mem_singleton.1 hb]
  unfold touchAny at ht
  rw [List.any_eq_false] at ht
  exact (touchB_iff a x).1 (by simpa using ht a ha)
theorem packFrom_apart (s : List (List Int) × List Int) (xs : List Int) (h1 : ∀ g ∈ s.1, Apart2 g) (h2 : Apart2 s.2) : (∀ g ∈ (packFrom s xs).1, Apart2 g) ∧ Apart2 (packFrom s xs).2 := by
  induction xs generalizing s with
  | nil => exact ⟨h1, h2⟩
  | cons x xs ih =>
    have e : packFrom s (x :: xs) = packFrom (packStep s x) xs := rfl
    rw [e]
    unfold packStep
    cases ht : touchAny s.2 x
    · rw [if_neg (by decide)]
      exact ih _ h1 (apart_snoc h2 ht)
    · rw [if_pos rfl]
      refine ih _ (fun g hg => ?_) (by simp [Apart2])
      rcases List.mem_append.1 hg with hg | hg
      · exact h1 g hg
      · rw [List.mem_singleton.1 hg]; exact h2
theorem packFrom_flat (s : List (List Int) × List Int) (xs : List Int) : (packFrom s xs).1.flatten ++ (packFrom s xs).2 = s.1.flatten ++ s.2 ++ xs := by
  induction xs generalizing s with
  | nil => simp [packFrom]
  | cons x xs ih =>
    have e : packFrom s (x :: xs) = packFrom (packStep s x) xs := rfl
    rw [e, ih]
    unfold packStep
    split <;> simp
theorem groups_facts (xs : List Int) : (∀ g ∈ groupsOf xs, Apart2 g) ∧ (groupsOf xs).flatten = xs ∧ 1 ≤ (groupsOf xs).length := by
  unfold groupsOf
  cases xs with
  | nil => simp [pack, Apart2]
  | cons x xs =>
    have h1 := packFrom_apart ([], [x]) xs (by simp) (by simp [Apart2])
    have h2 := packFrom_flat ([], [x]) xs
    rw [if_neg (by simp [pack]), pack]
    refine ⟨fun g hg => ?_, by simpa using h2, by simp⟩
    rcases List.mem_append.1 hg with hg | hg
    · exact h1.1 g hg
    · rw [List.mem_singleton.1 hg]; exact h1.2
theorem apart_mem {xs : List Int} (h : Apart2 xs) {a b : Int} (ha : a ∈ xs) (hb : b ∈ xs) : a = b ∨ a.natAbs + 2 ≤ b.natAbs ∨ b.natAbs + 2 ≤ a.natAbs := by
  induction xs with
  | nil => cases ha
  | cons x xs ih =>
    unfold Apart2 at h
    rw [List.pairwise_cons] at h
    rcases List.mem_cons.1 ha with ea | ha'
    · rcases List.mem_cons.1 hb with eb | hb'
      · exact .inl (ea.trans eb.symm)
      · rw [ea]; exact .inr (h.1 b hb')
    · rcases List.mem_cons.1 hb with eb | hb'
      · rw [eb]; exact .inr ((h.1 a ha').symm)
      · exact ih h.2 ha' hb'
/-- What a row of letters is, from a column on. -/
theorem rowL_cases {n c : Nat} {xs : List Int} (hL : Letters n xs) (h : c < n) : (∃ y, y ∈ xs ∧ y.natAbs = c + 1 ∧ rowL n xs c = y :: rowL n xs (c + 2) ∧ c + 2 ≤ n) ∨ ((∀ y ∈ xs, y.natAbs ≠ c + 1) ∧ rowL n xs c = rowL n xs (c + 1)) := by
  unfold rowL
  by_cases h1 : (c : Int) + 1 ∈ xs
  · refine .inl ⟨(c : Int) + 1, h1, by omega, ?_, by have := hL _ h1; omega⟩
    rw [rowFrom_8 h h1, lettersFrom]
    rfl
  · by_cases h2 : -(c : Int) - 1 ∈ xs
    · refine .inl ⟨-(c : Int) - 1, h2, by omega, ?_, by have := hL _ h2; omega⟩
      rw [rowFrom_9 h h1 h2, lettersFrom]
      rfl
    · refine .inr ⟨fun y hy e => ?_, ?_⟩
      · rcases (by omega : y = (c : Int) + 1 ∨ y = -(c : Int) - 1) with e | e
        · exact h1 (e ▸ hy)
        · exact h2 (e ▸ hy)
      · rw [rowFrom_1 h h1 h2, lettersFrom]
        rfl
theorem rowL_end {n c : Nat} (xs : List Int) (h : n ≤ c) : rowL n xs c = [] := by rw [rowL, rowFrom_end xs h]; rfl
theorem rowL_facts {n : Nat} {xs : List Int} (hL : Letters n xs) (hA : Apart2 xs) (m : Nat) : ∀ c, n - c ≤ m → (∀ y, y ∈ rowL n xs c ↔ y ∈ xs ∧ c + 1 ≤ y.natAbs) ∧ Apart2 (rowL n xs c) := by
  induction m with
  | zero =>
    intro c hc
    rw [rowL_end xs (by omega)]
    refine ⟨fun y => ⟨fun h => by simp at h, fun ⟨h1, h2⟩ => ?_⟩, by simp [Apart2]⟩
    have := hL y h1
    omega
  | succ m ih =>
    intro c hc
    by_cases hcn : c < n
    · rcases rowL_cases hL hcn with ⟨y, hy, hya, e, _⟩ | ⟨hno, e⟩
      · obtain ⟨i1, i2⟩ := ih (c + 2) (by omega)
        rw [e]
        refine ⟨fun z => ?_, ?_⟩
        · rw [List.mem_cons, i1]
          constructor
          · rintro (rfl | ⟨h1, h2⟩)
            · exact ⟨hy, by omega⟩
            · exact ⟨h1, by omega⟩
          · rintro ⟨h1, h2⟩
            rcases apart_mem hA h1 hy with h | h | h
            · exact .inl h
            · omega
            · exact .inr ⟨h1, by omega⟩
        · unfold Apart2
          rw [List.pairwise_cons]
          exact ⟨fun z hz => .inl (by have := ((i1 z).1 hz).2; omega), i2⟩
      · obtain ⟨i1, i2⟩ := ih (c + 1) (by omega)
        rw [e]
        refine ⟨fun z => ?_, i2⟩
        rw [i1]
        constructor
        · rintro ⟨h1, h2⟩
          exact ⟨h1, by omega⟩
        · rintro ⟨h1, h2⟩
          have := hno z h1
          exact ⟨h1, by omega⟩
    · rw [rowL_end xs (by omega)]
      refine ⟨fun y => ⟨fun h => by simp at h, fun ⟨h1, h2⟩ => ?_⟩, by simp [Apart2]⟩
      have := hL y h1
      omega
theorem cnt_step {xs : List Int} (hA : Apart2 xs) (c : Nat) : xs.countP (fun y => decide (c + 1 ≤ y.natAbs)) = (if ∃ y ∈ xs, y.natAbs = c + 1 then 1 else 0) + xs.countP (fun y => decide (c + 2 ≤ y.natAbs)) := by
  induction xs with
  | nil => simp
  | cons x xs ih =>
    unfold Apart2 at hA
    rw [List.pairwise_cons] at hA
    have i := ih hA.2
    rw [List.countP_cons, List.countP_cons, i]
    by_cases hx : x.natAbs = c + 1
    · have hno : ¬ ∃ y ∈ xs, y.natAbs = c + 1 := fun ⟨y, hy, e⟩ => by have := hA.1 y hy; omega
      rw [if_neg hno, if_pos (show decide (c + 1 ≤ x.natAbs) = true by simp; omega), if_neg (show ¬ decide (c + 2 ≤ x.natAbs) = true by simp; omega), if_pos ⟨x, by simp, hx⟩]
      clear i hno ih hA
      omega
    · have hiff : (∃ y ∈ x :: xs, y.natAbs = c + 1) ↔ ∃ y ∈ xs, y.natAbs = c + 1 :=
        ⟨fun ⟨y, hy, e⟩ => by
          rcases List.mem_cons.1 hy with rfl | hy
          · exact absurd e hx
          · exact ⟨y, hy, e⟩, fun ⟨y, hy, e⟩ => ⟨y, by simp [hy], e⟩⟩
      have hde : decide (c + 1 ≤ x.natAbs) = decide (c + 2 ≤ x.natAbs) := decide_eq_decide.2 (by clear i hiff ih hA; omega)
      rw [hde]
      by_cases he : ∃ y ∈ xs, y.natAbs = c + 1
      · rw [if_pos he, if_pos (hiff.2 he)]
        clear i he hiff ih hA
        omega
      · rw [if_neg he, if_neg (fun h => he (hiff.1 h))]
        clear i he hiff ih hA
        omega
theorem rowL_length {n : Nat} {xs : List Int} (hL : Letters n xs) (hA : Apart2 xs) (m : Nat) : ∀ c, n - c ≤ m → (rowL n xs c).length = xs.countP fun y => decide (c + 1 ≤ y.natAbs) := by
  have h0 : ∀ c, n ≤ c → xs.countP (fun y => decide (c + 1 ≤ y.natAbs)) = 0 := fun c hc => by
    rw [List.countP_eq_zero]
    intro y hy
    have := hL y hy
    simp
    omega
  induction m with
  | zero =>
    intro c hc
    rw [rowL_end xs (by omega), h0 c (by omega)]
    rfl
  | succ m ih =>
    intro c hc
    by_cases hcn : c < n
    · rw [cnt_step hA c]
      rcases rowL_cases hL hcn with ⟨y, hy, hya, e, _⟩ | ⟨hno, e⟩
      · rw [e, List.length_cons, ih (c + 2) (by omega), if_pos ⟨y, hy, hya⟩]
        have h2 := cnt_step hA (c + 1)
        rw [if_neg (fun ⟨z, hz, e⟩ => by have := apart_mem hA hz hy; rcases this with rfl | h | h <;> omega)] at h2
        have h3 : xs.countP (fun y => decide (c + 2 ≤ y.natAbs)) = 0 + xs.countP (fun y => decide (c + 2 + 1 ≤ y.natAbs)) := h2
        rw [h3, Nat.zero_add, Nat.add_comm]
      · rw [e, ih (c + 1) (by omega), if_neg (fun ⟨z, hz, e⟩ => hno z hz e), Nat.zero_add]
    · rw [rowL_end xs (by omega), h0 c (by omega)]
      rfl
theorem rowL_whole {n : Nat} {xs : List Int} (hL : Letters n xs) (hA : Apart2 xs) : (∀ y, y ∈ rowL n xs 0 ↔ y ∈ xs) ∧ Apart2 (rowL n xs 0) ∧ (rowL n xs 0).length = xs.length := by
  obtain ⟨h1, h2⟩ := rowL_facts hL hA n 0 (by omega)
  have h3 := rowL_length hL hA n 0 (by omega)
  refine ⟨fun y => ?_, h2, ?_⟩
  · rw [h1]
    exact ⟨fun h => h.1, fun h => ⟨h, by have := hL y h; omega⟩⟩
  · rw [h3, List.countP_eq_length]
    intro y hy
    have := hL y hy
    simp
    omega
/-- Such a row keeps all columns. -/
def OnlyPlain (ks : List Int) : Prop := ∀ k ∈ ks, k = 1 ∨ k = 8 ∨ k = 9
theorem rowFrom_plain {n : Nat} {xs : List Int} (hL : Letters n xs) (m : Nat) : ∀ c, n - c ≤ m → c ≤ n → OnlyPlain (rowFrom n xs c) ∧ takenS (rowFrom n xs c) = n - c := by
  induction m with
  | zero =>
    intro c hc hn
    rw [rowFrom_end xs (by omega)]
    exact ⟨fun k hk => by simp at hk, by simp [takenS]; omega⟩
  | succ m ih =>
    intro c hc hn
    by_cases hcn : c < n
    · by_cases h1 : (c : Int) + 1 ∈ xs
      · have h2 := hL _ h1
        obtain ⟨i1, i2⟩ := ih (c + 2) (by omega) (by omega)
        rw [rowFrom_8 hcn h1]
        refine ⟨fun k hk => ?_, ?_⟩
        · rcases List.mem_cons.1 hk with rfl | hk
          · simp
          · exact i1 k hk
        · rw [takenS, i2, show takenN 8 = 2 from rfl]; omega
      · by_cases h2 : -(c : Int) - 1 ∈ xs
        · have h3 := hL _ h2
          obtain ⟨i1, i2⟩ := ih (c + 2) (by omega) (by omega)
          rw [rowFrom_9 hcn h1 h2]
          refine ⟨fun k hk => ?_, ?_⟩
          · rcases List.mem_cons.1 hk with rfl | hk
            · simp
            · exact i1 k hk
          · rw [takenS, i2, show takenN 9 = 2 from rfl]; omega
        · obtain ⟨i1, i2⟩ := ih (c + 1) (by omega) (by omega)
          rw [rowFrom_1 hcn h1 h2]
          refine ⟨fun k hk => ?_, ?_⟩
          · rcases List.mem_cons.1 hk with rfl | hk
            · simp
            · exact i1 k hk
          · rw [takenS, i2, show takenN 1 = 1 from rfl]; omega
    · rw [rowFrom_end xs (by omega)]
      exact ⟨fun k hk => by simp at hk, by simp [takenS]; omega⟩
theorem plain_after {ks : List Int} (h : OnlyPlain ks) (m : Nat) (ht : takenS ks = m) : afterP ks (List.replicate m 1) = List.replicate m 1 ∧ okAfter ks (List.replicate m 1) = true ∧ changesP ks (List.replicate m 1) = List.replicate ks.length 0 := by
  induction ks generalizing m with
  | nil =>
    rw [takenS] at ht
    subst ht
    exact ⟨rfl, rfl, rfl⟩
  | cons k ks ih =>
    rw [takenS] at ht
    obtain ⟨q, hq⟩ : ∃ q, m = takenN k + q := ⟨m - takenN k, by omega⟩
    subst hq
    obtain ⟨i1, i2, i3⟩ := ih (fun x hx => h x (by simp [hx])) q (by omega)
    have hk : takenN k = madeN k ∧ stepMade k (List.replicate (takenN k + q) 1) = List.replicate (takenN k) 1 ∧ stepOk k (List.replicate (takenN k + q) 1) = true := by
      rcases h k (by simp) with rfl | rfl | rfl <;> exact ⟨rfl, rfl, rfl⟩
    have ed : (List.replicate (takenN k + q) (1 : Int)).drop (takenN k) = List.replicate q 1 := by rw [List.drop_replicate]; congr 1; omega
    have et : (List.replicate (takenN k + q) (1 : Int)).take (takenN k) = List.replicate (takenN k) 1 := by rw [List.take_replicate]; congr 1; omega
    refine ⟨?_, ?_, ?_⟩
    · rw [afterP, hk.2.1, ed, i1, List.replicate_append_replicate]
    · rw [okAfter, hk.2.2, ed, i2]; rfl
    · rw [changesP, changeI, hk.2.1, ed, et, i3, Int.sub_self]
      rfl
theorem limB_zeros {s : Int} (h : s ≤ 12) (m : Nat) : limB s (List.replicate m 0) = true := by
  induction m with
  | zero => rfl
  | succ m ih => rw [List.replicate_succ, limB, Int.add_zero, ih, decide_eq_true h]; rfl
theorem sumI_ones (m : Nat) : sumI (List.replicate m 1) = m := by
  induction m with
  | zero => rfl
  | succ m ih => rw [List.replicate_succ, sumI, ih]; omega
theorem plain_stitches {ks : List Int} (h : OnlyPlain ks) (hl : ks.length ≤ 16) : stitchesB ks = true := by
  unfold stitchesB
  rw [Bool.and_eq_true, List.all_eq_true, decide_eq_true_eq]
  refine ⟨fun k hk => ?_, hl⟩
  rcases h k hk with rfl | rfl | rfl <;> decide
theorem plain_row {ks : List Int} (h : OnlyPlain ks) {m : Nat} (ht : takenS ks = m) (hm : m ≤ 8) (hl : ks.length ≤ 16) {d car : Int} (hd : d = 1 ∨ d = -1) (hc : carrierB car = true) : rowOkB (List.replicate m 1) ⟨d, car, ks⟩ = true ∧ (stacksAfterP (List.replicate m 1) ks).1 = List.replicate m 1 := by
  have hs := plain_stitches h hl
  obtain ⟨a1, a2, a3⟩ := plain_after h m ht
  have hst : stacksB (List.replicate m 1) = true := by
    unfold stacksB
    rw [Bool.and_eq_true, List.all_eq_true, decide_eq_true_eq, List.length_replicate]
    refine ⟨fun x hx => ?_, hm⟩
    rw [(List.mem_replicate.1 hx).2]
    decide
  have hsa : stacksAfterP (List.replicate m 1) ks = (List.replicate m 1, 0) := by
    unfold stacksAfterP
    rw [hst, hs, if_pos (by rfl), if_pos (by rw [List.length_replicate]; exact ht), a1, a2, if_pos (by rw [List.length_replicate]; simpa using hm)]
  refine ⟨?_, by rw [hsa]⟩
  unfold rowOkB rowB dirB stepCode keepB
  rw [hsa, hc, a3, sumI_ones, ordL]
  simp only [Bool.and_eq_true, Bool.or_eq_true, beq_iff_eq, decide_eq_true_eq]
  refine ⟨⟨⟨⟨hd, trivial⟩, hs⟩, trivial⟩, ?_⟩
  split
  · rw [List.reverse_replicate]; exact limB_zeros (by omega) _
  · exact limB_zeros (by omega) _
theorem plain_rows {n : Nat} {gs : List (List Int)} (hg : ∀ g ∈ gs, Letters n g) (hn : n ≤ 8) {car : Int} (hc : carrierB car = true) (d : Int) (hd : d = 1 ∨ d = -1) : rowsOkB (List.replicate n 1) (rowsFrom n car gs d) = true := by
  induction gs generalizing d with
  | nil => rfl
  | cons g gs ih =>
    have hL := hg g (by simp)
    obtain ⟨p1, p2⟩ := rowFrom_plain hL n 0 (by omega) (by omega)
    have hl := rowFrom_length n g n 0 (by omega)
    obtain ⟨q1, q2⟩ := plain_row p1 (m := n) (by omega) hn (by omega) hd hc
    rw [rowsFrom, rowsOkB, q1, q2, ih (fun g' hg' => hg g' (by simp [hg'])) (-d) (by omega)]
    rfl
theorem plainB_rows {n : Nat} {gs : List (List Int)} (hg : ∀ g ∈ gs, Letters n g) (car d : Int) : plainB (rowsFrom n car gs d) = true := by
  induction gs generalizing d with
  | nil => rfl
  | cons g gs ih =>
    obtain ⟨p1, _⟩ := rowFrom_plain (hg g (by simp)) n 0 (by omega) (by omega)
    rw [rowsFrom, plainB, List.all_cons, ← plainB, ih (fun g' hg' => hg g' (by simp [hg'])) (-d), Bool.and_true]
    unfold plainRow
    rw [List.all_eq_true]
    intro k hk
    rcases p1 k hk with rfl | rfl | rfl <;> decide
theorem rowsWord_from (n : Nat) (car : Int) (gs : List (List Int)) (d : Int) : rowsWord (rowsFrom n car gs d) = gs.flatMap fun g => rowL n g 0 := by
  induction gs generalizing d with
  | nil => rfl
  | cons g gs ih =>
    have e := ih (-d)
    unfold rowsWord at e ⊢
    rw [rowsFrom, List.flatMap_cons, e, List.flatMap_cons]
    rfl
theorem flatRow_length {n : Nat} {gs : List (List Int)} (hg : ∀ g ∈ gs, Letters n g) (hA : ∀ g ∈ gs, Apart2 g) : (gs.flatMap fun g => rowL n g 0).length = gs.flatten.length := by
  induction gs with
  | nil => rfl
  | cons g gs ih =>
    rw [List.flatMap_cons, List.length_append, List.flatten_cons, List.length_append, ih (fun g' h => hg g' (by simp [h])) (fun g' h => hA g' (by simp [h])), (rowL_whole (hg g (by simp)) (hA g (by simp))).2.2]
theorem groups_letters {n : Nat} {xs : List Int} (h : Letters n xs) : ∀ g ∈ groupsOf xs, Letters n g := by
  have h2 := (groups_facts xs).2.1
  intro g hg x hx
  refine h x ?_
  rw [← h2]
  exact List.mem_flatten.2 ⟨g, hg, hx⟩
/-- The chart of a braid's letters is a valid cable, whose letters are the letters of the groups, from left to right. -/
theorem cable_of {n : Nat} {xs : List Int} {car : Int} (hL : Letters n xs) (hl : xs.length ≤ 40) (hp : (pack xs).length ≤ 8) (hn : 1 ≤ n ∧ n ≤ 8) (hc : carrierB car = true) :
    chartB n (rowsFrom n car (groupsOf xs) (-1)) = true ∧ plainB (rowsFrom n car (groupsOf xs) (-1)) = true ∧ cbCode n (rowsFrom n car (groupsOf xs) (-1)) = 0 ∧ cbX n (rowsFrom n car (groupsOf xs) (-1)) = ⟨n, (groupsOf xs).flatMap fun g => rowL n g 0⟩ ∧ ((groupsOf xs).flatMap fun g => rowL n g 0).length = xs.length := by
  obtain ⟨g1, g2, g3⟩ := groups_facts xs
  have hgl := groups_letters hL
  have hlen : (groupsOf xs).length ≤ 8 := by
    unfold groupsOf
    split
    · simp
    · exact hp
  have hc1 : chartB n (rowsFrom n car (groupsOf xs) (-1)) = true := by
    unfold chartB
    rw [rowsFrom_length, Int.toNat_natCast, plain_rows hgl hn.2 hc (-1) (.inr rfl)]
    simp only [Bool.and_true, Bool.and_eq_true]
    exact ⟨inR_iff.2 (by omega), inR_iff.2 (by omega)⟩
  have hc2 := plainB_rows hgl car (-1)
  have hw := rowsWord_from n car (groupsOf xs) (-1)
  have hwl := flatRow_length hgl g1
  rw [g2] at hwl
  have hc3 : cbCode n (rowsFrom n car (groupsOf xs) (-1)) = 0 := by
    unfold cbCode
    rw [if_pos hc1, if_pos hc2, hw, if_pos (by omega)]
  exact ⟨hc1, hc2, hc3, by rw [cbX, if_pos hc3, hw], hwl⟩

end Go.Proofs.YtnjgmhdmjaijgaaGreat

/- Permutations: the plain functions. -/
namespace Go.Proofs.YtnjgmhdmjaijgaaGreat
open Go.RowKit

/-- The first descent of a list. -/
def firstDes : List Int → Option Nat
  | a :: b :: xs => if b < a then some 0 else (firstDes (b :: xs)).map (· + 1)
  | _ => none
def invs : List Int → Nat
  | [] => 0
  | x :: xs => xs.countP (fun y => decide (y < x)) + invs xs
def permFuel : Nat → List Int → List Int
  | 0, _ => []
  | f + 1, xs => match firstDes xs with
    | none => []
    | some k => (k : Int) :: permFuel f (swapL k xs)
/-- The exchanges that sort a list, the leftmost one first. -/
def permWord (xs : List Int) : List Int := permFuel (invs xs) xs
theorem firstDes_some {xs : List Int} : ∀ {k : Nat}, firstDes xs = some k → ∃ a b, xs[k]? = some a ∧ xs[k + 1]? = some b ∧ b < a := by
  induction xs with
  | nil => intro k h; simp [firstDes] at h
  | cons a xs ih =>
    intro k h
    cases xs with
    | nil => simp [firstDes] at h
    | cons b xs =>
      rw [firstDes] at h
      split at h
      · rename_i hab
        injection h with h
        subst h
        exact ⟨a, b, rfl, rfl, hab⟩
      · rw [Option.map_eq_some_iff] at h
        obtain ⟨j, hj, rfl⟩ := h
        obtain ⟨a', b', h1, h2, h3⟩ := ih hj
        exact ⟨a', b', by simpa using h1, by simpa using h2, h3⟩
theorem firstDes_before {xs : List Int} : ∀ {j : Nat} {a b : Int}, (∀ k, firstDes xs = some k → j < k) → xs[j]? = some a → xs[j + 1]? = some b → ¬ b < a := by
  induction xs with
  | nil => intro j a b _ h; simp at h
  | cons x xs ih =>
    intro j a b hk ha hb
    cases xs with
    | nil => simp at hb
    | cons y xs =>
      rw [firstDes] at hk
      by_cases hxy : y < x
      · rw [if_pos hxy] at hk
        have := hk 0 rfl
        omega
      · rw [if_neg hxy] at hk
        cases j with
        | zero =>
          simp at ha hb
          subst ha hb
          exact hxy
        | succ j =>
          refine ih (fun k h => ?_) (by simpa using ha) (by simpa using hb)
          have := hk (k + 1) (by rw [h]; rfl)
          omega
theorem firstDes_of {xs : List Int} {k : Nat} {a b : Int} (h1 : ∀ j, j < k → ∀ a b, xs[j]? = some a → xs[j + 1]? = some b → ¬ b < a) (ha : xs[k]? = some a) (hb : xs[k + 1]? = some b) (hab : b < a) : firstDes xs = some k := by
  cases hf : firstDes xs with
  | none => exact absurd hab (firstDes_before (fun k h => by rw [hf] at h; cases h) ha hb)
  | some m =>
    obtain ⟨a', b', h2, h3, h4⟩ := firstDes_some hf
    rcases Nat.lt_trichotomy m k with h | h | h
    · exact absurd h4 (h1 m h a' b' h2 h3)
    · rw [h]
    · exact absurd hab (firstDes_before (fun j hj => by rw [hf] at hj; injection hj with hj; omega) ha hb)
theorem firstDes_none {xs : List Int} (h : ∀ j a b, xs[j]? = some a → xs[j + 1]? = some b → ¬ b < a) : firstDes xs = none := by
  cases hf : firstDes xs with
  | none => rfl
  | some m =>
    obtain ⟨a, b, h2, h3, h4⟩ := firstDes_some hf
    exact absurd h4 (h m a b h2 h3)
theorem invs_swap {a b : Int} (hab : b < a) (post : List Int) : ∀ (pre : List Int), invs (pre ++ a :: b :: post) = invs (pre ++ b :: a :: post) + 1
  | [] => by
    simp only [List.nil_append, invs, List.countP_cons]
    rw [if_pos (by simpa using hab), if_neg (by simp; omega)]
    omega
  | x :: pre => by
    rw [List.cons_append, List.cons_append, invs, invs, invs_swap hab post pre, List.countP_append, List.countP_append, List.countP_cons, List.countP_cons, List.countP_cons, List.countP_cons]
    omega
theorem invs_step {xs : List Int} {k : Nat} (h : firstDes xs = some k) : invs xs = invs (swapL k xs) + 1 := by
  obtain ⟨a, b, ha, hb, hab⟩ := firstDes_some h
  rw [swapL_at ha hb]
  obtain ⟨pre, post, rfl, rfl, _⟩ := decomp ha hb
  rw [swapL_eq, invs_swap hab]
theorem permWord_none {xs : List Int} (h : firstDes xs = none) : permWord xs = [] := by
  unfold permWord
  cases invs xs with
  | zero => rfl
  | succ n => rw [permFuel, h]
theorem permWord_some {xs : List Int} {k : Nat} (h : firstDes xs = some k) : permWord xs = (k : Int) :: permWord (swapL k xs) := by
  unfold permWord
  rw [invs_step h, permFuel, h]
theorem permWord_length (xs : List Int) : (permWord xs).length ≤ invs xs := by
  have key : ∀ (f : Nat) (xs : List Int), (permFuel f xs).length ≤ f := by
    intro f
    induction f with
    | zero => intro xs; simp [permFuel]
    | succ f ih =>
      intro xs
      rw [permFuel]
      split
      · simp
      · rw [List.length_cons]; have := ih (swapL ‹Nat› xs); omega
  exact key _ _
theorem invs_le (xs : List Int) : invs xs ≤ xs.length * xs.length := by
  induction xs with
  | nil => simp [invs]
  | cons x xs ih =>
    have h := List.countP_le_length (p := fun y => decide (y < x)) (l := xs)
    rw [invs, List.length_cons]
    have e : (xs.length + 1) * (xs.length + 1) = xs.length * xs.length + 2 * xs.length + 1 := by simp [Nat.add_mul, Nat.mul_add]; omega
    omega

end Go.Proofs.YtnjgmhdmjaijgaaGreat

/- Permutations: the given side's sorting word. -/
namespace Go.Proofs.YtnjgmhdmjaijgaaGreat
open Go Go.RowKit

def lenV : Value → Nat
  | .slice _ n _ => n
  | _ => 0
end Go.Proofs.YtnjgmhdmjaijgaaGreat
