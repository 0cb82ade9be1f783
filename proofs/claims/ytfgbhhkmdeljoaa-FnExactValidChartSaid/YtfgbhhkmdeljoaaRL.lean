/- Letters: which are valid, which touch. -/
import Derived.Test.YtfgbhhkmdeljoaaPK
import Derived.Test.YtfgbhhkmdeljoaaSM
import Derived.Test.YtfgbhhkmdeljoaaQ
import Derived.BigGuard
import Derived.BigCall
namespace Go.Proofs.Ytfgbhhkmdeljoaa
open Go.RowKit

def smallB (xs : List Int) : Prop := ∀ y ∈ xs, -1000 ≤ y ∧ y ≤ 1000
theorem smallB_of {n : Int} {xs : List Int} (h : braidB n xs = true) : smallB xs := fun y hy => by
  obtain ⟨_, h1, _, h2⟩ := braidB_of h
  have := h2 y hy
  omega
theorem smallB_at {xs : List Int} (h : smallB xs) {k : Nat} {x : Int} (hx : xs[k]? = some x) : -1000 ≤ x ∧ x ≤ 1000 := h x (List.mem_of_getElem? hx)
theorem absI_le {x : Int} (h : -1000 ≤ x ∧ x ≤ 1000) : 0 ≤ absI x ∧ absI x ≤ 1000 := by unfold absI; split <;> omega

theorem spec_l03Abs (x : Int) (w : World) (hx : -1000 ≤ x ∧ x ≤ 1000) : Calls Try.prog 146 #[.int .i64 x] w fun e w' => e = .returned (.int .i64 (absI x)) ∧ w = w' := by
  obtain ⟨h0, h1⟩ := hx
  unfold absI
  by_cases h2 : x < 0
  · go_enter Try.func146, Try.ntmps146
    go_wp2
    go_ret
    exact ⟨rfl, rfl⟩
  · go_enter Try.func146, Try.ntmps146
    go_wp2
    go_ret
    exact ⟨rfl, rfl⟩

theorem impl_size (x : Int) (w : World) (hx : -1000 ≤ x ∧ x ≤ 1000) : Calls Try.prog 128 #[.int .i64 x] w fun e w' => e = .returned (.int .i64 (absI x)) ∧ w = w' := by
  obtain ⟨h0, h1⟩ := hx
  unfold absI
  by_cases h2 : x < 0
  · go_enter Try.func128, Try.ntmps128
    go_wp2
    go_ret
    exact ⟨rfl, rfl⟩
  · go_enter Try.func128, Try.ntmps128
    go_wp2
    go_ret
    exact ⟨rfl, rfl⟩

theorem impl_touch (a b : Int) (w : World) (ha : -1000 ≤ a ∧ a ≤ 1000) (hb : -1000 ≤ b ∧ b ≤ 1000) : Calls Try.prog 155 #[.int .i64 a, .int .i64 b] w fun e w' => e = .returned (.bool (touchB a b)) ∧ w = w' := by
  have h1 := absI_le ha
  have h2 := absI_le hb
  go_enter Try.func155, Try.ntmps155
  go_wp2_with (fail)
  refine (impl_size _ _ ha).mono ?_; rintro e _ ⟨rfl, rfl⟩
  go_wp2_with (fail)
  refine (impl_size _ _ hb).mono ?_; rintro e _ ⟨rfl, rfl⟩
  go_wp2_with (fail)
  refine (impl_within _ _ _ _).mono ?_; rintro e _ ⟨rfl, rfl⟩
  go_wp2_with (fail)
  go_ret
  exact ⟨rfl, rfl⟩

theorem impl_packed_1 (y x : Int) (g : Nat) (w : World) (hy : -1000 ≤ y ∧ y ≤ 1000) (hx : -1000 ≤ x ∧ x ≤ 1000) (c0 : w.cell? ⟨g, 0, none⟩ = some (.int .i64 x)) :
    Calls Try.prog 154 #[.int .i64 y, .pointer (some ⟨g, 0, none⟩)] w fun e w' => e = .returned (.bool (touchB y x)) ∧ w = w' := by
  go_enter Try.func154, Try.ntmps154
  go_wp2_with (fail)
  refine (impl_touch _ _ _ hx hy).mono ?_; rintro e _ ⟨rfl, rfl⟩
  go_wp2_with (fail)
  go_ret
  exact ⟨ret_bool (touchB_comm _ _), rfl⟩
theorem indexFunc_impl_packed_1 (x : Int) (g : Nat) (A : Option Addr) (c : Nat) (xs : List Int) (w : World) (h : Ints w A xs) (hl : xs.length ≤ 9223372036854775807) (hs : smallB xs) (hx : -1000 ≤ x ∧ x ≤ 1000) (c0 : w.cell? ⟨g, 0, none⟩ = some (.int .i64 x)) :
    Calls Try.prog 144 #[.slice A xs.length c, .func (.func 154) #[] #[.pointer (some ⟨g, 0, none⟩)]] w fun e w' => AnyInt (fun k => decide (0 ≤ k) = touchAny xs x ∧ k ≤ 9223372036854775807) e ∧ w = w' := by
  go_enter Try.func144, Try.ntmps144
  go_wp2
  go_loop [8] (fun i => ∃ k : Nat, k ≤ xs.length ∧ i = .int .i64 k ∧ touchAny (xs.take k) x = false) (fun i => xs.length - (intOf i).toNat)
  case atStart => exact ⟨0, Nat.zero_le _, rfl, rfl⟩
  case round =>
    obtain ⟨k, hk, rfl, ha⟩ := hrel
    have HA := Lib.hid ha; clear ha
    by_cases hlt : k < xs.length
    · obtain ⟨b, off, y, rfl, hc, hy⟩ := h k hlt
      have hys := smallB_at hs hy
      have HY := Lib.hid hy; clear hy
      go_wp2_with (refine (impl_packed_1 _ _ _ _ hys hx c0).mono ?_; rintro e w' ⟨rfl, rfl⟩)
      · have hq : touchB y x = true := by assumption
        go_ret
        refine ⟨⟨_, rfl, ?_, by omega⟩, rfl⟩
        unfold touchAny
        rw [any_true_at HY.out hq]
        simp
      · have hq : touchB y x = false := by assumption
        go_round
        case rel => exact ⟨k + 1, by omega, by go_num, by have := HA.out; unfold touchAny at this ⊢; rw [take_snoc HY.out, List.any_append, this]; simpa using hq⟩
        case measure => simp [intOf]; omega
    · go_wp2
      go_ret
      refine ⟨⟨_, rfl, ?_, by omega⟩, rfl⟩
      have := HA.out
      rw [take_all (by omega)] at this
      rw [this]
      rfl
theorem containsFunc_impl_packed_1 (x : Int) (g : Nat) (A : Option Addr) (c : Nat) (xs : List Int) (w : World) (h : Ints w A xs) (hl : xs.length ≤ 9223372036854775807) (hs : smallB xs) (hx : -1000 ≤ x ∧ x ≤ 1000) (c0 : w.cell? ⟨g, 0, none⟩ = some (.int .i64 x)) :
    Calls Try.prog 109 #[.slice A xs.length c, .func (.func 154) #[] #[.pointer (some ⟨g, 0, none⟩)]] w fun e w' => e = .returned (.bool (touchAny xs x)) ∧ w = w' := by
  go_enter Try.func109, Try.ntmps109
  go_wp2_with (refine (indexFunc_impl_packed_1 _ _ _ _ _ _ h hl hs hx c0).mono ?_; rintro e w' ⟨⟨k, rfl, hk, hk'⟩, rfl⟩)
  go_ret
  exact ⟨rfl, rfl⟩

theorem impl_areLetters_1 (n x : Int) (g : Nat) (w : World) (hn : 0 ≤ n ∧ n ≤ 1000) (c0 : w.cell? ⟨g, 0, none⟩ = some (.int .i64 n)) :
    Calls Try.prog 162 #[.int .i64 x, .pointer (some ⟨g, 0, none⟩)] w fun e w' => e = .returned (.bool (!letterB n x)) ∧ w = w' := by
  by_cases hx : x = 0
  · have hx' : (x == 0) = true := by simp [hx]
    have HF : Hid (letterB n x = false) := Lib.hid (by simp [letterB, hx])
    clear hx
    go_enter Try.func162, Try.ntmps162
    go_wp2_with (fail)
    go_ret
    exact ⟨ret_bool (by rw [HF.out]; rfl), rfl⟩
  · have hx' : (x == 0) = false := by simpa using hx
    have HF : Hid (letterB n x = inR x (1 - n) (n - 1)) := Lib.hid (by simp [letterB, hx])
    clear hx
    go_enter Try.func162, Try.ntmps162
    go_wp2_with (go_at_call 69; refine (impl_within _ _ _ _).mono ?_; rintro e _ ⟨rfl, rfl⟩)
    go_ret
    exact ⟨ret_bool (by rw [HF.out]), rfl⟩
theorem indexFunc_areLetters_1 (n : Int) (g : Nat) (A : Option Addr) (c : Nat) (xs : List Int) (w : World) (h : Ints w A xs) (hl : xs.length ≤ 9223372036854775807) (hn : 0 ≤ n ∧ n ≤ 1000) (c0 : w.cell? ⟨g, 0, none⟩ = some (.int .i64 n)) :
    Calls Try.prog 144 #[.slice A xs.length c, .func (.func 162) #[] #[.pointer (some ⟨g, 0, none⟩)]] w fun e w' => AnyInt (fun k => decide (0 ≤ k) = xs.any (fun x => !letterB n x) ∧ k ≤ 9223372036854775807) e ∧ w = w' := by
  go_enter Try.func144, Try.ntmps144
  go_wp2
  go_loop [8] (fun i => ∃ k : Nat, k ≤ xs.length ∧ i = .int .i64 k ∧ (xs.take k).any (fun x => !letterB n x) = false) (fun i => xs.length - (intOf i).toNat)
  case atStart => exact ⟨0, Nat.zero_le _, rfl, rfl⟩
  case round =>
    obtain ⟨k, hk, rfl, ha⟩ := hrel
    have HA := Lib.hid ha; clear ha
    by_cases hlt : k < xs.length
    · obtain ⟨b, off, y, rfl, hc, hy⟩ := h k hlt
      have HY := Lib.hid hy; clear hy
      go_wp2_with (refine (impl_areLetters_1 n _ _ _ hn c0).mono ?_; rintro e w' ⟨rfl, rfl⟩)
      · have hq : (!letterB n y) = true := by assumption
        go_ret
        refine ⟨⟨_, rfl, ?_, by omega⟩, rfl⟩
        rw [any_true_at HY.out hq]
        simp
      · have hq : (!letterB n y) = false := by assumption
        go_round
        case rel => exact ⟨k + 1, by omega, by go_num, by rw [take_snoc HY.out, List.any_append, HA.out]; simpa using hq⟩
        case measure => simp [intOf]; omega
    · go_wp2
      go_ret
      refine ⟨⟨_, rfl, ?_, by omega⟩, rfl⟩
      have := HA.out
      rw [take_all (by omega)] at this
      rw [this]
      rfl
theorem impl_areLetters (n : Int) (A : Option Addr) (c : Nat) (xs : List Int) (w : World) (h : Ints w A xs) (hl : xs.length ≤ 9223372036854775807) (hn : 0 ≤ n ∧ n ≤ 1000) :
    Calls Try.prog 152 #[.int .i64 n, .slice A xs.length c] w fun e w' => e = .returned (.bool (lettersB n xs)) ∧ Below w.heap.size w w' := by
  have hmf : ∀ (fn : Fn) (first cap : Array Value) (w : World), (Instr.makeFunc fn first cap).run Try.prog w = .ok (.func fn first cap) w := fun _ _ _ _ => rfl
  go_enter Try.func152, Try.ntmps152
  go_wp2_with (fail)
  go_in
  go_wp2_with (fail)
  refine (indexFunc_areLetters_1 n _ _ _ xs _ (h.below (by (repeat (first | exact Below.refl _ _ | assumption | apply Below.drew | apply below_drewN | (refine Below.alloc ?_ (by first | omega | (simp; done) | (simp; omega)) _) | (refine Below.setCell ?_ (by first | omega | (simp; done) | (simp; omega)) _))))) hl hn (by simp)).mono ?_; rintro e _ ⟨⟨k, rfl, hk, hk'⟩, rfl⟩
  go_wp2_with (fail)
  go_ret
  exact ⟨ret_bool (by rw [lettersB, List.all_eq_not_any_not]), by (repeat (first | exact Below.refl _ _ | assumption | apply Below.drew | apply below_drewN | (refine Below.alloc ?_ (by first | omega | (simp; done) | (simp; omega)) _) | (refine Below.setCell ?_ (by first | omega | (simp; done) | (simp; omega)) _)))⟩

theorem impl_ValidBraid (n : Int) (xs : List Int) (A : Option Addr) (c : Nat) (w : World) (h : Ints w A xs) (hl : xs.length ≤ 9223372036854775807) :
    Calls Try.prog 126 #[.agg #[.int .i64 n, .slice A xs.length c]] w fun e w' => e = .returned (.bool (braidB n xs)) ∧ Below w.heap.size w w' := by
  cases hn : inR n 0 12
  · have HF : Hid (braidB n xs = false) := Lib.hid (by simp [braidB, hn])
    go_enter Try.func126, Try.ntmps126
    go_wp2_with (fail)
    go_in
    go_wp2_with (go_at_call 69; refine (impl_within _ _ _ _).mono ?_; rintro e _ ⟨rfl, rfl⟩)
    go_ret
    exact ⟨ret_bool HF.out.symm, by (repeat (first | exact Below.refl _ _ | assumption | apply Below.drew | apply below_drewN | (refine Below.alloc ?_ (by first | omega | (simp; done) | (simp; omega)) _) | (refine Below.setCell ?_ (by first | omega | (simp; done) | (simp; omega)) _)))⟩
  · by_cases h4 : xs.length ≤ 40
    · have h4' : decide ((xs.length : Int) ≤ 40) = true := decide_eq_true (by omega)
      have HF : Hid (braidB n xs = lettersB n xs) := Lib.hid (by simp [braidB, hn, h4])
      have hnn := inR_iff.1 hn
      go_enter Try.func126, Try.ntmps126
      go_wp2_with (fail)
      go_in
      go_wp2_with (go_at_call 69; refine (impl_within _ _ _ _).mono ?_; rintro e _ ⟨rfl, rfl⟩)
      refine (impl_areLetters n _ _ xs _ (h.below (by (repeat (first | exact Below.refl _ _ | assumption | apply Below.drew | apply below_drewN | (refine Below.alloc ?_ (by first | omega | (simp; done) | (simp; omega)) _) | (refine Below.setCell ?_ (by first | omega | (simp; done) | (simp; omega)) _))))) hl (by omega)).mono ?_; rintro e w2 ⟨rfl, b2⟩
      have b3 : Below w.heap.size w w2 := Below.trans (by (repeat (first | exact Below.refl _ _ | assumption | apply Below.drew | apply below_drewN | (refine Below.alloc ?_ (by first | omega | (simp; done) | (simp; omega)) _) | (refine Below.setCell ?_ (by first | omega | (simp; done) | (simp; omega)) _)))) (b2.mono (by first | omega | (simp; done) | (simp; omega)))
      go_wp2_with (fail)
      go_ret
      exact ⟨ret_bool HF.out.symm, b3⟩
    · have h4' : decide ((xs.length : Int) ≤ 40) = false := decide_eq_false (by omega)
      have HF : Hid (braidB n xs = false) := Lib.hid (by simp [braidB, h4])
      go_enter Try.func126, Try.ntmps126
      go_wp2_with (fail)
      go_in
      go_wp2_with (go_at_call 69; refine (impl_within _ _ _ _).mono ?_; rintro e _ ⟨rfl, rfl⟩)
      go_ret
      exact ⟨ret_bool HF.out.symm, by (repeat (first | exact Below.refl _ _ | assumption | apply Below.drew | apply below_drewN | (refine Below.alloc ?_ (by first | omega | (simp; done) | (simp; omega)) _) | (refine Below.setCell ?_ (by first | omega | (simp; done) | (simp; omega)) _)))⟩

theorem spec_l03Letters (A : Option Addr) (c : Nat) (xs : List Int) (n : Int) (w : World) (h : Ints w A xs) (hl : xs.length ≤ 9223372036854775807) (hn : 0 ≤ n ∧ n ≤ 1000) :
    Calls Try.prog 145 #[.slice A xs.length c, .int .i64 n] w fun e w' => e = .returned (.bool (lettersB n xs)) ∧ w = w' := by
  obtain ⟨hn0, hn1⟩ := hn
  go_enter Try.func145, Try.ntmps145
  go_wp2
  go_loop [5] (fun i => ∃ k : Nat, k ≤ xs.length ∧ i = .int .i64 k ∧ (xs.take k).all (letterB n) = true) (fun i => xs.length - (intOf i).toNat)
  case atStart => exact ⟨0, Nat.zero_le _, rfl, rfl⟩
  case round =>
    obtain ⟨k, hk, rfl, ha⟩ := hrel
    have HA := Lib.hid ha; clear ha
    by_cases hlt : k < xs.length
    · obtain ⟨b, off, x, rfl, hc, hx⟩ := h k hlt
      have HX := Lib.hid hx; clear hx
      by_cases hz : x = 0
      · have hz' : (x == 0) = true := by simp [hz]
        have HQ : Hid (letterB n x = false) := Lib.hid (by simp [letterB, hz])
        clear hz
        go_wp2_with (go_at_call 66; refine (spec_l00In _ _ _ _).mono ?_; rintro e w' ⟨rfl, rfl⟩)
        go_ret
        exact ⟨ret_bool (by rw [lettersB, all_false_at HX.out HQ.out]), rfl⟩
      · have hz' : (x == 0) = false := by simpa using hz
        have HQ : Hid (letterB n x = inR x (1 - n) (n - 1)) := Lib.hid (by simp [letterB, hz])
        clear hz
        cases hq : inR x (1 - n) (n - 1)
        · go_wp2_with (go_at_call 66; refine (spec_l00In _ _ _ _).mono ?_; rintro e w' ⟨rfl, rfl⟩)
          go_ret
          exact ⟨ret_bool (by rw [lettersB, all_false_at HX.out (HQ.out.trans hq)]), rfl⟩
        · go_wp2_with (go_at_call 66; refine (spec_l00In _ _ _ _).mono ?_; rintro e w' ⟨rfl, rfl⟩)
          go_round
          case rel => exact ⟨k + 1, by omega, by go_num, by rw [take_snoc HX.out, List.all_append, HA.out]; simp [HQ.out, hq]⟩
          case measure => simp [intOf]; omega
    · go_wp2_with (fail)
      go_ret
      have ha := HA.out
      rw [take_all (by omega)] at ha
      exact ⟨ret_bool (by rw [lettersB, ha]), rfl⟩

theorem spec_l18Touch (A : Option Addr) (c : Nat) (xs : List Int) (x : Int) (w : World) (h : Ints w A xs) (hl : xs.length ≤ 9223372036854775807) (hs : smallB xs) (hx : -1000 ≤ x ∧ x ≤ 1000) :
    Calls Try.prog 153 #[.slice A xs.length c, .int .i64 x] w fun e w' => e = .returned (.bool (touchAny xs x)) ∧ w = w' := by
  have ax := absI_le hx
  go_enter Try.func153, Try.ntmps153
  go_wp2
  go_loop [5] (fun i => ∃ k : Nat, k ≤ xs.length ∧ i = .int .i64 k ∧ touchAny (xs.take k) x = false) (fun i => xs.length - (intOf i).toNat)
  case atStart => exact ⟨0, Nat.zero_le _, rfl, rfl⟩
  case round =>
    obtain ⟨k, hk, rfl, ha⟩ := hrel
    have HA := Lib.hid ha; clear ha
    by_cases hlt : k < xs.length
    · obtain ⟨b, off, y, rfl, hc, hy⟩ := h k hlt
      have hys := smallB_at hs hy
      have ay := absI_le hys
      have HY := Lib.hid hy; clear hy
      go_wp2_with (fail)
      refine (spec_l03Abs _ _ hys).mono ?_; rintro e _ ⟨rfl, rfl⟩
      go_wp2_with (fail)
      refine (spec_l03Abs _ _ hx).mono ?_; rintro e _ ⟨rfl, rfl⟩
      go_wp2_with (fail)
      refine (spec_l00In _ _ _ _).mono ?_; rintro e _ ⟨rfl, rfl⟩
      go_wp2_with (fail)
      · have hq : touchB y x = true := by assumption
        go_ret
        refine ⟨ret_bool ?_, rfl⟩
        unfold touchAny
        rw [any_true_at HY.out hq]
      · have hq : touchB y x = false := by assumption
        go_round
        case rel => exact ⟨k + 1, by omega, by go_num, by have := HA.out; unfold touchAny at this ⊢; rw [take_snoc HY.out, List.any_append, this]; simpa using hq⟩
        case measure => simp [intOf]; omega
    · go_wp2_with (fail)
      go_ret
      have := HA.out
      rw [take_all (by omega)] at this
      exact ⟨ret_bool this.symm, rfl⟩


end Go.Proofs.Ytfgbhhkmdeljoaa
