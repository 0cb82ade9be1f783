/- Steps of the proof, joined from several texts: RL RK PKs RP. -/
import Derived.Test.YtnjgmhdmjaijgaaGreatZ3
import Derived.BigGuard
import Derived.BigCall
import Derived.BigQuiet
import Derived.Deep.RegionLaw
import Derived.Laws.CopyOwn

/- Letters: which are valid, which touch. -/
namespace Go.Proofs.YtnjgmhdmjaijgaaGreat
open Go.RowKit

def smallB (xs : List Int) : Prop := ∀ y ∈ xs, -1000 ≤ y ∧ y ≤ 1000
theorem smallB_of {n : Int} {xs : List Int} (h : braidB n xs = true) : smallB xs := fun y hy => by
  obtain ⟨_, h1, _, h2⟩ := braidB_of h
  have := h2 y hy
  omega
theorem smallB_at {xs : List Int} (h : smallB xs) {k : Nat} {x : Int} (hx : xs[k]? = some x) : -1000 ≤ x ∧ x ≤ 1000 := h x (List.mem_of_getElem? hx)
theorem absI_le {x : Int} (h : -1000 ≤ x ∧ x ≤ 1000) : 0 ≤ absI x ∧ absI x ≤ 1000 := by unfold absI; split <;> omega

theorem spec_l03Abs (x : Int) (w : World) (hx : -1000 ≤ x ∧ x ≤ 1000) : Calls Tryz.prog 129 #[.int .i64 x] w fun e w' => e = .returned (.int .i64 (absI x)) ∧ w = w' := by
  obtain ⟨h0, h1⟩ := hx
  unfold absI
  by_cases h2 : x < 0
  · go_enter Tryz.func129, Tryz.ntmps129
    go_wp2
    go_ret
    exact ⟨rfl, rfl⟩
  · go_enter Tryz.func129, Tryz.ntmps129
    go_wp2
    go_ret
    exact ⟨rfl, rfl⟩

theorem impl_size (x : Int) (w : World) (hx : -1000 ≤ x ∧ x ≤ 1000) : Calls Tryz.prog 94 #[.int .i64 x] w fun e w' => e = .returned (.int .i64 (absI x)) ∧ w = w' := by
  obtain ⟨h0, h1⟩ := hx
  unfold absI
  by_cases h2 : x < 0
  · go_enter Tryz.func94, Tryz.ntmps94
    go_wp2
    go_ret
    exact ⟨rfl, rfl⟩
  · go_enter Tryz.func94, Tryz.ntmps94
    go_wp2
    go_ret
    exact ⟨rfl, rfl⟩

theorem impl_touch (a b : Int) (w : World) (ha : -1000 ≤ a ∧ a ≤ 1000) (hb : -1000 ≤ b ∧ b ≤ 1000) : Calls Tryz.prog 56 #[.int .i64 a, .int .i64 b] w fun e w' => e = .returned (.bool (touchB a b)) ∧ w = w' := by
  have h1 := absI_le ha
  have h2 := absI_le hb
  go_enter Tryz.func56, Tryz.ntmps56
  go_wp2_with (fail)
  refine (impl_size _ _ ha).mono ?_; rintro e _ ⟨rfl, rfl⟩
  go_wp2_with (fail)
  refine (impl_size _ _ hb).mono ?_; rintro e _ ⟨rfl, rfl⟩
  go_wp2_with (fail)
  refine (impl_within _ _ _ _).mono ?_; rintro e _ ⟨rfl, rfl⟩
  go_wp2_with (fail)
  go_ret
  exact ⟨rfl, rfl⟩

theorem impl_packed_1 (y x : Int) (g : Nat) (w : World) (hy : -1000 ≤ y ∧ y ≤ 1000) (hx : -1000 ≤ x ∧ x ≤ 1000) (c0 : w.cell? ⟨g, 0, none⟩ = some (.int .i64 x)) :
    Calls Tryz.prog 91 #[.int .i64 y, .pointer (some ⟨g, 0, none⟩)] w fun e w' => e = .returned (.bool (touchB y x)) ∧ w = w' := by
  go_enter Tryz.func91, Tryz.ntmps91
  go_wp2_with (fail)
  refine (impl_touch _ _ _ hx hy).mono ?_; rintro e _ ⟨rfl, rfl⟩
  go_wp2_with (fail)
  go_ret
  exact ⟨ret_bool (touchB_comm _ _), rfl⟩
theorem indexFunc_impl_packed_1 (x : Int) (g : Nat) (A : Option Addr) (c : Nat) (xs : List Int) (w : World) (h : Ints w A xs) (hl : xs.length ≤ 9223372036854775807) (hs : smallB xs) (hx : -1000 ≤ x ∧ x ≤ 1000) (c0 : w.cell? ⟨g, 0, none⟩ = some (.int .i64 x)) :
    Calls Tryz.prog 93 #[.slice A xs.length c, .func (.func 91) #[] #[.pointer (some ⟨g, 0, none⟩)]] w fun e w' => AnyInt (fun k => decide (0 ≤ k) = touchAny xs x ∧ k ≤ 9223372036854775807) e ∧ w = w' := by
  go_enter Tryz.func93, Tryz.ntmps93
  go_wp2
  go_loop [8] (fun i => ∃ k : Nat, k ≤ xs.length ∧ i = .int .i64 k ∧ touchAny (xs.take k) x = false) (fun i => xs.length - (intOf i).toNat)
  case atStart => exact ⟨0, Nat.zero_le _, rfl, rfl⟩
  case round =>
    obtain ⟨k, hk, rfl, ha⟩ := hrel
    have HA := Lib.hid ha; clear ha
    by_cases hlt : k < xs.length
    · obtain ⟨b, off, y, rfl, hc, hy⟩ := h k hlt
      have hys := smallB_at hs hy
      have HY := Lib.hid hy; clear hy
      go_wp2_with (refine (impl_packed_1 _ _ _ _ hys hx c0).mono ?_; rintro e w' ⟨rfl, rfl⟩)
      · have hq : touchB y x = true := by assumption
        go_ret
        refine ⟨⟨_, rfl, ?_, by omega⟩, rfl⟩
        unfold touchAny
        rw [any_true_at HY.out hq]
        simp
      · have hq : touchB y x = false := by assumption
        go_round
        case rel => exact ⟨k + 1, by omega, by go_num, by have := HA.out; unfold touchAny at this ⊢; rw [take_snoc HY.out, List.any_append, this]; simpa using hq⟩
        case measure => simp [intOf]; omega
    · go_wp2
      go_ret
      refine ⟨⟨_, rfl, ?_, by omega⟩, rfl⟩
      have := HA.out
      rw [take_all (by omega)] at this
      rw [this]
      rfl
theorem containsFunc_impl_packed_1 (x : Int) (g : Nat) (A : Option Addr) (c : Nat) (xs : List Int) (w : World) (h : Ints w A xs) (hl : xs.length ≤ 9223372036854775807) (hs : smallB xs) (hx : -1000 ≤ x ∧ x ≤ 1000) (c0 : w.cell? ⟨g, 0, none⟩ = some (.int .i64 x)) :
    Calls Tryz.prog 54 #[.slice A xs.length c, .func (.func 91) #[] #[.pointer (some ⟨g, 0, none⟩)]] w fun e w' => e = .returned (.bool (touchAny xs x)) ∧ w = w' := by
  go_enter Tryz.func54, Tryz.ntmps54
  go_wp2_with (refine (indexFunc_impl_packed_1 _ _ _ _ _ _ h hl hs hx c0).mono ?_; rintro e w' ⟨⟨k, rfl, hk, hk'⟩, rfl⟩)
  go_ret
  exact ⟨rfl, rfl⟩

theorem impl_RowOfLetters_1 (y x : Int) (g : Nat) (w : World) (hy : -1000 ≤ y ∧ y ≤ 1000) (hx : -1000 ≤ x ∧ x ≤ 1000) (c0 : w.cell? ⟨g, 0, none⟩ = some (.int .i64 x)) :
    Calls Tryz.prog 55 #[.int .i64 y, .pointer (some ⟨g, 0, none⟩)] w fun e w' => e = .returned (.bool (touchB y x)) ∧ w = w' := by
  go_enter Tryz.func55, Tryz.ntmps55
  go_wp2_with (fail)
  refine (impl_touch _ _ _ hx hy).mono ?_; rintro e _ ⟨rfl, rfl⟩
  go_wp2_with (fail)
  go_ret
  exact ⟨ret_bool (touchB_comm _ _), rfl⟩
theorem indexFunc_impl_RowOfLetters_1 (x : Int) (g : Nat) (A : Option Addr) (c : Nat) (xs : List Int) (w : World) (h : Ints w A xs) (hl : xs.length ≤ 9223372036854775807) (hs : smallB xs) (hx : -1000 ≤ x ∧ x ≤ 1000) (c0 : w.cell? ⟨g, 0, none⟩ = some (.int .i64 x)) :
    Calls Tryz.prog 93 #[.slice A xs.length c, .func (.func 55) #[] #[.pointer (some ⟨g, 0, none⟩)]] w fun e w' => AnyInt (fun k => decide (0 ≤ k) = touchAny xs x ∧ k ≤ 9223372036854775807) e ∧ w = w' := by
  go_enter Tryz.func93, Tryz.ntmps93
  go_wp2
  go_loop [8] (fun i => ∃ k : Nat, k ≤ xs.length ∧ i = .int .i64 k ∧ touchAny (xs.take k) x = false) (fun i => xs.length - (intOf i).toNat)
  case atStart => exact ⟨0, Nat.zero_le _, rfl, rfl⟩
  case round =>
    obtain ⟨k, hk, rfl, ha⟩ := hrel
    have HA := Lib.hid ha; clear ha
    by_cases hlt : k < xs.length
    · obtain ⟨b, off, y, rfl, hc, hy⟩ := h k hlt
      have hys := smallB_at hs hy
      have HY := Lib.hid hy; clear hy
      go_wp2_with (refine (impl_RowOfLetters_1 _ _ _ _ hys hx c0).mono ?_; rintro e w' ⟨rfl, rfl⟩)
      · have hq : touchB y x = true := by assumption
        go_ret
        refine ⟨⟨_, rfl, ?_, by omega⟩, rfl⟩
        unfold touchAny
        rw [any_true_at HY.out hq]
        simp
      · have hq : touchB y x = false := by assumption
        go_round
        case rel => exact ⟨k + 1, by omega, by go_num, by have := HA.out; unfold touchAny at this ⊢; rw [take_snoc HY.out, List.any_append, this]; simpa using hq⟩
        case measure => simp [intOf]; omega
    · go_wp2
      go_ret
      refine ⟨⟨_, rfl, ?_, by omega⟩, rfl⟩
      have := HA.out
      rw [take_all (by omega)] at this
      rw [this]
      rfl
theorem containsFunc_impl_RowOfLetters_1 (x : Int) (g : Nat) (A : Option Addr) (c : Nat) (xs : List Int) (w : World) (h : Ints w A xs) (hl : xs.length ≤ 9223372036854775807) (hs : smallB xs) (hx : -1000 ≤ x ∧ x ≤ 1000) (c0 : w.cell? ⟨g, 0, none⟩ = some (.int .i64 x)) :
    Calls Tryz.prog 54 #[.slice A xs.length c, .func (.func 55) #[] #[.pointer (some ⟨g, 0, none⟩)]] w fun e w' => e = .returned (.bool (touchAny xs x)) ∧ w = w' := by
  go_enter Tryz.func54, Tryz.ntmps54
  go_wp2_with (refine (indexFunc_impl_RowOfLetters_1 _ _ _ _ _ _ h hl hs hx c0).mono ?_; rintro e w' ⟨⟨k, rfl, hk, hk'⟩, rfl⟩)
  go_ret
  exact ⟨rfl, rfl⟩

theorem impl_areLetters_1 (n x : Int) (g : Nat) (w : World) (hn : 0 ≤ n ∧ n ≤ 1000) (c0 : w.cell? ⟨g, 0, none⟩ = some (.int .i64 n)) :
    Calls Tryz.prog 92 #[.int .i64 x, .pointer (some ⟨g, 0, none⟩)] w fun e w' => e = .returned (.bool (!letterB n x)) ∧ w = w' := by
  by_cases hx : x = 0
  · have hx' : (x == 0) = true := by simp [hx]
    have HF : Hid (letterB n x = false) := Lib.hid (by simp [letterB, hx])
    clear hx
    go_enter Tryz.func92, Tryz.ntmps92
    go_wp2_with (fail)
    go_ret
    exact ⟨ret_bool (by rw [HF.out]; rfl), rfl⟩
  · have hx' : (x == 0) = false := by simpa using hx
    have HF : Hid (letterB n x = inR x (1 - n) (n - 1)) := Lib.hid (by simp [letterB, hx])
    clear hx
    go_enter Tryz.func92, Tryz.ntmps92
    go_wp2_with (go_at_call 50; refine (impl_within _ _ _ _).mono ?_; rintro e _ ⟨rfl, rfl⟩)
    go_ret
    exact ⟨ret_bool (by rw [HF.out]), rfl⟩
theorem indexFunc_areLetters_1 (n : Int) (g : Nat) (A : Option Addr) (c : Nat) (xs : List Int) (w : World) (h : Ints w A xs) (hl : xs.length ≤ 9223372036854775807) (hn : 0 ≤ n ∧ n ≤ 1000) (c0 : w.cell? ⟨g, 0, none⟩ = some (.int .i64 n)) :
    Calls Tryz.prog 93 #[.slice A xs.length c, .func (.func 92) #[] #[.pointer (some ⟨g, 0, none⟩)]] w fun e w' => AnyInt (fun k => decide (0 ≤ k) = xs.any (fun x => !letterB n x) ∧ k ≤ 9223372036854775807) e ∧ w = w' := by
  go_enter Tryz.func93, Tryz.ntmps93
  go_wp2
  go_loop [8] (fun i => ∃ k : Nat, k ≤ xs.length ∧ i = .int .i64 k ∧ (xs.take k).any (fun x => !letterB n x) = false) (fun i => xs.length - (intOf i).toNat)
  case atStart => exact ⟨0, Nat.zero_le _, rfl, rfl⟩
  case round =>
    obtain ⟨k, hk, rfl, ha⟩ := hrel
    have HA := Lib.hid ha; clear ha
    by_cases hlt : k < xs.length
    · obtain ⟨b, off, y, rfl, hc, hy⟩ := h k hlt
      have HY := Lib.hid hy; clear hy
      go_wp2_with (refine (impl_areLetters_1 n _ _ _ hn c0).mono ?_; rintro e w' ⟨rfl, rfl⟩)
      · have hq : (!letterB n y) = true := by assumption
        go_ret
        refine ⟨⟨_, rfl, ?_, by omega⟩, rfl⟩
        rw [any_true_at HY.out hq]
        simp
      · have hq : (!letterB n y) = false := by assumption
        go_round
        case rel => exact ⟨k + 1, by omega, by go_num, by rw [take_snoc HY.out, List.any_append, HA.out]; simpa using hq⟩
        case measure => simp [intOf]; omega
    · go_wp2
      go_ret
      refine ⟨⟨_, rfl, ?_, by omega⟩, rfl⟩
      have := HA.out
      rw [take_all (by omega)] at this
      rw [this]
      rfl
theorem impl_areLetters (n : Int) (A : Option Addr) (c : Nat) (xs : List Int) (w : World) (h : Ints w A xs) (hl : xs.length ≤ 9223372036854775807) (hn : 0 ≤ n ∧ n ≤ 1000) :
    Calls Tryz.prog 53 #[.int .i64 n, .slice A xs.length c] w fun e w' => e = .returned (.bool (lettersB n xs)) ∧ Below w.heap.size w w' := by
  have hmf : ∀ (fn : Fn) (first cap : Array Value) (w : World), (Instr.makeFunc fn first cap).run Tryz.prog w = .ok (.func fn first cap) w := fun _ _ _ _ => rfl
  go_enter Tryz.func53, Tryz.ntmps53
  go_wp2_with (fail)
  go_in
  go_wp2_with (fail)
  refine (indexFunc_areLetters_1 n _ _ _ xs _ (h.below (by (repeat (first | exact Below.refl _ _ | assumption | apply Below.drew | apply below_drewN | (refine Below.alloc ?_ (by first | omega | (simp; done) | (simp; omega)) _) | (refine Below.setCell ?_ (by first | omega | (simp; done) | (simp; omega)) _))))) hl hn (by simp)).mono ?_; rintro e _ ⟨⟨k, rfl, hk, hk'⟩, rfl⟩
  go_wp2_with (fail)
  go_ret
  exact ⟨ret_bool (by rw [lettersB, List.all_eq_not_any_not]), by (repeat (first | exact Below.refl _ _ | assumption | apply Below.drew | apply below_drewN | (refine Below.alloc ?_ (by first | omega | (simp; done) | (simp; omega)) _) | (refine Below.setCell ?_ (by first | omega | (simp; done) | (simp; omega)) _)))⟩

theorem impl_ValidBraid (n : Int) (xs : List Int) (A : Option Addr) (c : Nat) (w : World) (h : Ints w A xs) (hl : xs.length ≤ 9223372036854775807) :
    Calls Tryz.prog 40 #[.agg #[.int .i64 n, .slice A xs.length c]] w fun e w' => e = .returned (.bool (braidB n xs)) ∧ Below w.heap.size w w' := by
  cases hn : inR n 0 12
  · have HF : Hid (braidB n xs = false) := Lib.hid (by simp [braidB, hn])
    go_enter Tryz.func40, Tryz.ntmps40
    go_wp2_with (fail)
    go_in
    go_wp2_with (go_at_call 50; refine (impl_within _ _ _ _).mono ?_; rintro e _ ⟨rfl, rfl⟩)
    go_ret
    exact ⟨ret_bool HF.out.symm, by (repeat (first | exact Below.refl _ _ | assumption | apply Below.drew | apply below_drewN | (refine Below.alloc ?_ (by first | omega | (simp; done) | (simp; omega)) _) | (refine Below.setCell ?_ (by first | omega | (simp; done) | (simp; omega)) _)))⟩
  · by_cases h4 : xs.length ≤ 40
    · have h4' : decide ((xs.length : Int) ≤ 40) = true := decide_eq_true (by omega)
      have HF : Hid (braidB n xs = lettersB n xs) := Lib.hid (by simp [braidB, hn, h4])
      have hnn := inR_iff.1 hn
      go_enter Tryz.func40, Tryz.ntmps40
      go_wp2_with (fail)
      go_in
      go_wp2_with (go_at_call 50; refine (impl_within _ _ _ _).mono ?_; rintro e _ ⟨rfl, rfl⟩)
      refine (impl_areLetters n _ _ xs _ (h.below (by (repeat (first | exact Below.refl _ _ | assumption | apply Below.drew | apply below_drewN | (refine Below.alloc ?_ (by first | omega | (simp; done) | (simp; omega)) _) | (refine Below.setCell ?_ (by first | omega | (simp; done) | (simp; omega)) _))))) hl (by omega)).mono ?_; rintro e w2 ⟨rfl, b2⟩
      have b3 : Below w.heap.size w w2 := Below.trans (by (repeat (first | exact Below.refl _ _ | assumption | apply Below.drew | apply below_drewN | (refine Below.alloc ?_ (by first | omega | (simp; done) | (simp; omega)) _) | (refine Below.setCell ?_ (by first | omega | (simp; done) | (simp; omega)) _)))) (b2.mono (by first | omega | (simp; done) | (simp; omega)))
      go_wp2_with (fail)
      go_ret
      exact ⟨ret_bool HF.out.symm, b3⟩
    · have h4' : decide ((xs.length : Int) ≤ 40) = false := decide_eq_false (by omega)
      have HF : Hid (braidB n xs = false) := Lib.hid (by simp [braidB, h4])
      go_enter Tryz.func40, Tryz.ntmps40
      go_wp2_with (fail)
      go_in
      go_wp2_with (go_at_call 50; refine (impl_within _ _ _ _).mono ?_; rintro e _ ⟨rfl, rfl⟩)
      go_ret
      exact ⟨ret_bool HF.out.symm, by (repeat (first | exact Below.refl _ _ | assumption | apply Below.drew | apply below_drewN | (refine Below.alloc ?_ (by first | omega | (simp; done) | (simp; omega)) _) | (refine Below.setCell ?_ (by first | omega | (simp; done) | (simp; omega)) _)))⟩

theorem spec_l03Letters (A : Option Addr) (c : Nat) (xs : List Int) (n : Int) (w : World) (h : Ints w A xs) (hl : xs.length ≤ 9223372036854775807) (hn : 0 ≤ n ∧ n ≤ 1000) :
    Calls Tryz.prog 87 #[.slice A xs.length c, .int .i64 n] w fun e w' => e = .returned (.bool (lettersB n xs)) ∧ w = w' := by
  obtain ⟨hn0, hn1⟩ := hn
  go_enter Tryz.func87, Tryz.ntmps87
  go_wp2
  go_loop [5] (fun i => ∃ k : Nat, k ≤ xs.length ∧ i = .int .i64 k ∧ (xs.take k).all (letterB n) = true) (fun i => xs.length - (intOf i).toNat)
  case atStart => exact ⟨0, Nat.zero_le _, rfl, rfl⟩
  case round =>
    obtain ⟨k, hk, rfl, ha⟩ := hrel
    have HA := Lib.hid ha; clear ha
    by_cases hlt : k < xs.length
    · obtain ⟨b, off, x, rfl, hc, hx⟩ := h k hlt
      have HX := Lib.hid hx; clear hx
      by_cases hz : x = 0
      · have hz' : (x == 0) = true := by simp [hz]
        have HQ : Hid (letterB n x = false) := Lib.hid (by simp [letterB, hz])
        clear hz
        go_wp2_with (go_at_call 73; refine (spec_l00In _ _ _ _).mono ?_; rintro e w' ⟨rfl, rfl⟩)
        go_ret
        exact ⟨ret_bool (by rw [lettersB, all_false_at HX.out HQ.out]), rfl⟩
      · have hz' : (x == 0) = false := by simpa using hz
        have HQ : Hid (letterB n x = inR x (1 - n) (n - 1)) := Lib.hid (by simp [letterB, hz])
        clear hz
        cases hq : inR x (1 - n) (n - 1)
        · go_wp2_with (go_at_call 73; refine (spec_l00In _ _ _ _).mono ?_; rintro e w' ⟨rfl, rfl⟩)
          go_ret
          exact ⟨ret_bool (by rw [lettersB, all_false_at HX.out (HQ.out.trans hq)]), rfl⟩
        · go_wp2_with (go_at_call 73; refine (spec_l00In _ _ _ _).mono ?_; rintro e w' ⟨rfl, rfl⟩)
          go_round
          case rel => exact ⟨k + 1, by omega, by go_num, by rw [take_snoc HX.out, List.all_append, HA.out]; simp [HQ.out, hq]⟩
          case measure => simp [intOf]; omega
    · go_wp2_with (fail)
      go_ret
      have ha := HA.out
      rw [take_all (by omega)] at ha
      exact ⟨ret_bool (by rw [lettersB, ha]), rfl⟩


end Go.Proofs.YtnjgmhdmjaijgaaGreat

/- l03Ok. -/
namespace Go.Proofs.YtnjgmhdmjaijgaaGreat
open Go.RowKit

theorem spec_l03Ok (g o : Nat) (n : Int) (A : Option Addr) (c : Nat) (xs : List Int) (w : World) (h : Ints w A xs) (hl : xs.length ≤ 9223372036854775807)
    (c0 : w.cell? ⟨g, o, none⟩ = some (.int .i64 n)) (c1 : w.cell? ⟨g, o + 1, none⟩ = some (.slice A xs.length c)) :
    Calls Tryz.prog 47 #[.pointer (some ⟨g, o, none⟩)] w fun e w' => e = .returned (.bool (braidB n xs)) ∧ Drawn w w' := by
  cases hn : inR n 0 12
  · have hc : ∀ W, Calls Tryz.prog 73 #[.int .i64 n, .int .i64 0, .int .i64 12] W fun e w' => e = .returned (.bool false) ∧ W = w' := fun W => by have := spec_l00In n 0 12 W; rwa [hn] at this
    have HF : Hid (braidB n xs = false) := Lib.hid (by simp [braidB, hn])
    have HC := Lib.hid hc; clear hc
    go_enter Tryz.func47, Tryz.ntmps47
    go_wp2_with (fail)
    go_quiet (first | (go_at_call 73; exact quietS (HC.out _)))
    go_wp2_with (fail)
    go_ret
    exact ⟨ret_bool HF.out.symm, (Drawn.refl _).drewN _⟩
  · have hc : ∀ W, Calls Tryz.prog 73 #[.int .i64 n, .int .i64 0, .int .i64 12] W fun e w' => e = .returned (.bool true) ∧ W = w' := fun W => by have := spec_l00In n 0 12 W; rwa [hn] at this
    have HC := Lib.hid hc; clear hc
    by_cases h4 : xs.length ≤ 40
    · have h4' : decide ((xs.length : Int) ≤ 40) = true := decide_eq_true (by omega)
      have HF : Hid (braidB n xs = lettersB n xs) := Lib.hid (by simp [braidB, hn, h4])
      have hnn := inR_iff.1 hn
      go_enter Tryz.func47, Tryz.ntmps47
      go_wp2_with (fail)
      go_quiet (first | (go_at_call 73; exact quietS (HC.out _)) | (go_at_call 87; exact quietS (spec_l03Letters _ _ _ _ _ h hl (by omega))))
      go_wp2_with (fail)
      go_ret
      exact ⟨ret_bool HF.out.symm, (Drawn.refl _).drewN _⟩
    · have h4' : decide ((xs.length : Int) ≤ 40) = false := decide_eq_false (by omega)
      have HF : Hid (braidB n xs = false) := Lib.hid (by simp [braidB, h4])
      go_enter Tryz.func47, Tryz.ntmps47
      go_wp2_with (fail)
      go_quiet (first | (go_at_call 73; exact quietS (HC.out _)))
      go_wp2_with (fail)
      go_ret
      exact ⟨ret_bool HF.out.symm, (Drawn.refl _).drewN _⟩

end Go.Proofs.YtnjgmhdmjaijgaaGreat

/- l18Pack. -/
namespace Go.Proofs.YtnjgmhdmjaijgaaGreat
open Go.RowKit

theorem wpList_append1q {P : Program} (w : World) (q : Nat) (hq : w.heap.size = q) (u : List Value) (te : TypeId) {ops : Array Oper} {rest : List Oper} {o : Oper} {a : Act} {Q : Exit → Act → World → Prop} (hgd : o.guard = none) (s x : Operand) (t : TypeId)
    (hop : o.op = .call { callee := .builtin .append, args := #[s, x], argTypes := #[t, t] })
    (e : TypeId) (i : TypeInfo) (z : Value) (size bytes : Nat) (ht : P.underlying t = some (.slice e)) (hi : P.info? e = some i) (hz : i.zero = some z)
    (hsize : i.size = size) (hby : i.bytes = bytes) (hzs : z.cells.size = size) (hsz : 0 < size)
    {lo hi' n c : Nat} {A : Option Addr} {cs : List Value} (hs : a.eval s = .slice A n c) (hown : OwnC w lo hi' e size A n c cs) (hlo : lo ≤ w.heap.size)
    (c2 : Nat) (hx : a.eval x = .slice (some ⟨q, 0, none⟩) 1 c2) (hl : u.length = size) (h1 : ∀ v ∈ u, v.oneCell' = true)
    (hn : n ≤ 1000000000000) (hb : bytes ≤ 100)
    (h : ∀ A' c' w', OwnC w' lo w'.heap.size e size A' (n + 1) c' (cs ++ u) → (w.alloc (.cells u.toArray te)).grownBy w' (Value.slice A n c).ownBlock → Below lo w w' → w.heap.size < w'.heap.size → wpList P ops Q rest (a.put o.dst (.slice A' (n + 1) c')) w') : wpList P ops Q (o :: rest) a (w.alloc (.cells u.toArray te)) := by
  subst hq
  exact wpList_append1 w u te hgd s x t hop e i z size bytes ht hi hz hsize hby hzs hsz hs hown hlo c2 hx hl h1 hn hb h

/-- append of one element inside a region that draws. -/
theorem step_append1 {P : Program} {ops : Array Oper} {w : World} {o : Oper} {a : Act} {K : Act → World → Prop} {Q : Exit → Act → World → Prop} {E : Prop} (u : List Value) (te : TypeId) (hgd : o.guard = none) (s x : Operand) (t : TypeId)
    (hop : o.op = .call { callee := .builtin .append, args := #[s, x], argTypes := #[t, t] })
    (e : TypeId) (i : TypeInfo) (z : Value) (size bytes : Nat) (ht : P.underlying t = some (.slice e)) (hi : P.info? e = some i) (hz : i.zero = some z)
    (hsize : i.size = size) (hby : i.bytes = bytes) (hzs : z.cells.size = size) (hsz : 0 < size)
    {lo hi' n c : Nat} {A : Option Addr} {cs : List Value} (hs : a.eval s = .slice A n c) (hown : OwnC w lo hi' e size A n c cs) (hlo : lo ≤ w.heap.size)
    (c2 : Nat) (hx : a.eval x = .slice (some ⟨w.heap.size, 0, none⟩) 1 c2) (hl : u.length = size) (h1 : ∀ v ∈ u, v.oneCell' = true)
    (hn : n ≤ 1000000000000) (hb : bytes ≤ 100)
    (h : ∀ A' c' w', OwnC w' lo w'.heap.size e size A' (n + 1) c' (cs ++ u) → (w.alloc (.cells u.toArray te)).grownBy w' (Value.slice A n c).ownBlock → Below lo w w' → w.heap.size < w'.heap.size → K (a.put o.dst (.slice A' (n + 1) c')) w') :
    if Region.wanted o (yielded ops a.tmps) = true then Oper.wp P o a (w.alloc (.cells u.toArray te)) K Q else E := by
  have hw : Region.wanted o (yielded ops a.tmps) = true := by simp [Region.wanted, hgd]
  rw [if_pos hw]
  refine wp_appendC _ s x t hop e i z size bytes ht hi hz hsize hby hzs hsz hs (hown.alloc _) (by simp; omega) (some ⟨w.heap.size, 0, none⟩) 1 c2 u hx (by omega) ?_ h1 (by unfold maxLen; omega) ?_ fun A' c' w' h2 h3 h4 => ?_
  · intro j v hv
    refine ⟨w.heap.size, 0, rfl, ?_⟩
    have := World.cell?_alloc_new w u.toArray te (0 + j)
    rw [this]
    simpa using hv
  · have : (n + 1) * bytes ≤ (n + 1) * 100 := Nat.mul_le_mul_left _ hb
    omega
  · have hz := h3.size
    simp only [World.size_alloc] at hz
    exact h A' c' w' h2 h3 (Below.trans ((Below.refl _ _).alloc hlo _) h4) (by omega)
theorem step_append1d {P : Program} {ops : Array Oper} {w : World} {o : Oper} {a : Act} {K : Act → World → Prop} {Q : Exit → Act → World → Prop} {E : Prop} (u : List Value) (te : TypeId) (hgd : o.guard = none) (s x : Operand) (t : TypeId)
    (hop : o.op = .call { callee := .builtin .append, args := #[s, x], argTypes := #[t, t] })
    (e : TypeId) (i : TypeInfo) (z : Value) (size bytes : Nat) (ht : P.underlying t = some (.slice e)) (hi : P.info? e = some i) (hz : i.zero = some z)
    (hsize : i.size = size) (hby : i.bytes = bytes) (hzs : z.cells.size = size) (hsz : 0 < size)
    {lo hi' n c : Nat} {A : Option Addr} {cs : List Value} (hs : a.eval s = .slice A n c) (hown : OwnC w lo hi' e size A n c cs) (hlo : lo ≤ w.heap.size)
    (c2 : Nat) (hx : a.eval x = .slice (some ⟨w.heap.size, 0, none⟩) 1 c2) (hl : u.length = size) (h1 : ∀ v ∈ u, v.oneCell' = true)
    (hn : n ≤ 1000000000000) (hb : bytes ≤ 100)
    (h : ∀ A' c' w', OwnC w' lo w'.heap.size e size A' (n + 1) c' (cs ++ u) → (World.drew (w.alloc (.cells u.toArray te))).grownBy w' (Value.slice A n c).ownBlock → Below lo w w' → w.heap.size < w'.heap.size → K (a.put o.dst (.slice A' (n + 1) c')) w') :
    if Region.wanted o (yielded ops a.tmps) = true then Oper.wp P o a (World.drew (w.alloc (.cells u.toArray te))) K Q else E := by
  have hw : Region.wanted o (yielded ops a.tmps) = true := by simp [Region.wanted, hgd]
  rw [if_pos hw]
  refine wp_appendC _ s x t hop e i z size bytes ht hi hz hsize hby hzs hsz hs (OwnC.keep (hown.alloc (.cells u.toArray te)) (w' := World.drew (w.alloc (.cells u.toArray te))) fun _ _ _ _ => rfl) (show lo ≤ (w.alloc (.cells u.toArray te)).heap.size by simp; omega) (some ⟨w.heap.size, 0, none⟩) 1 c2 u hx (by omega) ?_ h1 (by unfold maxLen; omega) ?_ fun A' c' w' h2 h3 h4 => ?_
  · intro j v hv
    refine ⟨w.heap.size, 0, rfl, ?_⟩
    have := World.cell?_alloc_new w u.toArray te (0 + j)
    show (w.alloc (.cells u.toArray te)).cell? _ = _
    rw [this]
    simpa using hv
  · have : (n + 1) * bytes ≤ (n + 1) * 100 := Nat.mul_le_mul_left _ hb
    omega
  · have hz : (w.alloc (.cells u.toArray te)).heap.size ≤ w'.heap.size := h3.size
    simp only [World.size_alloc] at hz
    exact h A' c' w' h2 h3 (Below.trans (show Below lo w (World.drew (w.alloc (.cells u.toArray te))) from (((Below.refl _ _).alloc hlo _).trans (b := w.alloc (.cells u.toArray te)) ⟨rfl, rfl, rfl, Nat.le_refl _, fun _ _ => rfl⟩)) h4) (by omega)
theorem OwnL.drewN {w : World} {lo hi : Nat} {A : Option Addr} {c : Nat} {xss : List (List Int)} {l : List Int} {A' : Option Addr} {c' m : Nat} {cs : List Value} (h : OwnL w lo hi A c xss l A' c' m cs) (n : Nat) : OwnL (w.drewN n) lo hi A c xss l A' c' m cs := h.keep fun _ _ _ _ => rfl

theorem OwnL.mono' {w : World} {lo hi hi' : Nat} {A : Option Addr} {c : Nat} {xss : List (List Int)} {l : List Int} {A' : Option Addr} {c' m : Nat} {cs : List Value} (h : OwnL w lo hi A c xss l A' c' m cs) (h2 : hi ≤ hi') : OwnL w lo hi' A c xss l A' c' m cs :=
  ⟨h.out.mono (Nat.le_refl _) h2, h.cells, h.last.mono (Nat.le_refl _) h2, h.lom, Nat.le_trans h.mhi h2⟩
theorem OwnL.ne {w : World} {lo hi g : Nat} {c : Nat} {xss : List (List Int)} {l : List Int} {A' : Option Addr} {c' m : Nat} {cs : List Value} (h : OwnL w lo hi (some ⟨g, 0, none⟩) c xss l A' c' m cs) (k : Nat) (cur : Array Value) (h4 : w.heap[k]? = some (.cells cur 2 (0, 0))) : k ≠ g := by
  intro e
  subst e
  rcases h.out.form with ⟨h5, _⟩ | ⟨q2, cur', h5, _, _, h6, _⟩
  · simp at h5
  · injection h5 with h5
    injection h5 with h5
    subst h5
    rw [h4] at h6
    injection h6 with h6
    injection h6 with _ h6
    simp at h6
theorem OwnL.alloc {w : World} {lo hi : Nat} {A : Option Addr} {c : Nat} {xss : List (List Int)} {l : List Int} {A' : Option Addr} {c' m : Nat} {cs : List Value} (h : OwnL w lo hi A c xss l A' c' m cs) (o : Obj) : OwnL (w.alloc o) lo hi A c xss l A' c' m cs := h.keep fun k _ _ h4 => Below.heap_alloc w o k h4


end Go.Proofs.YtnjgmhdmjaijgaaGreat

/- slices.Repeat of [1]; how many columns a stitch takes and makes. -/
namespace Go.Proofs.YtnjgmhdmjaijgaaGreat
open Go.RowKit

theorem addr_add (g i : Nat) : (⟨g, 0, none⟩ : Addr).add i = ⟨g, i, none⟩ := by
  unfold Addr.add
  split <;> simp_all
theorem src_of_heap {w : World} {g : Nat} {t : TypeId} {L cs : List Value} (h : w.heap[g]? = some (.cells L.toArray t (0, 0))) (hp : cs = L.take cs.length) : ∀ j v, cs[j]? = some v → w.cell? ((⟨g, 0, none⟩ : Addr).add j) = some v := by
  intro j v hv
  rw [addr_add, cell_of_row w g j L.toArray t (0, 0) h]
  have hj := (List.getElem?_eq_some_iff.1 hv).1
  rw [hp, List.getElem?_take, if_pos hj] at hv
  simpa using hv
def ones (m z : Nat) : List Value := (List.replicate m (1 : Int) ++ List.replicate z 0).map (Value.int .i64)

theorem bits_Mul1 (b : Int) (w : World) (hb : b = 1 ∨ b = 2 ∨ b = 4) : Calls Tryz.prog 158 #[.int .u64 1, .int .u64 b] w fun e w' => e = .returned (.tuple #[.int .u64 0, .int .u64 b]) ∧ w = w' := by
  rcases hb with rfl | rfl | rfl
  · go_enter Tryz.func158, Tryz.ntmps158
    go_wp2_with (go_in)
    go_ret2
    exact ⟨rfl, rfl⟩
  · go_enter Tryz.func158, Tryz.ntmps158
    go_wp2_with (go_in)
    go_ret2
    exact ⟨rfl, rfl⟩
  · go_enter Tryz.func158, Tryz.ntmps158
    go_wp2_with (go_in)
    go_ret2
    exact ⟨rfl, rfl⟩

theorem impl_ColumnsTaken (k : Int) (w : World) : Calls Tryz.prog 85 #[.int .i64 k] w fun e w' => e = .returned (.int .i64 (takenB k)) ∧ w = w' := by
  by_cases hk : isStitchB k = true
  · rcases stitch_cases hk with rfl | rfl | rfl | rfl | rfl | rfl | rfl | rfl | rfl | rfl | rfl
    all_goals
      go_enter Tryz.func85, Tryz.ntmps85
      go_wp2_with (fail)
      refine (impl_isStitch _ _).mono ?_; rintro e _ ⟨rfl, rfl⟩
      go_wp2_with (fail)
      go_ret
      exact ⟨rfl, rfl⟩
  · have hk' : isStitchB k = false := by simpa using hk
    have HF : Hid (takenB k = -1) := Lib.hid (by rw [takenB, if_neg hk])
    clear hk
    go_enter Tryz.func85, Tryz.ntmps85
    go_wp2_with (fail)
    refine (impl_isStitch _ _).mono ?_; rintro e _ ⟨rfl, rfl⟩
    go_wp2_with (fail)
    go_ret
    exact ⟨ret_int HF.out.symm, rfl⟩

theorem impl_ColumnsMade (k : Int) (w : World) : Calls Tryz.prog 163 #[.int .i64 k] w fun e w' => e = .returned (.int .i64 (madeB k)) ∧ w = w' := by
  by_cases hk : isStitchB k = true
  · rcases stitch_cases hk with rfl | rfl | rfl | rfl | rfl | rfl | rfl | rfl | rfl | rfl | rfl
    all_goals
      go_enter Tryz.func163, Tryz.ntmps163
      go_wp2_with (fail)
      refine (impl_isStitch _ _).mono ?_; rintro e _ ⟨rfl, rfl⟩
      go_wp2_with (fail)
      go_ret
      exact ⟨rfl, rfl⟩
  · have hk' : isStitchB k = false := by simpa using hk
    have HF : Hid (madeB k = -1) := Lib.hid (by rw [madeB, if_neg hk])
    clear hk
    go_enter Tryz.func163, Tryz.ntmps163
    go_wp2_with (fail)
    refine (impl_isStitch _ _).mono ?_; rintro e _ ⟨rfl, rfl⟩
    go_wp2_with (fail)
    go_ret
    exact ⟨ret_int HF.out.symm, rfl⟩

set_option maxHeartbeats 4000000 in
theorem spec_ColumnsTaken (k : Int) (w : World) : Calls Tryz.prog 112 #[.int .i64 k] w fun e w' => e = .returned (.int .i64 (takenB k)) ∧ Below w.heap.size w w' := by
  by_cases hk : isStitchB k = true
  · rcases stitch_cases hk with rfl | rfl | rfl | rfl | rfl | rfl | rfl | rfl | rfl | rfl | rfl
    all_goals
      go_enter Tryz.func112, Tryz.ntmps112
      go_wp2_with (fail)
      refine (spec_l14Kind _ _).mono ?_; rintro e _ ⟨rfl, rfl⟩
      go_wp2_with (fail)
      go_ret
      exact ⟨rfl, by (repeat (first | exact Below.refl _ _ | assumption | apply Below.drew | apply below_drewN | (refine Below.alloc ?_ (by first | omega | (simp; done) | (simp; omega)) _) | (refine Below.setCell ?_ (by first | omega | (simp; done) | (simp; omega)) _)))⟩
  · have hk' : isStitchB k = false := by simpa using hk
    have HF : Hid (takenB k = -1) := Lib.hid (by rw [takenB, if_neg hk])
    clear hk
    go_enter Tryz.func112, Tryz.ntmps112
    go_wp2_with (fail)
    refine (spec_l14Kind _ _).mono ?_; rintro e _ ⟨rfl, rfl⟩
    go_wp2_with (fail)
    go_ret
    exact ⟨ret_int HF.out.symm, Below.refl _ _⟩

set_option maxHeartbeats 4000000 in
theorem spec_ColumnsMade (k : Int) (w : World) : Calls Tryz.prog 137 #[.int .i64 k] w fun e w' => e = .returned (.int .i64 (madeB k)) ∧ Below w.heap.size w w' := by
  by_cases hk : isStitchB k = true
  · rcases stitch_cases hk with rfl | rfl | rfl | rfl | rfl | rfl | rfl | rfl | rfl | rfl | rfl
    all_goals
      go_enter Tryz.func137, Tryz.ntmps137
      go_wp2_with (fail)
      refine (spec_l14Kind _ _).mono ?_; rintro e _ ⟨rfl, rfl⟩
      go_wp2_with (fail)
      go_ret
      exact ⟨rfl, by (repeat (first | exact Below.refl _ _ | assumption | apply Below.drew | apply below_drewN | (refine Below.alloc ?_ (by first | omega | (simp; done) | (simp; omega)) _) | (refine Below.setCell ?_ (by first | omega | (simp; done) | (simp; omega)) _)))⟩
  · have hk' : isStitchB k = false := by simpa using hk
    have HF : Hid (madeB k = -1) := Lib.hid (by rw [madeB, if_neg hk])
    clear hk
    go_enter Tryz.func137, Tryz.ntmps137
    go_wp2_with (fail)
    refine (spec_l14Kind _ _).mono ?_; rintro e _ ⟨rfl, rfl⟩
    go_wp2_with (fail)
    go_ret
    exact ⟨ret_int HF.out.symm, Below.refl _ _⟩

theorem impl_takenBy (A : Option Addr) (c : Nat) (ks : List Int) (w : World) (h : Ints w A ks) (hs : stitchesB ks = true) :
    Calls Tryz.prog 104 #[.slice A ks.length c] w fun e w' => e = .returned (.int .i64 (takenS ks)) ∧ w = w' := by
  obtain ⟨hl, hst⟩ := stitchesB_of hs
  have hsum := (sums_le hst).1
  have HST := Lib.hid hst; clear hst
  go_enter Tryz.func104, Tryz.ntmps104
  go_wp2_with (fail)
  go_loop [3, 8] (fun s i => ∃ k : Nat, k ≤ ks.length ∧ i = .int .i64 k ∧ s = .int .i64 (takenS (ks.take k))) (fun _ i => ks.length - (intOf i).toNat)
  case atStart => exact ⟨0, Nat.zero_le _, rfl, rfl⟩
  case round =>
    obtain ⟨k, hk, rfl, rfl⟩ := hrel
    by_cases hlt : k < ks.length
    · obtain ⟨b, off, x, rfl, hc, hx⟩ := h k hlt
      have hq := HST.out x (List.mem_of_getElem? hx)
      have hle := takenS_at hx
      have HS : Hid (takenS (ks.take (k + 1)) = takenS (ks.take k) + takenN x) := Lib.hid (takenS_snoc hx)
      have HB : Hid (takenB x = takenN x) := Lib.hid (takenB_of hq)
      clear hx hq
      go_wp2_with (fail)
      refine (impl_ColumnsTaken _ _).mono ?_; rintro e _ ⟨rfl, rfl⟩
      rw [HB.out]
      go_wp2_with (fail)
      go_round
      case rel => exact ⟨k + 1, by omega, by go_num, by rw [HS.out]; push_cast; go_num⟩
      case measure => simp [intOf]; omega
    · go_wp2_with (fail)
      go_ret
      exact ⟨ret_int (by rw [take_all (by omega)]), rfl⟩

theorem impl_MadeBy (A : Option Addr) (c : Nat) (ks : List Int) (w : World) (h : Ints w A ks) (hl9 : ks.length ≤ 9223372036854775807) :
    Calls Tryz.prog 136 #[.slice A ks.length c] w fun e w' => e = .returned (.int .i64 (madeP ks)) ∧ w = w' := by
  by_cases hs : stitchesB ks = true
  · have HF : Hid (madeP ks = madeS ks) := Lib.hid (by rw [madeP, if_pos hs])
    obtain ⟨hl, hst⟩ := stitchesB_of hs
    have hsum := (sums_le hst).2
    have HST := Lib.hid hst; clear hst
    go_enter Tryz.func136, Tryz.ntmps136
    go_wp2_with (fail)
    refine (impl_areStitches _ _ _ _ h hl9).mono ?_; rintro e _ ⟨rfl, rfl⟩
    go_wp2_with (fail)
    go_loop [3, 11] (fun s i => ∃ k : Nat, k ≤ ks.length ∧ i = .int .i64 k ∧ s = .int .i64 (madeS (ks.take k))) (fun _ i => ks.length - (intOf i).toNat)
    case atStart => exact ⟨0, Nat.zero_le _, rfl, rfl⟩
    case round =>
      obtain ⟨k, hk, rfl, rfl⟩ := hrel
      by_cases hlt : k < ks.length
      · obtain ⟨b, off, x, rfl, hc, hx⟩ := h k hlt
        have hq := HST.out x (List.mem_of_getElem? hx)
        have HS : Hid (madeS (ks.take (k + 1)) = madeS (ks.take k) + madeN x) := Lib.hid (madeS_snoc hx)
        have hle : madeS (ks.take (k + 1)) ≤ 4 * (k + 1) := by
          have := (sums_le (ks := ks.take (k + 1)) fun y hy => HST.out y (List.mem_of_mem_take hy)).2
          have h2 := List.length_take_le (k + 1) ks
          omega
        rw [HS.out] at hle
        have HB : Hid (madeB x = madeN x) := Lib.hid (madeB_of hq)
        clear hx hq
        go_wp2_with (fail)
        refine (impl_ColumnsMade _ _).mono ?_; rintro e _ ⟨rfl, rfl⟩
        rw [HB.out]
        go_wp2_with (fail)
        go_round
        case rel => exact ⟨k + 1, by omega, by go_num, by rw [HS.out]; push_cast; go_num⟩
        case measure => simp [intOf]; omega
      · go_wp2_with (fail)
        go_ret
        exact ⟨ret_int (by rw [HF.out, take_all (by omega)]), rfl⟩
  · have hs' : stitchesB ks = false := by simpa using hs
    have HF : Hid (madeP ks = -1) := Lib.hid (by rw [madeP, if_neg hs])
    clear hs
    go_enter Tryz.func136, Tryz.ntmps136
    go_wp2_with (fail)
    refine (impl_areStitches _ _ _ _ h hl9).mono ?_; rintro e _ ⟨rfl, rfl⟩
    go_wp2_with (fail)
    go_ret
    exact ⟨ret_int HF.out.symm, rfl⟩

theorem spec_TakenBy (A : Option Addr) (c : Nat) (ks : List Int) (w : World) (h : Ints w A ks) (hl9 : ks.length ≤ 9223372036854775807) :
    Calls Tryz.prog 70 #[.slice A ks.length c] w fun e w' => e = .returned (.int .i64 (takenP ks)) ∧ Below w.heap.size w w' := by
  by_cases hs : stitchesB ks = true
  · have HF : Hid (takenP ks = takenS ks) := Lib.hid (by rw [takenP, if_pos hs])
    obtain ⟨hl, hst⟩ := stitchesB_of hs
    have HST := Lib.hid hst; clear hst
    go_enter Tryz.func70, Tryz.ntmps70
    go_wp2_with (fail)
    refine (spec_l14Ok _ _ _ _ h hl9).mono ?_; rintro e _ ⟨rfl, rfl⟩
    go_wp2_with (fail)
    go_loopw [3, 4] (fun s i wr => ∃ k : Nat, k ≤ ks.length ∧ i = .int .i64 k ∧ s = .int .i64 (takenS (ks.take k)) ∧ Below w.heap.size w wr) (fun _ i _ => ks.length - (intOf i).toNat)
    case atStart => exact ⟨0, Nat.zero_le _, rfl, rfl, Below.refl _ _⟩
    case round =>
      obtain ⟨k, hk, rfl, rfl, hb⟩ := hrel
      have hzs := hb.size
      by_cases hlt : k < ks.length
      · obtain ⟨b, off, x, rfl, hc, hx⟩ := h k hlt
        replace hc := cells_below hb _ _ hc
        have hq := HST.out x (List.mem_of_getElem? hx)
        have HS : Hid (takenS (ks.take (k + 1)) = takenS (ks.take k) + takenN x) := Lib.hid (takenS_snoc hx)
        have hle : takenS (ks.take (k + 1)) ≤ 4 * (k + 1) ∧ madeS (ks.take (k + 1)) ≤ 4 * (k + 1) := by
          have := (sums_le (ks := ks.take (k + 1)) fun y hy => HST.out y (List.mem_of_mem_take hy))
          have h2 := List.length_take_le (k + 1) ks
          omega
        have hle2 : takenS (ks.take (k + 1)) ≤ 4 * (k + 1) := by first | exact hle.1 | exact hle.2
        clear hle
        rw [HS.out] at hle2
        have HB : Hid (takenB x = takenN x) := Lib.hid (takenB_of hq)
        clear hx hq
        go_wp2_with (fail)
        refine (spec_ColumnsTaken _ _).mono ?_; rintro e w2 ⟨rfl, b2⟩
        have hb2 : Below w.heap.size w w2 := hb.trans (b2.mono hzs)
        rw [HB.out]
        go_wp2_with (fail)
        go_roundw
        case rel => exact ⟨k + 1, by omega, by go_num, by rw [HS.out]; push_cast; go_num, hb2⟩
        case measure => simp [intOf]; omega
      · go_wp2_with (fail)
        go_ret
        exact ⟨ret_int (by rw [HF.out, take_all (by omega)]), hb⟩
  · have hs' : stitchesB ks = false := by simpa using hs
    have HF : Hid (takenP ks = -1) := Lib.hid (by rw [takenP, if_neg hs])
    clear hs
    go_enter Tryz.func70, Tryz.ntmps70
    go_wp2_with (fail)
    refine (spec_l14Ok _ _ _ _ h hl9).mono ?_; rintro e _ ⟨rfl, rfl⟩
    go_wp2_with (fail)
    go_ret
    exact ⟨ret_int HF.out.symm, Below.refl _ _⟩
theorem spec_MadeBy (A : Option Addr) (c : Nat) (ks : List Int) (w : World) (h : Ints w A ks) (hl9 : ks.length ≤ 9223372036854775807) :
    Calls Tryz.prog 111 #[.slice A ks.length c] w fun e w' => e = .returned (.int .i64 (madeP ks)) ∧ Below w.heap.size w w' := by
  by_cases hs : stitchesB ks = true
  · have HF : Hid (madeP ks = madeS ks) := Lib.hid (by rw [madeP, if_pos hs])
    obtain ⟨hl, hst⟩ := stitchesB_of hs
    have HST := Lib.hid hst; clear hst
    go_enter Tryz.func111, Tryz.ntmps111
    go_wp2_with (fail)
    refine (spec_l14Ok _ _ _ _ h hl9).mono ?_; rintro e _ ⟨rfl, rfl⟩
    go_wp2_with (fail)
    go_loopw [3, 4] (fun s i wr => ∃ k : Nat, k ≤ ks.length ∧ i = .int .i64 k ∧ s = .int .i64 (madeS (ks.take k)) ∧ Below w.heap.size w wr) (fun _ i _ => ks.length - (intOf i).toNat)
    case atStart => exact ⟨0, Nat.zero_le _, rfl, rfl, Below.refl _ _⟩
    case round =>
      obtain ⟨k, hk, rfl, rfl, hb⟩ := hrel
      have hzs := hb.size
      by_cases hlt : k < ks.length
      · obtain ⟨b, off, x, rfl, hc, hx⟩ := h k hlt
        replace hc := cells_below hb _ _ hc
        have hq := HST.out x (List.mem_of_getElem? hx)
        have HS : Hid (madeS (ks.take (k + 1)) = madeS (ks.take k) + madeN x) := Lib.hid (madeS_snoc hx)
        have hle : takenS (ks.take (k + 1)) ≤ 4 * (k + 1) ∧ madeS (ks.take (k + 1)) ≤ 4 * (k + 1) := by
          have := (sums_le (ks := ks.take (k + 1)) fun y hy => HST.out y (List.mem_of_mem_take hy))
          have h2 := List.length_take_le (k + 1) ks
          omega
        have hle2 : madeS (ks.take (k + 1)) ≤ 4 * (k + 1) := by first | exact hle.1 | exact hle.2
        clear hle
        rw [HS.out] at hle2
        have HB : Hid (madeB x = madeN x) := Lib.hid (madeB_of hq)
        clear hx hq
        go_wp2_with (fail)
        refine (spec_ColumnsMade _ _).mono ?_; rintro e w2 ⟨rfl, b2⟩
        have hb2 : Below w.heap.size w w2 := hb.trans (b2.mono hzs)
        rw [HB.out]
        go_wp2_with (fail)
        go_roundw
        case rel => exact ⟨k + 1, by omega, by go_num, by rw [HS.out]; push_cast; go_num, hb2⟩
        case measure => simp [intOf]; omega
      · go_wp2_with (fail)
        go_ret
        exact ⟨ret_int (by rw [HF.out, take_all (by omega)]), hb⟩
  · have hs' : stitchesB ks = false := by simpa using hs
    have HF : Hid (madeP ks = -1) := Lib.hid (by rw [madeP, if_neg hs])
    clear hs
    go_enter Tryz.func111, Tryz.ntmps111
    go_wp2_with (fail)
    refine (spec_l14Ok _ _ _ _ h hl9).mono ?_; rintro e _ ⟨rfl, rfl⟩
    go_wp2_with (fail)
    go_ret
    exact ⟨ret_int HF.out.symm, Below.refl _ _⟩

end Go.Proofs.YtnjgmhdmjaijgaaGreat
