/- Colour charts: ValidColours, SameColours. -/
import Derived.Test.YtdnchjchgejkeaaS2
namespace Go.Proofs.Ytdnchjchgejkeaa
open Go.RowKit

def rowOfB (n : Int) (row : List Int) : Bool := decide ((row.length : Int) = n) && row.all carrierB
def coloursB (n : Int) (xss : List (List Int)) : Bool := inR n 1 8 && inR xss.length 1 8 && xss.all (rowOfB n)
def sameColoursB (n m : Int) (xss yss : List (List Int)) : Bool := decide (n = m ∧ xss = yss)

set_option maxHeartbeats 2000000 in
theorem spec_l19Ok (g o : Nat) (n : Int) (A : Option Addr) (c : Nat) (xss : List (List Int)) (w : World) (h : Ints2 w A xss) (hl : xss.length ≤ 9223372036854775807)
    (c0 : w.cell? ⟨g, o, none⟩ = some (.int .i64 n)) (c1 : w.cell? ⟨g, o + 1, none⟩ = some (.slice A xss.length c)) :
    Calls Try.prog 104 #[.pointer (some ⟨g, o, none⟩)] w fun e w' => e = .returned (.bool (coloursB n xss)) ∧ Drawn w w' := by
  by_cases hn : inR n 1 8 = true
  · by_cases hm : inR xss.length 1 8 = true
    · have HF : Hid (coloursB n xss = xss.all (rowOfB n)) := Lib.hid (by simp [coloursB, hn, hm])
      go_enter Try.func104, Try.ntmps104
      go_wp2_with (refine (spec_l00In _ _ _ _).mono ?_; rintro e _ ⟨rfl, rfl⟩)
      clear hn hm
      go_loopw [3] (fun i wr => ∃ (k : Nat), k ≤ xss.length ∧ i = .int .i64 k ∧ (xss.take k).all (rowOfB n) = true ∧ Drawn w wr) (fun i _ => xss.length - (intOf i).toNat)
      case atStart => exact ⟨0, Nat.zero_le _, rfl, rfl, Drawn.refl _⟩
      case round =>
        obtain ⟨k, hk, rfl, hall, hdr⟩ := hrel
        have HALL := Lib.hid hall; clear hall
        have q0 := hdr.cells _ _ c0
        have q1 := hdr.cells _ _ c1
        by_cases hlt : k < xss.length
        · obtain ⟨b, off, A', c', row, rfl, hx, hc, hi, hxl⟩ := (h.of_cells hdr.cells) k hlt
          have HX := Lib.hid hx; clear hx
          have j1 : (0 : Int) ≤ (k : Int) := by omega
          have j2 : (k : Int) < (xss.length : Int) := by omega
          by_cases hrn : (row.length : Int) = n
          · have hrn' : ((row.length : Int) != n) = false := by simp [hrn]
            have HRN := Lib.hid hrn; clear hrn
            go_wp2_with (fail)
            go_quiet (fail)
            go_wp2_with (fail)
            have HDR := Lib.hid hdr; clear hdr
            go_loop [4] (fun i => ∃ (j : Nat), j ≤ row.length ∧ i = .int .i64 j ∧ (row.take j).all carrierB = true) (fun i => row.length - (intOf i).toNat)
            case atStart => exact ⟨0, Nat.zero_le _, rfl, rfl⟩
            case round =>
              obtain ⟨j, hj, rfl, hrall⟩ := hrel
              have HRALL := Lib.hid hrall; clear hrall
              by_cases hjl : j < row.length
              · obtain ⟨b2, off2, x, rfl, hcx, hxx⟩ := hi j hjl
                have HXX := Lib.hid hxx; clear hxx
                go_wp2_with (refine (spec_l07Yarn _ _).mono ?_; rintro e _ ⟨rfl, rfl⟩)
                · have hq : carrierB x = false := by simpa using (show (!(carrierB x)) = true by assumption)
                  go_ret
                  refine ⟨ret_bool ?_, HDR.out.drewN _⟩
                  rw [HF.out, all_false_at HX.out]
                  rw [rowOfB, all_false_at HXX.out hq, Bool.and_false]
                · have hq : carrierB x = true := by simpa using (show (!(carrierB x)) = false by assumption)
                  go_round
                  case rel => exact ⟨j + 1, by omega, by go_num, by rw [take_snoc HXX.out, List.all_append, HRALL.out]; simpa using hq⟩
                  case measure => simp [intOf]; omega
              · go_wp2_with (fail)
                go_roundw
                case rel =>
                  refine ⟨k + 1, by omega, by go_num, ?_, HDR.out.drewN _⟩
                  have hra := HRALL.out
                  rw [take_all (by omega)] at hra
                  rw [take_snoc HX.out, List.all_append, HALL.out]
                  simp [rowOfB, hra, HRN.out]
                case measure => simp [intOf]; omega
          · have hrn' : ((row.length : Int) != n) = true := by simpa using hrn
            go_wp2_with (fail)
            go_quiet (fail)
            go_wp2_with (fail)
            go_ret
            refine ⟨ret_bool ?_, hdr.drewN _⟩
            rw [HF.out, all_false_at HX.out]
            rw [rowOfB, decide_eq_false hrn, Bool.false_and]
        · have ha := HALL.out
          rw [take_all (by omega)] at ha
          go_wp2_with (fail)
          go_ret
          exact ⟨ret_bool (by rw [HF.out, ha]), hdr⟩
    · have hm' : inR xss.length 1 8 = false := by simpa using hm
      have HF : Hid (coloursB n xss = false) := Lib.hid (by simp [coloursB, hm'])
      clear hm
      go_enter Try.func104, Try.ntmps104
      go_wp2_with (refine (spec_l00In _ _ _ _).mono ?_; rintro e _ ⟨rfl, rfl⟩)
      go_ret
      exact ⟨ret_bool HF.out.symm, Drawn.refl _⟩
  · have hn' : inR n 1 8 = false := by simpa using hn
    have HF : Hid (coloursB n xss = false) := Lib.hid (by simp [coloursB, hn'])
    clear hn
    go_enter Try.func104, Try.ntmps104
    go_wp2_with (refine (spec_l00In _ _ _ _).mono ?_; rintro e _ ⟨rfl, rfl⟩)
    go_ret
    exact ⟨ret_bool HF.out.symm, Drawn.refl _⟩

theorem impl_ValidColours_1_1 (n : Int) (w : World) : Calls Try.prog 155 #[.int .i64 n] w fun e w' => e = .returned (.bool (!carrierB n)) ∧ w = w' := by
  go_enter Try.func155, Try.ntmps155
  go_wp2_with (refine (impl_isCarrier _ _).mono ?_; rintro e _ ⟨rfl, rfl⟩)
  go_ret
  exact ⟨rfl, rfl⟩

theorem indexFunc_impl_ValidColours_1_1 (A : Option Addr) (c : Nat) (xs : List Int) (w : World) (h : Ints w A xs) (hl : xs.length ≤ 9223372036854775807) : Calls Try.prog 146 #[.slice A xs.length c, .func (.func 155) #[] #[]] w fun e w' => AnyInt (fun k => decide (0 ≤ k) = xs.any (fun n => !carrierB n) ∧ k ≤ 9223372036854775807) e ∧ w = w' := by
  go_enter Try.func146, Try.ntmps146
  go_wp2
  go_loop [8] (fun i => ∃ k : Nat, k ≤ xs.length ∧ i = .int .i64 k ∧ (xs.take k).any (fun n => !carrierB n) = false) (fun i => xs.length - (intOf i).toNat)
  case atStart => exact ⟨0, Nat.zero_le _, rfl, rfl⟩
  case round =>
    obtain ⟨k, hk, rfl, ha⟩ := hrel
    have HA := Lib.hid ha; clear ha
    by_cases hlt : k < xs.length
    · obtain ⟨b, off, x, rfl, hc, hx⟩ := h k hlt
      have HX := Lib.hid hx; clear hx
      go_wp2_with (refine (impl_ValidColours_1_1 _ _).mono ?_; rintro e w' ⟨rfl, rfl⟩)
      · have hq : ((fun n => !carrierB n) x) = true := by assumption
        go_ret
        refine ⟨⟨_, rfl, ?_, by omega⟩, rfl⟩
        rw [any_true_at HX.out hq]
        simp
      · have hq : ((fun n => !carrierB n) x) = false := by assumption
        go_round
        case rel => exact ⟨k + 1, by omega, by go_num, by rw [take_snoc HX.out, List.any_append, HA.out]; simpa using hq⟩
        case measure => simp [intOf]; omega
    · go_wp2
      go_ret
      refine ⟨⟨_, rfl, ?_, by omega⟩, rfl⟩
      have := HA.out
      rw [take_all (by omega)] at this
      rw [this]
      rfl
theorem containsFunc_impl_ValidColours_1_1 (A : Option Addr) (c : Nat) (xs : List Int) (w : World) (h : Ints w A xs) (hl : xs.length ≤ 9223372036854775807) : Calls Try.prog 96 #[.slice A xs.length c, .func (.func 155) #[] #[]] w fun e w' => e = .returned (.bool (xs.any (fun n => !carrierB n))) ∧ w = w' := by
  go_enter Try.func96, Try.ntmps96
  go_wp2_with (refine (indexFunc_impl_ValidColours_1_1 _ _ _ _ h hl).mono ?_; rintro e w' ⟨⟨k, rfl, hk, hk'⟩, rfl⟩)
  go_ret
  exact ⟨rfl, rfl⟩

theorem impl_ValidColours_1 (n : Int) (g o : Nat) (A : Option Addr) (c : Nat) (xs : List Int) (w : World) (h : Ints w A xs) (hl : xs.length ≤ 9223372036854775807) (c0 : w.cell? ⟨g, o, none⟩ = some (.int .i64 n)) :
    Calls Try.prog 154 #[.slice A xs.length c, .pointer (some ⟨g, o, none⟩)] w fun e w' => e = .returned (.bool (!rowOfB n xs)) ∧ w = w' := by
  by_cases hn : (xs.length : Int) = n
  · have hn' : ((xs.length : Int) != n) = false := by simp [hn]
    have HN := Lib.hid hn; clear hn
    go_enter Try.func154, Try.ntmps154
    go_wp2_with (refine (containsFunc_impl_ValidColours_1_1 _ _ _ _ h hl).mono ?_; rintro e _ ⟨rfl, rfl⟩)
    go_ret
    exact ⟨ret_bool (by rw [rowOfB, decide_eq_true HN.out, List.all_eq_not_any_not]; simp), rfl⟩
  · have hn' : ((xs.length : Int) != n) = true := by simpa using hn
    have HN := Lib.hid hn; clear hn
    go_enter Try.func154, Try.ntmps154
    go_wp2_with (fail)
    go_ret
    exact ⟨ret_bool (by rw [rowOfB, decide_eq_false HN.out]; simp), rfl⟩

theorem indexFunc_ValidColours_1 (n : Int) (g o : Nat) (A : Option Addr) (c : Nat) (xss : List (List Int)) (w : World) (h : Ints2 w A xss) (hl : xss.length ≤ 9223372036854775807) (c0 : w.cell? ⟨g, o, none⟩ = some (.int .i64 n)) :
    Calls Try.prog 174 #[.slice A xss.length c, .func (.func 154) #[] #[.pointer (some ⟨g, o, none⟩)]] w fun e w' => AnyInt (fun k => decide (0 ≤ k) = xss.any (fun r => !rowOfB n r) ∧ k ≤ 9223372036854775807) e ∧ w = w' := by
  go_enter Try.func174, Try.ntmps174
  go_wp2
  go_loop [8] (fun i => ∃ k : Nat, k ≤ xss.length ∧ i = .int .i64 k ∧ (xss.take k).any (fun r => !rowOfB n r) = false) (fun i => xss.length - (intOf i).toNat)
  case atStart => exact ⟨0, Nat.zero_le _, rfl, rfl⟩
  case round =>
    obtain ⟨k, hk, rfl, ha⟩ := hrel
    have HA := Lib.hid ha; clear ha
    by_cases hlt : k < xss.length
    · obtain ⟨b, off, A', c', row, rfl, hx, hc, hi, hxl⟩ := h k hlt
      have HX := Lib.hid hx; clear hx
      go_wp2_with (refine (impl_ValidColours_1 n _ _ _ _ _ _ hi hxl c0).mono ?_; rintro e w' ⟨rfl, rfl⟩)
      · have hq : (!rowOfB n row) = true := by assumption
        go_ret
        refine ⟨⟨_, rfl, ?_, by omega⟩, rfl⟩
        rw [any_true_at HX.out hq]
        simp
      · have hq : (!rowOfB n row) = false := by assumption
        go_round
        case rel => exact ⟨k + 1, by omega, by go_num, by rw [take_snoc HX.out, List.any_append, HA.out]; simpa using hq⟩
        case measure => simp [intOf]; omega
    · go_wp2
      go_ret
      refine ⟨⟨_, rfl, ?_, by omega⟩, rfl⟩
      have := HA.out
      rw [take_all (by omega)] at this
      rw [this]
      rfl
theorem containsFunc_ValidColours_1 (n : Int) (g o : Nat) (A : Option Addr) (c : Nat) (xss : List (List Int)) (w : World) (h : Ints2 w A xss) (hl : xss.length ≤ 9223372036854775807) (c0 : w.cell? ⟨g, o, none⟩ = some (.int .i64 n)) :
    Calls Try.prog 153 #[.slice A xss.length c, .func (.func 154) #[] #[.pointer (some ⟨g, o, none⟩)]] w fun e w' => e = .returned (.bool (xss.any (fun r => !rowOfB n r))) ∧ w = w' := by
  go_enter Try.func153, Try.ntmps153
  go_wp2_with (refine (indexFunc_ValidColours_1 n _ _ _ _ _ _ h hl c0).mono ?_; rintro e w' ⟨⟨k, rfl, hk, hk'⟩, rfl⟩)
  go_ret
  exact ⟨rfl, rfl⟩
theorem impl_ValidColours (n : Int) (xss : List (List Int)) (A : Option Addr) (c : Nat) (w : World) (h : Ints2 w A xss) (hl : xss.length ≤ 9223372036854775807) :
    Calls Try.prog 108 #[.agg #[.int .i64 n, .slice A xss.length c]] w fun e w' => e = .returned (.bool (coloursB n xss)) ∧ Below w.heap.size w w' := by
  have hmf : ∀ (fn : Fn) (first cap : Array Value) (w : World), (Instr.makeFunc fn first cap).run Try.prog w = .ok (.func fn first cap) w := fun _ _ _ _ => rfl
  by_cases hn : inR n 1 8 = true
  · by_cases h1 : xss.length < 1
    · have HF : Hid (coloursB n xss = false) := Lib.hid (by rw [coloursB, show inR xss.length 1 8 = false from by simp [inR]; omega]; simp)
      have d1 : decide ((xss.length : Int) < 1) = true := decide_eq_true (by omega)
      go_enter Try.func108, Try.ntmps108
      go_wp2_with (refine (impl_within _ _ _ _).mono ?_; rintro e _ ⟨rfl, rfl⟩)
      go_ret
      exact ⟨ret_bool HF.out.symm, by (repeat (first | exact Below.refl _ _ | assumption | apply Below.drew | apply below_drewN | (refine Below.alloc ?_ (by first | omega | (simp; done) | (simp; omega)) _) | (refine Below.setCell ?_ (by first | omega | (simp; done) | (simp; omega)) _)))⟩
    · have d1 : decide ((xss.length : Int) < 1) = false := decide_eq_false (by omega)
      by_cases h8 : 8 < xss.length
      · have HF : Hid (coloursB n xss = false) := Lib.hid (by rw [coloursB, show inR xss.length 1 8 = false from by simp [inR]; omega]; simp)
        have d2 : decide ((8 : Int) < (xss.length : Int)) = true := decide_eq_true (by omega)
        go_enter Try.func108, Try.ntmps108
        go_wp2_with (refine (impl_within _ _ _ _).mono ?_; rintro e _ ⟨rfl, rfl⟩)
        go_ret
        exact ⟨ret_bool HF.out.symm, by (repeat (first | exact Below.refl _ _ | assumption | apply Below.drew | apply below_drewN | (refine Below.alloc ?_ (by first | omega | (simp; done) | (simp; omega)) _) | (refine Below.setCell ?_ (by first | omega | (simp; done) | (simp; omega)) _)))⟩
      · have d2 : decide ((8 : Int) < (xss.length : Int)) = false := decide_eq_false (by omega)
        have HF : Hid (coloursB n xss = !(xss.any (fun r => !rowOfB n r))) := Lib.hid (by
          have : inR xss.length 1 8 = true := by simp [inR]; omega
          simp [coloursB, this, hn, List.all_eq_not_any_not])
        go_enter Try.func108, Try.ntmps108
        go_wp2_with (fail)
        refine (impl_within _ _ _ _).mono ?_; rintro e _ ⟨rfl, rfl⟩
        go_wp2_with (fail)
        refine (containsFunc_ValidColours_1 n _ _ _ _ _ _ (h.below (by (repeat (first | exact Below.refl _ _ | assumption | apply Below.drew | apply below_drewN | (refine Below.alloc ?_ (by first | omega | (simp; done) | (simp; omega)) _) | (refine Below.setCell ?_ (by first | omega | (simp; done) | (simp; omega)) _))))) hl (by simp)).mono ?_; rintro e _ ⟨rfl, rfl⟩
        go_wp2_with (fail)
        go_ret
        exact ⟨ret_bool HF.out.symm, by (repeat (first | exact Below.refl _ _ | assumption | apply Below.drew | apply below_drewN | (refine Below.alloc ?_ (by first | omega | (simp; done) | (simp; omega)) _) | (refine Below.setCell ?_ (by first | omega | (simp; done) | (simp; omega)) _)))⟩
  · have hn' : inR n 1 8 = false := by simpa using hn
    have HF : Hid (coloursB n xss = false) := Lib.hid (by simp [coloursB, hn'])
    clear hn
    go_enter Try.func108, Try.ntmps108
    go_wp2_with (refine (impl_within _ _ _ _).mono ?_; rintro e _ ⟨rfl, rfl⟩)
    go_ret
    exact ⟨ret_bool HF.out.symm, by (repeat (first | exact Below.refl _ _ | assumption | apply Below.drew | apply below_drewN | (refine Below.alloc ?_ (by first | omega | (simp; done) | (simp; omega)) _) | (refine Below.setCell ?_ (by first | omega | (simp; done) | (simp; omega)) _)))⟩

end Go.Proofs.Ytdnchjchgejkeaa
