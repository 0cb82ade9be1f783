/- Steps of the proof, joined from several texts: CC SC SM CO VP SP. -/
import Derived.Test.YtcgbogofmdjddaaDoorZ2
import Derived.BigGuard
import Derived.BigCall
import Derived.Test.YtcgbogofmdjddaaDoorZ1

/- Colour charts: ValidColours, SameColours. -/
namespace Go.Proofs.YtcgbogofmdjddaaDoor
open Go.RowKit

def rowOfB (n : Int) (row : List Int) : Bool := decide ((row.length : Int) = n) && row.all carrierB
def coloursB (n : Int) (xss : List (List Int)) : Bool := inR n 1 8 && inR xss.length 1 8 && xss.all (rowOfB n)
def sameColoursB (n m : Int) (xss yss : List (List Int)) : Bool := decide (n = m ∧ xss = yss)

set_option maxHeartbeats 2000000 in
theorem spec_l19Ok (g o : Nat) (n : Int) (A : Option Addr) (c : Nat) (xss : List (List Int)) (w : World) (h : Ints2 w A xss) (hl : xss.length ≤ 9223372036854775807)
    (c0 : w.cell? ⟨g, o, none⟩ = some (.int .i64 n)) (c1 : w.cell? ⟨g, o + 1, none⟩ = some (.slice A xss.length c)) :
    Calls Tryd.prog 41 #[.pointer (some ⟨g, o, none⟩)] w fun e w' => e = .returned (.bool (coloursB n xss)) ∧ Drawn w w' := by
  by_cases hn : inR n 1 8 = true
  · by_cases hm : inR xss.length 1 8 = true
    · have HF : Hid (coloursB n xss = xss.all (rowOfB n)) := Lib.hid (by simp [coloursB, hn, hm])
      go_enter Tryd.func41, Tryd.ntmps41
      go_wp2_with (refine (spec_l00In _ _ _ _).mono ?_; rintro e _ ⟨rfl, rfl⟩)
      clear hn hm
      go_loopw [3] (fun i wr => ∃ (k : Nat), k ≤ xss.length ∧ i = .int .i64 k ∧ (xss.take k).all (rowOfB n) = true ∧ Drawn w wr) (fun i _ => xss.length - (intOf i).toNat)
      case atStart => exact ⟨0, Nat.zero_le _, rfl, rfl, Drawn.refl _⟩
      case round =>
        obtain ⟨k, hk, rfl, hall, hdr⟩ := hrel
        have HALL := Lib.hid hall; clear hall
        have q0 := hdr.cells _ _ c0
        have q1 := hdr.cells _ _ c1
        by_cases hlt : k < xss.length
        · obtain ⟨b, off, A', c', row, rfl, hx, hc, hi, hxl⟩ := (h.of_cells hdr.cells) k hlt
          have HX := Lib.hid hx; clear hx
          have j1 : (0 : Int) ≤ (k : Int) := by omega
          have j2 : (k : Int) < (xss.length : Int) := by omega
          by_cases hrn : (row.length : Int) = n
          · have hrn' : ((row.length : Int) != n) = false := by simp [hrn]
            have HRN := Lib.hid hrn; clear hrn
            go_wp2_with (fail)
            go_quiet (fail)
            go_wp2_with (fail)
            have HDR := Lib.hid hdr; clear hdr
            go_loop [4] (fun i => ∃ (j : Nat), j ≤ row.length ∧ i = .int .i64 j ∧ (row.take j).all carrierB = true) (fun i => row.length - (intOf i).toNat)
            case atStart => exact ⟨0, Nat.zero_le _, rfl, rfl⟩
            case round =>
              obtain ⟨j, hj, rfl, hrall⟩ := hrel
              have HRALL := Lib.hid hrall; clear hrall
              by_cases hjl : j < row.length
              · obtain ⟨b2, off2, x, rfl, hcx, hxx⟩ := hi j hjl
                have HXX := Lib.hid hxx; clear hxx
                go_wp2_with (refine (spec_l07Yarn _ _).mono ?_; rintro e _ ⟨rfl, rfl⟩)
                · have hq : carrierB x = false := by simpa using (show (!(carrierB x)) = true by assumption)
                  go_ret
                  refine ⟨ret_bool ?_, HDR.out.drewN _⟩
                  rw [HF.out, all_false_at HX.out]
                  rw [rowOfB, all_false_at HXX.out hq, Bool.and_false]
                · have hq : carrierB x = true := by simpa using (show (!(carrierB x)) = false by assumption)
                  go_round
                  case rel => exact ⟨j + 1, by omega, by go_num, by rw [take_snoc HXX.out, List.all_append, HRALL.out]; simpa using hq⟩
                  case measure => simp [intOf]; omega
              · go_wp2_with (fail)
                go_roundw
                case rel =>
                  refine ⟨k + 1, by omega, by go_num, ?_, HDR.out.drewN _⟩
                  have hra := HRALL.out
                  rw [take_all (by omega)] at hra
                  rw [take_snoc HX.out, List.all_append, HALL.out]
                  simp [rowOfB, hra, HRN.out]
                case measure => simp [intOf]; omega
          · have hrn' : ((row.length : Int) != n) = true := by simpa using hrn
            go_wp2_with (fail)
            go_quiet (fail)
            go_wp2_with (fail)
            go_ret
            refine ⟨ret_bool ?_, hdr.drewN _⟩
            rw [HF.out, all_false_at HX.out]
            rw [rowOfB, decide_eq_false hrn, Bool.false_and]
        · have ha := HALL.out
          rw [take_all (by omega)] at ha
          go_wp2_with (fail)
          go_ret
          exact ⟨ret_bool (by rw [HF.out, ha]), hdr⟩
    · have hm' : inR xss.length 1 8 = false := by simpa using hm
      have HF : Hid (coloursB n xss = false) := Lib.hid (by simp [coloursB, hm'])
      clear hm
      go_enter Tryd.func41, Tryd.ntmps41
      go_wp2_with (refine (spec_l00In _ _ _ _).mono ?_; rintro e _ ⟨rfl, rfl⟩)
      go_ret
      exact ⟨ret_bool HF.out.symm, Drawn.refl _⟩
  · have hn' : inR n 1 8 = false := by simpa using hn
    have HF : Hid (coloursB n xss = false) := Lib.hid (by simp [coloursB, hn'])
    clear hn
    go_enter Tryd.func41, Tryd.ntmps41
    go_wp2_with (refine (spec_l00In _ _ _ _).mono ?_; rintro e _ ⟨rfl, rfl⟩)
    go_ret
    exact ⟨ret_bool HF.out.symm, Drawn.refl _⟩

theorem impl_ValidColours_1_1 (n : Int) (w : World) : Calls Tryd.prog 77 #[.int .i64 n] w fun e w' => e = .returned (.bool (!carrierB n)) ∧ w = w' := by
  go_enter Tryd.func77, Tryd.ntmps77
  go_wp2_with (refine (impl_isCarrier _ _).mono ?_; rintro e _ ⟨rfl, rfl⟩)
  go_ret
  exact ⟨rfl, rfl⟩

theorem indexFunc_impl_ValidColours_1_1 (A : Option Addr) (c : Nat) (xs : List Int) (w : World) (h : Ints w A xs) (hl : xs.length ≤ 9223372036854775807) : Calls Tryd.prog 108 #[.slice A xs.length c, .func (.func 77) #[] #[]] w fun e w' => AnyInt (fun k => decide (0 ≤ k) = xs.any (fun n => !carrierB n) ∧ k ≤ 9223372036854775807) e ∧ w = w' := by
  go_enter Tryd.func108, Tryd.ntmps108
  go_wp2
  go_loop [8] (fun i => ∃ k : Nat, k ≤ xs.length ∧ i = .int .i64 k ∧ (xs.take k).any (fun n => !carrierB n) = false) (fun i => xs.length - (intOf i).toNat)
  case atStart => exact ⟨0, Nat.zero_le _, rfl, rfl⟩
  case round =>
    obtain ⟨k, hk, rfl, ha⟩ := hrel
    have HA := Lib.hid ha; clear ha
    by_cases hlt : k < xs.length
    · obtain ⟨b, off, x, rfl, hc, hx⟩ := h k hlt
      have HX := Lib.hid hx; clear hx
      go_wp2_with (refine (impl_ValidColours_1_1 _ _).mono ?_; rintro e w' ⟨rfl, rfl⟩)
      · have hq : ((fun n => !carrierB n) x) = true := by assumption
        go_ret
        refine ⟨⟨_, rfl, ?_, by omega⟩, rfl⟩
        rw [any_true_at HX.out hq]
        simp
      · have hq : ((fun n => !carrierB n) x) = false := by assumption
        go_round
        case rel => exact ⟨k + 1, by omega, by go_num, by rw [take_snoc HX.out, List.any_append, HA.out]; simpa using hq⟩
        case measure => simp [intOf]; omega
    · go_wp2
      go_ret
      refine ⟨⟨_, rfl, ?_, by omega⟩, rfl⟩
      have := HA.out
      rw [take_all (by omega)] at this
      rw [this]
      rfl
theorem containsFunc_impl_ValidColours_1_1 (A : Option Addr) (c : Nat) (xs : List Int) (w : World) (h : Ints w A xs) (hl : xs.length ≤ 9223372036854775807) : Calls Tryd.prog 76 #[.slice A xs.length c, .func (.func 77) #[] #[]] w fun e w' => e = .returned (.bool (xs.any (fun n => !carrierB n))) ∧ w = w' := by
  go_enter Tryd.func76, Tryd.ntmps76
  go_wp2_with (refine (indexFunc_impl_ValidColours_1_1 _ _ _ _ h hl).mono ?_; rintro e w' ⟨⟨k, rfl, hk, hk'⟩, rfl⟩)
  go_ret
  exact ⟨rfl, rfl⟩

theorem impl_ValidColours_1 (n : Int) (g o : Nat) (A : Option Addr) (c : Nat) (xs : List Int) (w : World) (h : Ints w A xs) (hl : xs.length ≤ 9223372036854775807) (c0 : w.cell? ⟨g, o, none⟩ = some (.int .i64 n)) :
    Calls Tryd.prog 75 #[.slice A xs.length c, .pointer (some ⟨g, o, none⟩)] w fun e w' => e = .returned (.bool (!rowOfB n xs)) ∧ w = w' := by
  by_cases hn : (xs.length : Int) = n
  · have hn' : ((xs.length : Int) != n) = false := by simp [hn]
    have HN := Lib.hid hn; clear hn
    go_enter Tryd.func75, Tryd.ntmps75
    go_wp2_with (refine (containsFunc_impl_ValidColours_1_1 _ _ _ _ h hl).mono ?_; rintro e _ ⟨rfl, rfl⟩)
    go_ret
    exact ⟨ret_bool (by rw [rowOfB, decide_eq_true HN.out, List.all_eq_not_any_not]; simp), rfl⟩
  · have hn' : ((xs.length : Int) != n) = true := by simpa using hn
    have HN := Lib.hid hn; clear hn
    go_enter Tryd.func75, Tryd.ntmps75
    go_wp2_with (fail)
    go_ret
    exact ⟨ret_bool (by rw [rowOfB, decide_eq_false HN.out]; simp), rfl⟩

theorem indexFunc_ValidColours_1 (n : Int) (g o : Nat) (A : Option Addr) (c : Nat) (xss : List (List Int)) (w : World) (h : Ints2 w A xss) (hl : xss.length ≤ 9223372036854775807) (c0 : w.cell? ⟨g, o, none⟩ = some (.int .i64 n)) :
    Calls Tryd.prog 107 #[.slice A xss.length c, .func (.func 75) #[] #[.pointer (some ⟨g, o, none⟩)]] w fun e w' => AnyInt (fun k => decide (0 ≤ k) = xss.any (fun r => !rowOfB n r) ∧ k ≤ 9223372036854775807) e ∧ w = w' := by
  go_enter Tryd.func107, Tryd.ntmps107
  go_wp2
  go_loop [8] (fun i => ∃ k : Nat, k ≤ xss.length ∧ i = .int .i64 k ∧ (xss.take k).any (fun r => !rowOfB n r) = false) (fun i => xss.length - (intOf i).toNat)
  case atStart => exact ⟨0, Nat.zero_le _, rfl, rfl⟩
  case round =>
    obtain ⟨k, hk, rfl, ha⟩ := hrel
    have HA := Lib.hid ha; clear ha
    by_cases hlt : k < xss.length
    · obtain ⟨b, off, A', c', row, rfl, hx, hc, hi, hxl⟩ := h k hlt
      have HX := Lib.hid hx; clear hx
      go_wp2_with (refine (impl_ValidColours_1 n _ _ _ _ _ _ hi hxl c0).mono ?_; rintro e w' ⟨rfl, rfl⟩)
      · have hq : (!rowOfB n row) = true := by assumption
        go_ret
        refine ⟨⟨_, rfl, ?_, by omega⟩, rfl⟩
        rw [any_true_at HX.out hq]
        simp
      · have hq : (!rowOfB n row) = false := by assumption
        go_round
        case rel => exact ⟨k + 1, by omega, by go_num, by rw [take_snoc HX.out, List.any_append, HA.out]; simpa using hq⟩
        case measure => simp [intOf]; omega
    · go_wp2
      go_ret
      refine ⟨⟨_, rfl, ?_, by omega⟩, rfl⟩
      have := HA.out
      rw [take_all (by omega)] at this
      rw [this]
      rfl
theorem containsFunc_ValidColours_1 (n : Int) (g o : Nat) (A : Option Addr) (c : Nat) (xss : List (List Int)) (w : World) (h : Ints2 w A xss) (hl : xss.length ≤ 9223372036854775807) (c0 : w.cell? ⟨g, o, none⟩ = some (.int .i64 n)) :
    Calls Tryd.prog 74 #[.slice A xss.length c, .func (.func 75) #[] #[.pointer (some ⟨g, o, none⟩)]] w fun e w' => e = .returned (.bool (xss.any (fun r => !rowOfB n r))) ∧ w = w' := by
  go_enter Tryd.func74, Tryd.ntmps74
  go_wp2_with (refine (indexFunc_ValidColours_1 n _ _ _ _ _ _ h hl c0).mono ?_; rintro e w' ⟨⟨k, rfl, hk, hk'⟩, rfl⟩)
  go_ret
  exact ⟨rfl, rfl⟩
theorem impl_ValidColours (n : Int) (xss : List (List Int)) (A : Option Addr) (c : Nat) (w : World) (h : Ints2 w A xss) (hl : xss.length ≤ 9223372036854775807) :
    Calls Tryd.prog 43 #[.agg #[.int .i64 n, .slice A xss.length c]] w fun e w' => e = .returned (.bool (coloursB n xss)) ∧ Below w.heap.size w w' := by
  have hmf : ∀ (fn : Fn) (first cap : Array Value) (w : World), (Instr.makeFunc fn first cap).run Tryd.prog w = .ok (.func fn first cap) w := fun _ _ _ _ => rfl
  by_cases hn : inR n 1 8 = true
  · by_cases h1 : xss.length < 1
    · have HF : Hid (coloursB n xss = false) := Lib.hid (by rw [coloursB, show inR xss.length 1 8 = false from by simp [inR]; omega]; simp)
      have d1 : decide ((xss.length : Int) < 1) = true := decide_eq_true (by omega)
      go_enter Tryd.func43, Tryd.ntmps43
      go_wp2_with (refine (impl_within _ _ _ _).mono ?_; rintro e _ ⟨rfl, rfl⟩)
      go_ret
      exact ⟨ret_bool HF.out.symm, by (repeat (first | exact Below.refl _ _ | assumption | apply Below.drew | apply below_drewN | (refine Below.alloc ?_ (by first | omega | (simp; done) | (simp; omega)) _) | (refine Below.setCell ?_ (by first | omega | (simp; done) | (simp; omega)) _)))⟩
    · have d1 : decide ((xss.length : Int) < 1) = false := decide_eq_false (by omega)
      by_cases h8 : 8 < xss.length
      · have HF : Hid (coloursB n xss = false) := Lib.hid (by rw [coloursB, show inR xss.length 1 8 = false from by simp [inR]; omega]; simp)
        have d2 : decide ((8 : Int) < (xss.length : Int)) = true := decide_eq_true (by omega)
        go_enter Tryd.func43, Tryd.ntmps43
        go_wp2_with (refine (impl_within _ _ _ _).mono ?_; rintro e _ ⟨rfl, rfl⟩)
        go_ret
        exact ⟨ret_bool HF.out.symm, by (repeat (first | exact Below.refl _ _ | assumption | apply Below.drew | apply below_drewN | (refine Below.alloc ?_ (by first | omega | (simp; done) | (simp; omega)) _) | (refine Below.setCell ?_ (by first | omega | (simp; done) | (simp; omega)) _)))⟩
      · have d2 : decide ((8 : Int) < (xss.length : Int)) = false := decide_eq_false (by omega)
        have HF : Hid (coloursB n xss = !(xss.any (fun r => !rowOfB n r))) := Lib.hid (by
          have : inR xss.length 1 8 = true := by simp [inR]; omega
          simp [coloursB, this, hn, List.all_eq_not_any_not])
        go_enter Tryd.func43, Tryd.ntmps43
        go_wp2_with (fail)
        refine (impl_within _ _ _ _).mono ?_; rintro e _ ⟨rfl, rfl⟩
        go_wp2_with (fail)
        refine (containsFunc_ValidColours_1 n _ _ _ _ _ _ (h.below (by (repeat (first | exact Below.refl _ _ | assumption | apply Below.drew | apply below_drewN | (refine Below.alloc ?_ (by first | omega | (simp; done) | (simp; omega)) _) | (refine Below.setCell ?_ (by first | omega | (simp; done) | (simp; omega)) _))))) hl (by simp)).mono ?_; rintro e _ ⟨rfl, rfl⟩
        go_wp2_with (fail)
        go_ret
        exact ⟨ret_bool HF.out.symm, by (repeat (first | exact Below.refl _ _ | assumption | apply Below.drew | apply below_drewN | (refine Below.alloc ?_ (by first | omega | (simp; done) | (simp; omega)) _) | (refine Below.setCell ?_ (by first | omega | (simp; done) | (simp; omega)) _)))⟩
  · have hn' : inR n 1 8 = false := by simpa using hn
    have HF : Hid (coloursB n xss = false) := Lib.hid (by simp [coloursB, hn'])
    clear hn
    go_enter Tryd.func43, Tryd.ntmps43
    go_wp2_with (refine (impl_within _ _ _ _).mono ?_; rintro e _ ⟨rfl, rfl⟩)
    go_ret
    exact ⟨ret_bool HF.out.symm, by (repeat (first | exact Below.refl _ _ | assumption | apply Below.drew | apply below_drewN | (refine Below.alloc ?_ (by first | omega | (simp; done) | (simp; omega)) _) | (refine Below.setCell ?_ (by first | omega | (simp; done) | (simp; omega)) _)))⟩

end Go.Proofs.YtcgbogofmdjddaaDoor

/- SameColours. -/
namespace Go.Proofs.YtcgbogofmdjddaaDoor
open Go.RowKit

theorem Drawn.trans {a b c : World} (h : Drawn a b) (k : Drawn b c) : Drawn a c := by
  obtain ⟨n, rfl⟩ := k
  exact h.drewN n


end Go.Proofs.YtcgbogofmdjddaaDoor

/- SameChart. -/
namespace Go.Proofs.YtcgbogofmdjddaaDoor
open Go.RowKit

theorem cell_alloc {w : World} {a : Addr} {v : Value} (h : w.cell? a = some v) (o : Obj) : (w.alloc o).cell? a = some v := cells_below (by (repeat (first | exact Below.refl _ _ | assumption | apply Below.drew | apply below_drewN | (refine Below.alloc ?_ (by first | omega | (simp; done) | (simp; omega)) _) | (refine Below.setCell ?_ (by first | omega | (simp; done) | (simp; omega)) _)))) _ _ h
def sameChartB (n m : Int) (xs ys : List RowD) : Bool := decide (n = m ∧ xs = ys)


end Go.Proofs.YtcgbogofmdjddaaDoor

/- CountColours. -/
namespace Go.Proofs.YtcgbogofmdjddaaDoor
open Go.RowKit

theorem zeros4 : (madeCells (Value.int .i64 0).cells (4 * 1)).toList = ([0, 0, 0, 0] : List Int).map (Value.int .i64) := by simp [madeCells, Value.cells]; rfl
def bump (cs : List Int) (x : Int) : List Int := cs.set (x - 1).toNat (wrap64 (cs[(x - 1).toNat]?.getD 0 + 1))
def bumpRow (cs row : List Int) : List Int := row.foldl bump cs
def countRows (xss : List (List Int)) : List Int := xss.foldl bumpRow [0, 0, 0, 0]
def countColours (n : Int) (xss : List (List Int)) : List Int := if coloursB n xss then countRows xss else []
theorem bumpRow_length (cs row : List Int) : (bumpRow cs row).length = cs.length := by
  unfold bumpRow
  induction row generalizing cs with
  | nil => rfl
  | cons x r ih => rw [List.foldl_cons, ih]; simp [bump]
theorem countRows_length (xss : List (List Int)) : (countRows xss).length = 4 := by
  unfold countRows
  suffices h : ∀ cs : List Int, (xss.foldl bumpRow cs).length = cs.length by rw [h]; rfl
  induction xss with
  | nil => intro cs; rfl
  | cons x r ih => intro cs; rw [List.foldl_cons, ih, bumpRow_length]
theorem countColours_length (n : Int) (xss : List (List Int)) : (countColours n xss).length ≤ 4 := by
  unfold countColours
  split
  · rw [countRows_length]; omega
  · simp
theorem bump_at {cs : List Int} {i : Nat} {v : Int} (h : cs[i]? = some v) : bump cs ((i : Int) + 1) = cs.set i (wrap64 (v + 1)) := by
  have : ((i : Int) + 1 - 1).toNat = i := by omega
  unfold bump
  rw [this, h]
  rfl
theorem colour_at {n : Int} {xss : List (List Int)} (h : coloursB n xss = true) {k j : Nat} {row : List Int} {x : Int} (hr : xss[k]? = some row) (hx : row[j]? = some x) : ∃ i : Nat, i < 4 ∧ x = (i : Int) + 1 := by
  unfold coloursB at h
  simp only [Bool.and_eq_true, List.all_eq_true] at h
  have h1 := h.2 row (List.mem_of_getElem? hr)
  unfold rowOfB at h1
  simp only [Bool.and_eq_true, List.all_eq_true] at h1
  have h2 := h1.2 x (List.mem_of_getElem? hx)
  unfold carrierB inR at h2
  simp at h2
  exact ⟨(x - 1).toNat, by omega, by omega⟩
theorem bumpRow_snoc {cs row : List Int} {j : Nat} {x : Int} (hx : row[j]? = some x) : bumpRow cs (row.take (j + 1)) = bump (bumpRow cs (row.take j)) x := by
  unfold bumpRow
  rw [take_snoc hx, List.foldl_append]
  rfl
theorem countRows_snoc {xss : List (List Int)} {j : Nat} {x : List Int} (hx : xss[j]? = some x) : countRows (xss.take (j + 1)) = bumpRow (countRows (xss.take j)) x := by
  unfold countRows
  rw [take_snoc hx, List.foldl_append]
  rfl


end Go.Proofs.YtcgbogofmdjddaaDoor

/- ValidPieces. -/
namespace Go.Proofs.YtcgbogofmdjddaaDoor
open Go.RowKit

def plainP (p : PieceD) : Bool := isStitchB p.kind && inR p.times 1 16 && decide (p.len = 0)
def groupP (d : Nat) (p : PieceD) (m : Nat) : Bool := inR p.times 0 16 && !(decide (p.times = 0) && decide (0 < d)) && inR p.len 1 m
def rangeP (d : Nat) : List PieceD → Option Nat
  | [] => some 0
  | p :: r =>
    if p.kind = 12 then
      if d < 3 ∧ groupP d p r.length = true then
        match rangeP (d + 1) (r.take p.len.toNat) with
        | none => none
        | some _ => (rangeP d (r.drop p.len.toNat)).map (fun o => (if p.times = 0 then 1 else 0) + o)
      else none
    else if plainP p then rangeP d r else none
termination_by l => l.length
decreasing_by all_goals (simp; try omega)
def okP : Option Nat → Bool
  | none => false
  | some o => decide (o ≤ 1)
def piecesB (ps : List PieceD) : Bool := decide (ps.length ≤ 24) && okP (rangeP 0 ps)
def segP (ps : List PieceD) (a b : Nat) : List PieceD := (ps.drop a).take (b - a)
theorem segP_nil (ps : List PieceD) (a : Nat) : segP ps a a = [] := by simp [segP]
theorem segP_all (ps : List PieceD) : segP ps 0 ps.length = ps := by simp [segP]
theorem segP_length {ps : List PieceD} {a b : Nat} (h : b ≤ ps.length) : (segP ps a b).length = b - a := by simp [segP]; omega
theorem segP_cons {ps : List PieceD} {a b : Nat} {p : PieceD} (hp : ps[a]? = some p) (h : a < b) : segP ps a b = p :: segP ps (a + 1) b := by
  unfold segP
  have ha : a < ps.length := by
    by_cases hlt : a < ps.length
    · exact hlt
    · rw [List.getElem?_eq_none (by omega)] at hp; cases hp
  rw [List.drop_eq_getElem_cons ha, show b - a = (b - (a + 1)) + 1 by omega, List.take_succ_cons]
  congr 1
  rw [List.getElem?_eq_getElem ha] at hp
  injection hp
theorem segP_take {ps : List PieceD} {a b n : Nat} (h : a + n ≤ b) : (segP ps a b).take n = segP ps a (a + n) := by
  unfold segP
  rw [List.take_take]
  congr 1
  omega
theorem segP_drop {ps : List PieceD} {a b n : Nat} : (segP ps a b).drop n = segP ps (a + n) b := by
  unfold segP
  rw [List.drop_take, List.drop_drop]
  congr 1
  omega
theorem rangeP_nil (d : Nat) : rangeP d [] = some 0 := by rw [rangeP]
theorem rangeP_plain {d : Nat} {p : PieceD} {r : List PieceD} (h : p.kind ≠ 12) (hp : plainP p = true) : rangeP d (p :: r) = rangeP d r := by rw [rangeP, if_neg h, if_pos hp]
theorem rangeP_bad {d : Nat} {p : PieceD} {r : List PieceD} (h : p.kind ≠ 12) (hp : plainP p = false) : rangeP d (p :: r) = none := by rw [rangeP, if_neg h, if_neg (by simp [hp])]
theorem rangeP_group {d : Nat} {p : PieceD} {r : List PieceD} (h : p.kind = 12) (hd : ¬ (d < 3 ∧ groupP d p r.length = true)) : rangeP d (p :: r) = none := by rw [rangeP, if_pos h, if_neg hd]
theorem rangeP_inner {d : Nat} {p : PieceD} {r : List PieceD} (h : p.kind = 12) (hi : rangeP (d + 1) (r.take p.len.toNat) = none) : rangeP d (p :: r) = none := by
  rw [rangeP, if_pos h]
  split
  · rw [hi]
  · rfl
theorem rangeP_open {d : Nat} {p : PieceD} {r : List PieceD} (h : p.kind = 12) (hd : d < 3) (hg : groupP d p r.length = true) (hi : (rangeP (d + 1) (r.take p.len.toNat)).isSome = true) : rangeP d (p :: r) = (rangeP d (r.drop p.len.toNat)).map (fun o => (if p.times = 0 then 1 else 0) + o) := by
  rw [rangeP, if_pos h, if_pos ⟨hd, hg⟩]
  split
  · rename_i e; rw [e] at hi; cases hi
  · rfl
theorem rangeP_zero (n d : Nat) (hd : 0 < d) : ∀ l : List PieceD, l.length ≤ n → ∀ o, rangeP d l = some o → o = 0 := by
  induction n with
  | zero =>
    intro l hl o h
    have : l = [] := by cases l <;> simp_all
    subst this
    rw [rangeP_nil] at h
    injection h with h
    exact h.symm
  | succ n ih =>
    intro l hl o h
    cases l with
    | nil => rw [rangeP_nil] at h; injection h with h; exact h.symm
    | cons p r =>
      simp at hl
      rw [rangeP] at h
      split at h
      · split at h
        · rename_i hg
          split at h
          · cases h
          · rw [Option.map_eq_some_iff] at h
            obtain ⟨o', ho', e⟩ := h
            have := ih _ (by simp; omega) o' ho'
            have ht : p.times ≠ 0 := by
              intro ht
              have := hg.2
              simp [groupP, ht, hd] at this
            rw [if_neg ht] at e
            omega
        · cases h
      · split at h
        · exact ih r hl o h
        · cases h
def openOf : Option Nat → Int
  | none => 0
  | some o => o

set_option maxHeartbeats 4000000 in
theorem spec_l16Range (ps : List PieceD) (A : Option Addr) (c : Nat) (hl : ps.length ≤ 1000) (m : Nat) : ∀ (a b d : Nat) (w : World), Pieces w A ps → b - a ≤ m → a ≤ b → b ≤ ps.length → d ≤ 3 →
    Calls Tryd.prog 81 #[.slice A ps.length c, .int .i64 a, .int .i64 b, .int .i64 d] w fun e w' => e = .returned (.tuple #[.int .i64 (openOf (rangeP d (segP ps a b))), .bool (rangeP d (segP ps a b)).isSome]) ∧ Below w.heap.size w w' := by
  induction m using Nat.strongRecOn with
  | ind m ih =>
  intro a b d w h hm hab hbl hd
  have IH := Lib.hid ih; clear ih
  go_enter Tryd.func81, Tryd.ntmps81
  go_wp2_with (fail)
  go_loopw [10, 11] (fun ov iv wr => ∃ (k o : Nat), a ≤ k ∧ k ≤ b ∧ o ≤ k ∧ ov = .int .i64 o ∧ iv = .int .i64 k ∧ rangeP d (segP ps a b) = (rangeP d (segP ps k b)).map (fun q => o + q) ∧ Below w.heap.size w wr) (fun _ iv _ => b - (intOf iv).toNat)
  case atStart => exact ⟨a, 0, Nat.le_refl _, hab, Nat.zero_le _, rfl, rfl, by simp, Below.refl _ _⟩
  case round =>
    obtain ⟨k, o, hak, hkb, hok, rfl, rfl, hr, hb⟩ := hrel
    have HR := Lib.hid hr; clear hr
    have hz := hb.size
    by_cases hlt : k < b
    · obtain ⟨b1, off, p, rfl, hp, p0, p1, p2⟩ := (h.below hb) k (by omega)
      have HS : Hid (segP ps k b = p :: segP ps (k + 1) b) := Lib.hid (segP_cons hp hlt)
      have HP := Lib.hid hp; clear hp
      have j1 : (0 : Int) ≤ (k : Int) := by omega
      have j2 : (k : Int) < (ps.length : Int) := by omega
      by_cases hk : p.kind = 12
      · have hk' : (p.kind != 12) = false := by simp [hk]
        have HL : Hid ((segP ps (k + 1) b).length = b - (k + 1)) := Lib.hid (segP_length hbl)
        have hcast : ((b - (k + 1) : Nat) : Int) = (b : Int) - (k : Int) - 1 := by omega
        have HG : Hid (groupP d p (segP ps (k + 1) b).length = (inR p.times 0 16 && !(decide (p.times = 0) && decide (0 < d)) && inR p.len 1 ((b : Int) - (k : Int) - 1))) := Lib.hid (by rw [HL.out, groupP, hcast])
        clear hcast
        by_cases hd3 : d < 3
        · have hd3' : decide ((3 : Int) ≤ (d : Int)) = false := decide_eq_false (by omega)
          cases ht : inR p.times 0 16
          · have HN : Hid (rangeP d (segP ps a b) = none) := Lib.hid (by rw [HR.out, HS.out, rangeP_group hk (by rw [HG.out, ht]; simp)]; rfl)
            clear hk
            set_option maxRecDepth 10000 in go_wp2_with (first | (go_at_call 92; refine (spec_l14Kind _ _).mono ?_; rintro e _ ⟨rfl, rfl⟩) | (go_at_call 39; refine (spec_l00In _ _ _ _).mono ?_; rintro e _ ⟨rfl, rfl⟩))
            go_ret2
            rw [HN.out]
            exact ⟨rfl, by (repeat (first | exact Below.refl _ _ | assumption | apply Below.drew | apply below_drewN | (refine Below.alloc ?_ (by first | omega | (simp; done) | (simp; omega)) _) | (refine Below.setCell ?_ (by first | omega | (simp; done) | (simp; omega)) _)))⟩
          · by_cases h0 : p.times = 0
            · have h0' : (p.times == 0) = true := by simp [h0]
              by_cases hd0 : 0 < d
              · have hd0' : decide ((0 : Int) < (d : Int)) = true := decide_eq_true (by omega)
                have HN : Hid (rangeP d (segP ps a b) = none) := Lib.hid (by rw [HR.out, HS.out, rangeP_group hk (by rw [HG.out, h0]; simp [hd0])]; rfl)
                clear hk h0
                set_option maxRecDepth 10000 in go_wp2_with (first | (go_at_call 92; refine (spec_l14Kind _ _).mono ?_; rintro e _ ⟨rfl, rfl⟩) | (go_at_call 39; refine (spec_l00In _ _ _ _).mono ?_; rintro e _ ⟨rfl, rfl⟩))
                go_ret2
                rw [HN.out]
                exact ⟨rfl, by (repeat (first | exact Below.refl _ _ | assumption | apply Below.drew | apply below_drewN | (refine Below.alloc ?_ (by first | omega | (simp; done) | (simp; omega)) _) | (refine Below.setCell ?_ (by first | omega | (simp; done) | (simp; omega)) _)))⟩
              · have hd0' : decide ((0 : Int) < (d : Int)) = false := decide_eq_false (by omega)
                cases hn : inR p.len 1 ((b : Int) - (k : Int) - 1)
                · have HN : Hid (rangeP d (segP ps a b) = none) := Lib.hid (by rw [HR.out, HS.out, rangeP_group hk (by rw [HG.out, hn]; simp)]; rfl)
                  clear hk h0
                  set_option maxRecDepth 10000 in go_wp2_with (first | (go_at_call 92; refine (spec_l14Kind _ _).mono ?_; rintro e _ ⟨rfl, rfl⟩) | (go_at_call 39; refine (spec_l00In _ _ _ _).mono ?_; rintro e _ ⟨rfl, rfl⟩))
                  go_ret2
                  rw [HN.out]
                  exact ⟨rfl, by (repeat (first | exact Below.refl _ _ | assumption | apply Below.drew | apply below_drewN | (refine Below.alloc ?_ (by first | omega | (simp; done) | (simp; omega)) _) | (refine Below.setCell ?_ (by first | omega | (simp; done) | (simp; omega)) _)))⟩
                · have HGT : Hid (groupP d p (segP ps (k + 1) b).length = true) := Lib.hid (by rw [HG.out, ht, hn]; simp; omega)
                  have h1 : 1 ≤ p.len ∧ p.len ≤ (b : Int) - (k : Int) - 1 := by simpa [inR] using hn
                  obtain ⟨n, hnl⟩ : ∃ n : Nat, p.len = (n : Int) := ⟨p.len.toNat, by omega⟩
                  have HNL := Lib.hid hnl
                  rw [hnl] at p2 hn h1
                  clear hnl
                  have hlen : k + 1 + n ≤ b := by omega
                  have HT : Hid ((segP ps (k + 1) b).take p.len.toNat = segP ps (k + 1) (k + 1 + n)) := Lib.hid (by rw [HNL.out]; exact segP_take hlen)
                  have HD : Hid ((segP ps (k + 1) b).drop p.len.toNat = segP ps (k + 1 + n) b) := Lib.hid (by rw [HNL.out]; exact segP_drop)
                  have HIC : Hid (∀ w2, Pieces w2 _ ps → _) := Lib.hid (fun w2 (h2 : Pieces w2 (some ⟨b1, off, none⟩) ps) => IH.out n (by omega) (k + 1) (k + 1 + n) (d + 1) w2 h2 (by omega) (by omega) (by omega) (by omega))
                  have f1 : ((k + 1 : Nat) : Int) = (k : Int) + 1 := by omega
                  have f2 : ((k + 1 + n : Nat) : Int) = (k : Int) + 1 + (n : Int) := by omega
                  have f3 : ((d + 1 : Nat) : Int) = (d : Int) + 1 := by omega
                  rw [f1, f2, f3] at HIC
                  clear f1 f2 f3
                  cases hin : (rangeP (d + 1) (segP ps (k + 1) (k + 1 + n))).isSome
                  · have HN : Hid (rangeP d (segP ps a b) = none) := Lib.hid (by rw [HR.out, HS.out, rangeP_inner hk (by rw [HT.out]; simpa using hin)]; rfl)
                    clear hk h0
                    set_option maxRecDepth 10000 in go_wp2_with (first | (go_at_call 92; refine (spec_l14Kind _ _).mono ?_; rintro e _ ⟨rfl, rfl⟩) | (go_at_call 39; refine (spec_l00In _ _ _ _).mono ?_; rintro e _ ⟨rfl, rfl⟩))
                    refine (HIC.out _ (h.below (by (repeat (first | exact Below.refl _ _ | assumption | apply Below.drew | apply below_drewN | (refine Below.alloc ?_ (by first | omega | (simp; done) | (simp; omega)) _) | (refine Below.setCell ?_ (by first | omega | (simp; done) | (simp; omega)) _)))))).mono ?_; rintro e w2 ⟨rfl, b2⟩
                    simp only [World.size_alloc] at b2
                    have k2 : Blk w2 wr.heap.size 45 #[.int .i64 p.kind, .int .i64 p.times, .int .i64 (n : Int)] := (Blk.new _ _ _).below b2 (by first | omega | (simp; done) | (simp; omega))
                    obtain ⟨s0, s1, s2⟩ := k2.c3
                    have hb2 : Below w.heap.size w w2 := Below.trans (by (repeat (first | exact Below.refl _ _ | assumption | apply Below.drew | apply below_drewN | (refine Below.alloc ?_ (by first | omega | (simp; done) | (simp; omega)) _) | (refine Below.setCell ?_ (by first | omega | (simp; done) | (simp; omega)) _)))) (b2.mono (by first | omega | (simp; done) | (simp; omega)))
                    set_option maxRecDepth 10000 in go_wp2_with (first | (go_at_call 92; refine (spec_l14Kind _ _).mono ?_; rintro e _ ⟨rfl, rfl⟩) | (go_at_call 39; refine (spec_l00In _ _ _ _).mono ?_; rintro e _ ⟨rfl, rfl⟩))
                    go_ret2
                    rw [HN.out]
                    exact ⟨rfl, hb2⟩
                  · have HQ : Hid (rangeP d (segP ps a b) = (rangeP d (segP ps (k + 1 + n) b)).map (fun q => (o + 1) + q)) := Lib.hid (by rw [HR.out, HS.out, rangeP_open hk hd3 HGT.out (by rw [HT.out]; exact hin), HD.out, Option.map_map]; congr 1; funext q; simp [h0]; omega)
                    clear hk h0
                    set_option maxRecDepth 10000 in go_wp2_with (first | (go_at_call 92; refine (spec_l14Kind _ _).mono ?_; rintro e _ ⟨rfl, rfl⟩) | (go_at_call 39; refine (spec_l00In _ _ _ _).mono ?_; rintro e _ ⟨rfl, rfl⟩))
                    refine (HIC.out _ (h.below (by (repeat (first | exact Below.refl _ _ | assumption | apply Below.drew | apply below_drewN | (refine Below.alloc ?_ (by first | omega | (simp; done) | (simp; omega)) _) | (refine Below.setCell ?_ (by first | omega | (simp; done) | (simp; omega)) _)))))).mono ?_; rintro e w2 ⟨rfl, b2⟩
                    simp only [World.size_alloc] at b2
                    have k2 : Blk w2 wr.heap.size 45 #[.int .i64 p.kind, .int .i64 p.times, .int .i64 (n : Int)] := (Blk.new _ _ _).below b2 (by first | omega | (simp; done) | (simp; omega))
                    obtain ⟨s0, s1, s2⟩ := k2.c3
                    have hb2 : Below w.heap.size w w2 := Below.trans (by (repeat (first | exact Below.refl _ _ | assumption | apply Below.drew | apply below_drewN | (refine Below.alloc ?_ (by first | omega | (simp; done) | (simp; omega)) _) | (refine Below.setCell ?_ (by first | omega | (simp; done) | (simp; omega)) _)))) (b2.mono (by first | omega | (simp; done) | (simp; omega)))
                    set_option maxRecDepth 10000 in go_wp2_with (first | (go_at_call 92; refine (spec_l14Kind _ _).mono ?_; rintro e _ ⟨rfl, rfl⟩) | (go_at_call 39; refine (spec_l00In _ _ _ _).mono ?_; rintro e _ ⟨rfl, rfl⟩))
                    exact ⟨⟨k + 1 + n, o + 1, by omega, by omega, by omega, by go_num, by go_num, HQ.out, hb2⟩, by simp [intOf]; omega⟩
            · have h0' : (p.times == 0) = false := by simpa using h0
              cases hn : inR p.len 1 ((b : Int) - (k : Int) - 1)
              · have HN : Hid (rangeP d (segP ps a b) = none) := Lib.hid (by rw [HR.out, HS.out, rangeP_group hk (by rw [HG.out, hn]; simp)]; rfl)
                clear hk h0
                set_option maxRecDepth 10000 in go_wp2_with (first | (go_at_call 92; refine (spec_l14Kind _ _).mono ?_; rintro e _ ⟨rfl, rfl⟩) | (go_at_call 39; refine (spec_l00In _ _ _ _).mono ?_; rintro e _ ⟨rfl, rfl⟩))
                go_ret2
                rw [HN.out]
                exact ⟨rfl, by (repeat (first | exact Below.refl _ _ | assumption | apply Below.drew | apply below_drewN | (refine Below.alloc ?_ (by first | omega | (simp; done) | (simp; omega)) _) | (refine Below.setCell ?_ (by first | omega | (simp; done) | (simp; omega)) _)))⟩
              · have HGT : Hid (groupP d p (segP ps (k + 1) b).length = true) := Lib.hid (by rw [HG.out, ht, hn]; simp [h0])
                have h1 : 1 ≤ p.len ∧ p.len ≤ (b : Int) - (k : Int) - 1 := by simpa [inR] using hn
                obtain ⟨n, hnl⟩ : ∃ n : Nat, p.len = (n : Int) := ⟨p.len.toNat, by omega⟩
                have HNL := Lib.hid hnl
                rw [hnl] at p2 hn h1
                clear hnl
                have hlen : k + 1 + n ≤ b := by omega
                have HT : Hid ((segP ps (k + 1) b).take p.len.toNat = segP ps (k + 1) (k + 1 + n)) := Lib.hid (by rw [HNL.out]; exact segP_take hlen)
                have HD : Hid ((segP ps (k + 1) b).drop p.len.toNat = segP ps (k + 1 + n) b) := Lib.hid (by rw [HNL.out]; exact segP_drop)
                have HIC : Hid (∀ w2, Pieces w2 _ ps → _) := Lib.hid (fun w2 (h2 : Pieces w2 (some ⟨b1, off, none⟩) ps) => IH.out n (by omega) (k + 1) (k + 1 + n) (d + 1) w2 h2 (by omega) (by omega) (by omega) (by omega))
                have f1 : ((k + 1 : Nat) : Int) = (k : Int) + 1 := by omega
                have f2 : ((k + 1 + n : Nat) : Int) = (k : Int) + 1 + (n : Int) := by omega
                have f3 : ((d + 1 : Nat) : Int) = (d : Int) + 1 := by omega
                rw [f1, f2, f3] at HIC
                clear f1 f2 f3
                cases hin : (rangeP (d + 1) (segP ps (k + 1) (k + 1 + n))).isSome
                · have HN : Hid (rangeP d (segP ps a b) = none) := Lib.hid (by rw [HR.out, HS.out, rangeP_inner hk (by rw [HT.out]; simpa using hin)]; rfl)
                  clear hk h0
                  set_option maxRecDepth 10000 in go_wp2_with (first | (go_at_call 92; refine (spec_l14Kind _ _).mono ?_; rintro e _ ⟨rfl, rfl⟩) | (go_at_call 39; refine (spec_l00In _ _ _ _).mono ?_; rintro e _ ⟨rfl, rfl⟩))
                  refine (HIC.out _ (h.below (by (repeat (first | exact Below.refl _ _ | assumption | apply Below.drew | apply below_drewN | (refine Below.alloc ?_ (by first | omega | (simp; done) | (simp; omega)) _) | (refine Below.setCell ?_ (by first | omega | (simp; done) | (simp; omega)) _)))))).mono ?_; rintro e w2 ⟨rfl, b2⟩
                  simp only [World.size_alloc] at b2
                  have k2 : Blk w2 wr.heap.size 45 #[.int .i64 p.kind, .int .i64 p.times, .int .i64 (n : Int)] := (Blk.new _ _ _).below b2 (by first | omega | (simp; done) | (simp; omega))
                  obtain ⟨s0, s1, s2⟩ := k2.c3
                  have hb2 : Below w.heap.size w w2 := Below.trans (by (repeat (first | exact Below.refl _ _ | assumption | apply Below.drew | apply below_drewN | (refine Below.alloc ?_ (by first | omega | (simp; done) | (simp; omega)) _) | (refine Below.setCell ?_ (by first | omega | (simp; done) | (simp; omega)) _)))) (b2.mono (by first | omega | (simp; done) | (simp; omega)))
                  set_option maxRecDepth 10000 in go_wp2_with (first | (go_at_call 92; refine (spec_l14Kind _ _).mono ?_; rintro e _ ⟨rfl, rfl⟩) | (go_at_call 39; refine (spec_l00In _ _ _ _).mono ?_; rintro e _ ⟨rfl, rfl⟩))
                  go_ret2
                  rw [HN.out]
                  exact ⟨rfl, hb2⟩
                · have HQ : Hid (rangeP d (segP ps a b) = (rangeP d (segP ps (k + 1 + n) b)).map (fun q => (o) + q)) := Lib.hid (by rw [HR.out, HS.out, rangeP_open hk hd3 HGT.out (by rw [HT.out]; exact hin), HD.out, Option.map_map]; congr 1; funext q; simp [h0])
                  clear hk h0
                  set_option maxRecDepth 10000 in go_wp2_with (first | (go_at_call 92; refine (spec_l14Kind _ _).mono ?_; rintro e _ ⟨rfl, rfl⟩) | (go_at_call 39; refine (spec_l00In _ _ _ _).mono ?_; rintro e _ ⟨rfl, rfl⟩))
                  refine (HIC.out _ (h.below (by (repeat (first | exact Below.refl _ _ | assumption | apply Below.drew | apply below_drewN | (refine Below.alloc ?_ (by first | omega | (simp; done) | (simp; omega)) _) | (refine Below.setCell ?_ (by first | omega | (simp; done) | (simp; omega)) _)))))).mono ?_; rintro e w2 ⟨rfl, b2⟩
                  simp only [World.size_alloc] at b2
                  have k2 : Blk w2 wr.heap.size 45 #[.int .i64 p.kind, .int .i64 p.times, .int .i64 (n : Int)] := (Blk.new _ _ _).below b2 (by first | omega | (simp; done) | (simp; omega))
                  obtain ⟨s0, s1, s2⟩ := k2.c3
                  have hb2 : Below w.heap.size w w2 := Below.trans (by (repeat (first | exact Below.refl _ _ | assumption | apply Below.drew | apply below_drewN | (refine Below.alloc ?_ (by first | omega | (simp; done) | (simp; omega)) _) | (refine Below.setCell ?_ (by first | omega | (simp; done) | (simp; omega)) _)))) (b2.mono (by first | omega | (simp; done) | (simp; omega)))
                  set_option maxRecDepth 10000 in go_wp2_with (first | (go_at_call 92; refine (spec_l14Kind _ _).mono ?_; rintro e _ ⟨rfl, rfl⟩) | (go_at_call 39; refine (spec_l00In _ _ _ _).mono ?_; rintro e _ ⟨rfl, rfl⟩))
                  exact ⟨⟨k + 1 + n, o, by omega, by omega, by omega, by go_num, by go_num, HQ.out, hb2⟩, by simp [intOf]; omega⟩
        · have hd3' : decide ((3 : Int) ≤ (d : Int)) = true := decide_eq_true (by omega)
          have HN : Hid (rangeP d (segP ps a b) = none) := Lib.hid (by rw [HR.out, HS.out, rangeP_group hk (by omega)]; rfl)
          clear hk
          set_option maxRecDepth 10000 in go_wp2_with (first | (go_at_call 92; refine (spec_l14Kind _ _).mono ?_; rintro e _ ⟨rfl, rfl⟩) | (go_at_call 39; refine (spec_l00In _ _ _ _).mono ?_; rintro e _ ⟨rfl, rfl⟩))
          go_ret2
          rw [HN.out]
          exact ⟨rfl, by (repeat (first | exact Below.refl _ _ | assumption | apply Below.drew | apply below_drewN | (refine Below.alloc ?_ (by first | omega | (simp; done) | (simp; omega)) _) | (refine Below.setCell ?_ (by first | omega | (simp; done) | (simp; omega)) _)))⟩
      · have hk' : (p.kind != 12) = true := by simpa using hk
        cases t1 : isStitchB p.kind
        · have HN : Hid (rangeP d (segP ps a b) = none) := Lib.hid (by rw [HR.out, HS.out, rangeP_bad hk (by simp [plainP, t1])]; rfl)
          clear hk
          set_option maxRecDepth 10000 in go_wp2_with (first | (go_at_call 92; refine (spec_l14Kind _ _).mono ?_; rintro e _ ⟨rfl, rfl⟩) | (go_at_call 39; refine (spec_l00In _ _ _ _).mono ?_; rintro e _ ⟨rfl, rfl⟩))
          go_ret2
          rw [HN.out]
          exact ⟨rfl, by (repeat (first | exact Below.refl _ _ | assumption | apply Below.drew | apply below_drewN | (refine Below.alloc ?_ (by first | omega | (simp; done) | (simp; omega)) _) | (refine Below.setCell ?_ (by first | omega | (simp; done) | (simp; omega)) _)))⟩
        · cases t2 : inR p.times 1 16
          · have HN : Hid (rangeP d (segP ps a b) = none) := Lib.hid (by rw [HR.out, HS.out, rangeP_bad hk (by simp [plainP, t2])]; rfl)
            clear hk
            set_option maxRecDepth 10000 in go_wp2_with (first | (go_at_call 92; refine (spec_l14Kind _ _).mono ?_; rintro e _ ⟨rfl, rfl⟩) | (go_at_call 39; refine (spec_l00In _ _ _ _).mono ?_; rintro e _ ⟨rfl, rfl⟩))
            go_ret2
            rw [HN.out]
            exact ⟨rfl, by (repeat (first | exact Below.refl _ _ | assumption | apply Below.drew | apply below_drewN | (refine Below.alloc ?_ (by first | omega | (simp; done) | (simp; omega)) _) | (refine Below.setCell ?_ (by first | omega | (simp; done) | (simp; omega)) _)))⟩
          · by_cases t3 : p.len = 0
            · have HPL : Hid (rangeP d (segP ps k b) = rangeP d (segP ps (k + 1) b)) := Lib.hid (by rw [HS.out, rangeP_plain hk (by simp [plainP, t1, t2, t3])])
              have t3' : (p.len != 0) = false := by simp [t3]
              clear t3 hk
              set_option maxRecDepth 10000 in go_wp2_with (first | (go_at_call 92; refine (spec_l14Kind _ _).mono ?_; rintro e _ ⟨rfl, rfl⟩) | (go_at_call 39; refine (spec_l00In _ _ _ _).mono ?_; rintro e _ ⟨rfl, rfl⟩))
              exact ⟨⟨k + 1, o, by omega, by omega, by omega, rfl, by go_num, by rw [HR.out, HPL.out], by (repeat (first | exact Below.refl _ _ | assumption | apply Below.drew | apply below_drewN | (refine Below.alloc ?_ (by first | omega | (simp; done) | (simp; omega)) _) | (refine Below.setCell ?_ (by first | omega | (simp; done) | (simp; omega)) _)))⟩, by simp [intOf]; omega⟩
            · have t3' : (p.len != 0) = true := by simpa using t3
              have HN : Hid (rangeP d (segP ps a b) = none) := Lib.hid (by rw [HR.out, HS.out, rangeP_bad hk (by simp [plainP, t3])]; rfl)
              clear hk t3
              set_option maxRecDepth 10000 in go_wp2_with (first | (go_at_call 92; refine (spec_l14Kind _ _).mono ?_; rintro e _ ⟨rfl, rfl⟩) | (go_at_call 39; refine (spec_l00In _ _ _ _).mono ?_; rintro e _ ⟨rfl, rfl⟩))
              go_ret2
              rw [HN.out]
              exact ⟨rfl, by (repeat (first | exact Below.refl _ _ | assumption | apply Below.drew | apply below_drewN | (refine Below.alloc ?_ (by first | omega | (simp; done) | (simp; omega)) _) | (refine Below.setCell ?_ (by first | omega | (simp; done) | (simp; omega)) _)))⟩
    · go_wp2_with (fail)
      go_ret2
      have : k = b := by omega
      subst this
      have e := HR.out
      rw [segP_nil, rangeP_nil] at e
      rw [e]
      exact ⟨rfl, hb⟩

end Go.Proofs.YtcgbogofmdjddaaDoor

/- Rows of stitches and stacks: the plain functions. -/
namespace Go.Proofs.YtcgbogofmdjddaaDoor
open Go.RowKit

def takenN (k : Int) : Nat := ([1, 1, 0, 2, 2, 1, 1, 2, 2, 4, 4] : List Nat)[(k - 1).toNat]?.getD 0
def madeN (k : Int) : Nat := ([1, 1, 1, 1, 1, 1, 1, 2, 2, 4, 4] : List Nat)[(k - 1).toNat]?.getD 0
def takenB (k : Int) : Int := if isStitchB k then takenN k else -1
def madeB (k : Int) : Int := if isStitchB k then madeN k else -1
def takenS : List Int → Nat
  | [] => 0
  | k :: ks => takenN k + takenS ks
def madeS : List Int → Nat
  | [] => 0
  | k :: ks => madeN k + madeS ks
def takenP (ks : List Int) : Int := if stitchesB ks then takenS ks else -1
def madeP (ks : List Int) : Int := if stitchesB ks then madeS ks else -1
def st0 (st : List Int) : Int := st[0]?.getD 0
def st1 (st : List Int) : Int := st[1]?.getD 0
def stepMade (k : Int) (st : List Int) : List Int := if k = 6 then [wrap64 (st0 st + 1)] else if k = 7 then [st0 st] else List.replicate (madeN k) 1
def stepOk (k : Int) (st : List Int) : Bool := if k = 6 then decide (st0 st < 4) else if k = 4 ∨ k = 5 then decide (st0 st + st1 st ≤ 4) else true
def stepThick (k : Int) (st : List Int) : Bool := decide (k = 4 ∨ k = 5) && decide (4 < st0 st + st1 st)
def afterP : List Int → List Int → List Int
  | [], _ => []
  | k :: ks, st => stepMade k st ++ afterP ks (st.drop (takenN k))
def okAfter : List Int → List Int → Bool
  | [], _ => true
  | k :: ks, st => stepOk k st && okAfter ks (st.drop (takenN k))
def thickP : List Int → List Int → Bool
  | [], _ => false
  | k :: ks, st => stepThick k st || thickP ks (st.drop (takenN k))
def stacksAfterP (st ks : List Int) : List Int × Int :=
  if stacksB st && stitchesB ks then (if takenS ks = st.length then (if okAfter ks st && decide ((afterP ks st).length ≤ 8) then (afterP ks st, 0) else ([], 5)) else ([], 10)) else ([], 1)

theorem takenS_append (a b : List Int) : takenS (a ++ b) = takenS a + takenS b := by
  induction a with
  | nil => simp [takenS]
  | cons x r ih => simp [takenS, ih]; omega
theorem madeS_append (a b : List Int) : madeS (a ++ b) = madeS a + madeS b := by
  induction a with
  | nil => simp [madeS]
  | cons x r ih => simp [madeS, ih]; omega
theorem takenS_snoc {ks : List Int} {i : Nat} {k : Int} (h : ks[i]? = some k) : takenS (ks.take (i + 1)) = takenS (ks.take i) + takenN k := by
  rw [take_snoc h, takenS_append]; simp [takenS]
theorem madeS_snoc {ks : List Int} {i : Nat} {k : Int} (h : ks[i]? = some k) : madeS (ks.take (i + 1)) = madeS (ks.take i) + madeN k := by
  rw [take_snoc h, madeS_append]; simp [madeS]
theorem takenS_take_le (ks : List Int) (i : Nat) : takenS (ks.take i) ≤ takenS ks := by
  have := takenS_append (ks.take i) (ks.drop i)
  rw [List.take_append_drop] at this
  omega
theorem takenS_at {ks : List Int} {i : Nat} {k : Int} (h : ks[i]? = some k) : takenS (ks.take i) + takenN k ≤ takenS ks := by
  rw [← takenS_snoc h]; exact takenS_take_le _ _
theorem stitch_cases {k : Int} (h : isStitchB k = true) : k = 1 ∨ k = 2 ∨ k = 3 ∨ k = 4 ∨ k = 5 ∨ k = 6 ∨ k = 7 ∨ k = 8 ∨ k = 9 ∨ k = 10 ∨ k = 11 := by
  obtain ⟨h1, h2⟩ := inR_iff.1 h
  omega
theorem takenN_le (k : Int) (h : isStitchB k = true) : takenN k ≤ 4 ∧ madeN k ≤ 4 ∧ 1 ≤ madeN k := by
  rcases stitch_cases h with rfl | rfl | rfl | rfl | rfl | rfl | rfl | rfl | rfl | rfl | rfl <;> decide
theorem stitchesB_of {ks : List Int} (h : stitchesB ks = true) : ks.length ≤ 16 ∧ ∀ k ∈ ks, isStitchB k = true := by
  unfold stitchesB at h
  simp only [Bool.and_eq_true, List.all_eq_true, decide_eq_true_eq] at h
  exact ⟨h.2, h.1⟩
theorem sums_le {ks : List Int} (h : ∀ k ∈ ks, isStitchB k = true) : takenS ks ≤ 4 * ks.length ∧ madeS ks ≤ 4 * ks.length := by
  induction ks with
  | nil => simp [takenS, madeS]
  | cons k ks ih =>
    have h1 := takenN_le k (h k (by simp))
    have h2 := ih fun x hx => h x (by simp [hx])
    simp [takenS, madeS]
    omega
theorem afterP_length_le {ks : List Int} (h : ∀ k ∈ ks, isStitchB k = true) (st : List Int) : (afterP ks st).length ≤ 4 * ks.length := by
  induction ks generalizing st with
  | nil => simp [afterP]
  | cons k ks ih =>
    have h1 := takenN_le k (h k (by simp))
    have h2 := ih (fun x hx => h x (by simp [hx])) (st.drop (takenN k))
    have h3 : (stepMade k st).length ≤ 4 := by
      unfold stepMade
      split
      · simp
      · split
        · simp
        · simp; omega
    simp [afterP]
    omega
theorem decide_lt_le (a b : Int) : decide (a < b) = !decide (b ≤ a) := by
  apply Bool.eq_iff_iff.2; simp
theorem stacks_after {ks : List Int} (h : ∀ k ∈ ks, isStitchB k = true) (st : List Int) (hs : ∀ x ∈ st, inR x 1 4 = true) (hl : takenS ks ≤ st.length) :
    ((afterP ks st).all (inR · 1 4) && !thickP ks st) = okAfter ks st := by
  induction ks generalizing st with
  | nil => rfl
  | cons k ks ih =>
    simp only [takenS] at hl
    have ih' := ih (fun x hx => h x (by simp [hx])) (st.drop (takenN k)) (fun x hx => hs x (List.mem_of_mem_drop hx)) (by rw [List.length_drop]; omega)
    have hk := h k (by simp)
    have key : ((stepMade k st).all (inR · 1 4) && !stepThick k st) = stepOk k st := by
      have at0 : 1 ≤ takenN k → 1 ≤ st0 st ∧ st0 st ≤ 4 := by
        intro h1
        have : 0 < st.length := by omega
        have e : st[0]? = some st[0] := List.getElem?_eq_getElem this
        have := inR_iff.1 (hs _ (List.mem_of_getElem? e))
        unfold st0
        rw [e]
        exact this
      rcases stitch_cases hk with rfl | rfl | rfl | rfl | rfl | rfl | rfl | rfl | rfl | rfl | rfl
      case inr.inr.inr.inr.inr.inl =>
        obtain ⟨h1, h2⟩ := at0 (by decide)
        have hw : wrap64 (st0 st + 1) = st0 st + 1 := IntWalk.wrap64_in _ ⟨by omega, by omega⟩
        simp [stepMade, stepThick, stepOk, hw, inR]
        apply Bool.eq_iff_iff.2
        simp
        omega
      case inr.inr.inr.inr.inr.inr.inl =>
        obtain ⟨h1, h2⟩ := at0 (by decide)
        simp [stepMade, stepThick, stepOk, inR, h1, h2]
      case inr.inr.inr.inl =>
        simp [stepMade, stepThick, stepOk, inR, madeN]
        exact decide_lt_le _ _
      case inr.inr.inr.inr.inl =>
        simp [stepMade, stepThick, stepOk, inR, madeN]
        exact decide_lt_le _ _
      all_goals simp [stepMade, stepThick, stepOk, inR, madeN]
    rw [afterP, okAfter, thickP, List.all_append, ← ih', ← key]
    cases (stepMade k st).all (inR · 1 4) <;> cases stepThick k st <;> cases (afterP ks (st.drop (takenN k))).all (inR · 1 4) <;> cases thickP ks (st.drop (takenN k)) <;> rfl
theorem stacksB_of {st : List Int} (h : stacksB st = true) : st.length ≤ 8 ∧ ∀ x ∈ st, inR x 1 4 = true := by
  unfold stacksB at h
  simp only [Bool.and_eq_true, List.all_eq_true, decide_eq_true_eq] at h
  exact ⟨h.2, h.1⟩
theorem stacksAfterP_spec {st ks : List Int} (h1 : stacksB st = true) (h2 : stitchesB ks = true) (h3 : takenS ks = st.length) :
    stacksAfterP st ks = if stacksB (afterP ks st) && !thickP ks st then (afterP ks st, 0) else ([], 5) := by
  have h := stacks_after (stitchesB_of h2).2 st (stacksB_of h1).2 (by omega)
  unfold stacksAfterP
  rw [h1, h2]
  simp only [Bool.and_true, if_true, h3]
  rw [← h]
  have : (stacksB (afterP ks st) && !thickP ks st) = (((afterP ks st).all (inR · 1 4) && !thickP ks st) && decide ((afterP ks st).length ≤ 8)) := by
    unfold stacksB
    cases (afterP ks st).all (inR · 1 4) <;> cases thickP ks st <;> simp
  rw [this]
theorem stacksAfterP_length (st ks : List Int) : (stacksAfterP st ks).1.length ≤ 8 := by
  unfold stacksAfterP
  split
  · split
    · split
      · rename_i h
        simp only [Bool.and_eq_true, decide_eq_true_eq] at h
        exact h.2
      · simp
    · simp
  · simp
theorem takenB_of {k : Int} (h : isStitchB k = true) : takenB k = takenN k := by rw [takenB, if_pos h]
theorem madeB_of {k : Int} (h : isStitchB k = true) : madeB k = madeN k := by rw [madeB, if_pos h]
/-- The letters of a stitch on columns from c on. -/
def stLetters (k c : Int) : List Int :=
  if k = 8 then [c + 1] else if k = 9 ∨ k = 5 then [-c - 1] else if k = 10 then [c + 2, c + 1, c + 3, c + 2] else if k = 11 then [-c - 2, -c - 1, -c - 3, -c - 2] else []
def lettersFrom : List Int → Int → List Int
  | [], _ => []
  | k :: ks, c => stLetters k c ++ lettersFrom ks (c + takenN k)
def laidB (ks : List Int) : Bool := inR (takenP ks) 1 8 && inR (madeP ks) 1 8
def rowCodeP (d r : Int) (ks : List Int) : Int := if rowB d r ks then (if laidB ks then 0 else 10) else 1
def rowLettersP (d r : Int) (ks : List Int) : List Int := if rowCodeP d r ks = 0 then lettersFrom ks 0 else []
theorem stLetters_length (k c : Int) : (stLetters k c).length ≤ 4 := by
  unfold stLetters
  split <;> (try split) <;> (try split) <;> (try split) <;> simp
theorem lettersFrom_length (ks : List Int) (c : Int) : (lettersFrom ks c).length ≤ 4 * ks.length := by
  induction ks generalizing c with
  | nil => simp [lettersFrom]
  | cons k ks ih =>
    have := ih (c + takenN k)
    have := stLetters_length k c
    simp [lettersFrom]
    omega
theorem rowLettersP_length (d r : Int) (ks : List Int) : (rowLettersP d r ks).length ≤ 64 := by
  unfold rowLettersP
  split
  · rename_i h
    have hs : stitchesB ks = true := by
      by_cases e : rowB d r ks = true
      · unfold rowB at e; simp only [Bool.and_eq_true] at e; exact e.2
      · rw [rowCodeP, if_neg e] at h; simp at h
    have := (stitchesB_of hs).1
    have := lettersFrom_length ks 0
    omega
  · simp

end Go.Proofs.YtcgbogofmdjddaaDoor
