/- LongestFloat. -/
import Derived.Test.YtdnchjchgejkeaaFLi
import Derived.Test.YtdnchjchgejkeaaQ
namespace Go.Proofs.Ytdnchjchgejkeaa
open Go.RowKit

theorem longOf_snoc (fs : List FloatD) (f : FloatD) : longOf (fs ++ [f]) = max64 (longOf fs) (wrap64 (wrap64 (f.stop - f.start) - 1)) := by simp [longOf]
theorem spec_l00Max (a b : Int) (w : World) : Calls Try.prog 106 #[.int .i64 a, .int .i64 b] w fun e w' => e = .returned (.int .i64 (max64 a b)) ∧ w = w' := by
  unfold max64
  by_cases h1 : b < a
  · go_enter Try.func106, Try.ntmps106
    go_wp2
    go_ret
    exact ⟨rfl, rfl⟩
  · go_enter Try.func106, Try.ntmps106
    go_wp2
    go_ret
    exact ⟨rfl, rfl⟩

set_option maxHeartbeats 1000000 in
theorem spec_LongestFloat (n : Int) (xss : List (List Int)) (A : Option Addr) (c : Nat) (w : World) (h : Ints2 w A xss) (hl : xss.length ≤ 9223372036854775807) :
    Calls Try.prog 41 #[.agg #[.int .i64 n, .slice A xss.length c]] w fun e w' => e = .returned (.tuple #[.int .i64 (longP n xss), .int .i64 (colCode n xss)]) ∧ Below w.heap.size w w' := by
  by_cases hv : coloursB n xss = true
  · have HF : Hid (longP n xss = longOf (fAll xss xss.length) ∧ colCode n xss = 0) := Lib.hid ⟨by rw [longP, floatsP, if_pos hv], by rw [colCode, if_pos hv]⟩
    have hsm := fAll_small hv (Nat.le_refl _)
    have HV := Lib.hid hv
    go_enter Try.func41, Try.ntmps41
    go_wp2_with (fail)
    refine (spec_l19Ok _ _ n A c xss _ (h.below (by (repeat (first | exact Below.refl _ _ | assumption | apply Below.drew | apply below_drewN | (refine Below.alloc ?_ (by first | omega | (simp; done) | (simp; omega)) _) | (refine Below.setCell ?_ (by first | omega | (simp; done) | (simp; omega)) _))))) hl (by simp) (by simp)).mono ?_; rintro e w2 ⟨rfl, hdr⟩
    have hz : w2.heap.size = w.heap.size + 1 := by obtain ⟨q, rfl⟩ := hdr; simp
    have b2 : Below w.heap.size w w2 := by obtain ⟨q, rfl⟩ := hdr; (repeat (first | exact Below.refl _ _ | assumption | apply Below.drew | apply below_drewN | (refine Below.alloc ?_ (by first | omega | (simp; done) | (simp; omega)) _) | (refine Below.setCell ?_ (by first | omega | (simp; done) | (simp; omega)) _)))
    have k2 : Blk w2 w.heap.size 60 #[.int .i64 n, .slice A xss.length c] := by obtain ⟨q, rfl⟩ := hdr; exact (Blk.new _ _ _).drewN q
    clear hdr
    have HZ := Lib.hid hz; clear hz
    go_wp2_with (fail)
    refine (spec_l19All _ _ n A c xss _ (h.below b2) HV.out k2.c2.2).mono ?_; rintro e w3 ⟨A3, c3, rfl, o3, b3⟩
    have hF := o3.floats
    have b4 : Below w.heap.size w w3 := by have := HZ.out; exact b2.trans (b3.mono (by omega))
    clear o3 b3 b2
    generalize fAll xss xss.length = fs at hF HF hsm
    go_wp2_with (fail)
    go_loopw [5, 6] (fun ov iv wr => ∃ (k : Nat), k ≤ fs.length ∧ iv = .int .i64 k ∧ ov = .int .i64 (longOf (fs.take k)) ∧ Drawn w3 wr) (fun _ iv _ => fs.length - (intOf iv).toNat)
    case atStart => exact ⟨0, Nat.zero_le _, rfl, rfl, Drawn.refl _⟩
    case round =>
      obtain ⟨k, hk, rfl, rfl, hdr⟩ := hrel
      by_cases hlt : k < fs.length
      · obtain ⟨b, off, p, rfl, hp, p0, p1, p2, p3⟩ := (hF.of_cells hdr.cells) k hlt
        have HP := Lib.hid hp; clear hp
        have j1 : (0 : Int) ≤ (k : Int) := by omega
        have j2 : (k : Int) < (fs.length : Int) := by omega
        go_wp2_with (fail)
        go_quiet ((go_at_call 106; exact quietS (spec_l00Max _ _ _)))
        go_wp2_with (fail)
        go_roundw
        case rel => exact ⟨k + 1, by omega, by go_num, by rw [take_snoc HP.out, longOf_snoc], hdr.drewN _⟩
        case measure => simp [intOf]; omega
      · go_wp2_with (fail)
        go_ret2
        rw [HF.out.1, HF.out.2, take_all (by omega)]
        exact ⟨rfl, by obtain ⟨q, rfl⟩ := hdr; exact below_drewN b4 q⟩
  · have hv' : coloursB n xss = false := by simpa using hv
    have HF : Hid (longP n xss = 0 ∧ colCode n xss = 1) := Lib.hid ⟨by rw [longP, floatsP, if_neg hv]; rfl, by rw [colCode, if_neg hv]⟩
    clear hv
    go_enter Try.func41, Try.ntmps41
    go_wp2_with (fail)
    refine (spec_l19Ok _ _ n A c xss _ (h.below (by (repeat (first | exact Below.refl _ _ | assumption | apply Below.drew | apply below_drewN | (refine Below.alloc ?_ (by first | omega | (simp; done) | (simp; omega)) _) | (refine Below.setCell ?_ (by first | omega | (simp; done) | (simp; omega)) _))))) hl (by simp) (by simp)).mono ?_; rintro e w2 ⟨rfl, q, rfl⟩
    go_wp2_with (fail)
    go_ret2
    rw [HF.out.1, HF.out.2]
    exact ⟨rfl, by (repeat (first | exact Below.refl _ _ | assumption | apply Below.drew | apply below_drewN | (refine Below.alloc ?_ (by first | omega | (simp; done) | (simp; omega)) _) | (refine Below.setCell ?_ (by first | omega | (simp; done) | (simp; omega)) _)))⟩

set_option maxHeartbeats 1000000 in
theorem impl_LongestFloat (n : Int) (xss : List (List Int)) (A : Option Addr) (c : Nat) (w : World) (h : Ints2 w A xss) (hl : xss.length ≤ 9223372036854775807) :
    Calls Try.prog 43 #[.agg #[.int .i64 n, .slice A xss.length c]] w fun e w' => e = .returned (.tuple #[.int .i64 (longP n xss), .int .i64 (colCode n xss)]) ∧ Below w.heap.size w w' := by
  by_cases hv : coloursB n xss = true
  · have HF : Hid (longP n xss = longOf (fAll xss xss.length) ∧ colCode n xss = 0) := Lib.hid ⟨by rw [longP, floatsP, if_pos hv], by rw [colCode, if_pos hv]⟩
    have hsm := fAll_small hv (Nat.le_refl _)
    have HV := Lib.hid hv
    go_enter Try.func43, Try.ntmps43
    go_wp2_with (fail)
    refine (impl_ValidColours n xss A c _ (h.below (by (repeat (first | exact Below.refl _ _ | assumption | apply Below.drew | apply below_drewN | (refine Below.alloc ?_ (by first | omega | (simp; done) | (simp; omega)) _) | (refine Below.setCell ?_ (by first | omega | (simp; done) | (simp; omega)) _))))) hl).mono ?_; rintro e w2 ⟨rfl, b2'⟩
    have b2 : Below w.heap.size w w2 := Below.trans (by (repeat (first | exact Below.refl _ _ | assumption | apply Below.drew | apply below_drewN | (refine Below.alloc ?_ (by first | omega | (simp; done) | (simp; omega)) _) | (refine Below.setCell ?_ (by first | omega | (simp; done) | (simp; omega)) _)))) (b2'.mono (by first | omega | (simp; done) | (simp; omega)))
    have k2 : Blk w2 w.heap.size 60 #[.int .i64 n, .slice A xss.length c] := (Blk.new _ _ _).below b2' (by first | omega | (simp; done) | (simp; omega))
    have z2 := b2'.size
    simp only [World.size_alloc] at z2
    clear b2'
    obtain ⟨s0, s1⟩ := k2.c2
    go_wp2_with (fail)
    refine (impl_floats n A c xss _ (h.below b2) HV.out).mono ?_; rintro e w3 ⟨A3, c3, rfl, o3, b3⟩
    have hF := o3.floats
    have b4 : Below w.heap.size w w3 := b2.trans (b3.mono (by omega))
    clear o3 b3 b2 s0 s1
    generalize fAll xss xss.length = fs at hF HF hsm
    go_wp2_with (fail)
    go_loopw [4, 13] (fun ov iv wr => ∃ (k : Nat), k ≤ fs.length ∧ iv = .int .i64 k ∧ ov = .int .i64 (longOf (fs.take k)) ∧ Below w3.heap.size w3 wr) (fun _ iv _ => fs.length - (intOf iv).toNat)
    case atStart => exact ⟨0, Nat.zero_le _, rfl, rfl, Below.refl _ _⟩
    case round =>
      obtain ⟨k, hk, rfl, rfl, hb⟩ := hrel
      have hz4 := b4.size
      have hzb := hb.size
      by_cases hlt : k < fs.length
      · obtain ⟨b, off, p, rfl, hp, p0, p1, p2, p3⟩ := (hF.below hb) k hlt
        have HP := Lib.hid hp; clear hp
        go_wp2_with (fail)
        go_roundw
        case rel => exact ⟨k + 1, by omega, by go_num, by rw [take_snoc HP.out, longOf_snoc]; refine int_eq ?_; unfold max64; split <;> split <;> omega, by (repeat (first | exact Below.refl _ _ | assumption | apply Below.drew | apply below_drewN | (refine Below.alloc ?_ (by first | omega | (simp; done) | (simp; omega)) _) | (refine Below.setCell ?_ (by first | omega | (simp; done) | (simp; omega)) _)))⟩
        case measure => simp [intOf]; omega
      · go_wp2_with (fail)
        go_ret2
        rw [HF.out.1, HF.out.2, take_all (by omega)]
        exact ⟨rfl, b4.trans (hb.mono hz4)⟩
  · have hv' : coloursB n xss = false := by simpa using hv
    have HF : Hid (longP n xss = 0 ∧ colCode n xss = 1) := Lib.hid ⟨by rw [longP, floatsP, if_neg hv]; rfl, by rw [colCode, if_neg hv]⟩
    clear hv
    go_enter Try.func43, Try.ntmps43
    go_wp2_with (fail)
    refine (impl_ValidColours n xss A c _ (h.below (by (repeat (first | exact Below.refl _ _ | assumption | apply Below.drew | apply below_drewN | (refine Below.alloc ?_ (by first | omega | (simp; done) | (simp; omega)) _) | (refine Below.setCell ?_ (by first | omega | (simp; done) | (simp; omega)) _))))) hl).mono ?_; rintro e w2 ⟨rfl, b2'⟩
    have b2 : Below w.heap.size w w2 := Below.trans (by (repeat (first | exact Below.refl _ _ | assumption | apply Below.drew | apply below_drewN | (refine Below.alloc ?_ (by first | omega | (simp; done) | (simp; omega)) _) | (refine Below.setCell ?_ (by first | omega | (simp; done) | (simp; omega)) _)))) (b2'.mono (by first | omega | (simp; done) | (simp; omega)))
    go_wp2_with (fail)
    go_ret2
    rw [HF.out.1, HF.out.2]
    exact ⟨rfl, b2⟩

end Go.Proofs.Ytdnchjchgejkeaa
