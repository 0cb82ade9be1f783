/- Floats: the program's floats, FloatsOf, LongestFloat. -/
import Derived.Test.YtdnchjchgejkeaaFLs
namespace Go.Proofs.Ytdnchjchgejkeaa
open Go.RowKit

set_option maxHeartbeats 4000000 in
set_option maxRecDepth 20000 in
theorem impl_floats (n : Int) (A : Option Addr) (c : Nat) (xss : List (List Int)) (w : World) (h : Ints2 w A xss) (hv : coloursB n xss = true) :
    Calls Try.prog 109 #[.agg #[.int .i64 n, .slice A xss.length c]] w fun e w' => ∃ A' c', e = .returned (.slice A' (fAll xss xss.length).length c') ∧ OwnFloat w' w.heap.size w'.heap.size A' c' (fAll xss xss.length) ∧ Below w.heap.size w w' := by
  obtain ⟨i0, hi0, hz0, hz1, hz2⟩ := info_parts info_Float
  obtain ⟨_, hn8, _, hx8, hrow⟩ := colours_row hv
  have HROW := Lib.hid hrow; clear hrow
  have HV := Lib.hid hv; clear hv
  have o00 : OwnC ((w.alloc (.cells #[.int .i64 n, .slice A xss.length c] 60)).alloc (.cells #[] 129)) w.heap.size (w.heap.size + 2) 129 4 (some ⟨w.heap.size + 1, 0, none⟩) 0 0 [] := by
    have := OwnC.lit (w := w.alloc (.cells #[.int .i64 n, .slice A xss.length c] 60)) (lo := w.heap.size) (n := 0) 129 4 #[] (by simp) (Nat.zero_le _) rfl
    simpa using this
  have O00 := Lib.hid o00; clear o00
  go_enter Try.func109, Try.ntmps109
  go_wp2_with (fail)
  go_loopw [3, 14] (fun ov iv wr => ∃ (k : Nat) (A' : Option Addr) (c' : Nat), k ≤ xss.length ∧ iv = .int .i64 k ∧ ov = .slice A' (fAll xss k).length c' ∧ OwnFloat wr w.heap.size wr.heap.size A' c' (fAll xss k) ∧ Below w.heap.size w wr) (fun _ iv _ => xss.length - (intOf iv).toNat)
  case atStart =>
    exact ⟨0, some ⟨w.heap.size + 1, 0, none⟩, 0, Nat.zero_le _, rfl, rfl, O00.out.mono (Nat.le_refl _) (by simp), by (repeat (first | exact Below.refl _ _ | assumption | apply Below.drew | apply below_drewN | (refine Below.alloc ?_ (by first | omega | (simp; done) | (simp; omega)) _) | (refine Below.setCell ?_ (by first | omega | (simp; done) | (simp; omega)) _)))⟩
  case round =>
    clear O00
    obtain ⟨k, A', c', hk, rfl, rfl, ho, hb⟩ := hrel
    have hzs := hb.size
    by_cases hlt : k < xss.length
    · obtain ⟨b, off, A2, c2, row, rfl, hx, hc, hi, hxl⟩ := h k hlt
      have hr8 : row.length ≤ 8 := by have := HROW.out row (List.mem_of_getElem? hx); omega
      have hfa := fAll_small HV.out hk
      have hcr := cells_below hb _ _ hc
      have HX := Lib.hid hx; clear hx
      have HF : Hid (fAll xss (k + 1) = fAll xss k ++ fCar k row 4) := Lib.hid (fAll_succ HX.out)
      generalize fAll xss k = fs at ho HF hfa
      go_wp2_with (fail)
      go_loopw [3, 6] (fun ov jv ws => ∃ (j : Nat) (A' : Option Addr) (c' : Nat), j ≤ 4 ∧ jv = .int .i64 ((j : Int) + 1) ∧ ov = .slice A' (fs ++ fCar k row j).length c' ∧ OwnFloat ws w.heap.size ws.heap.size A' c' (fs ++ fCar k row j) ∧ Below w.heap.size w ws) (fun _ jv _ => 5 - (intOf jv).toNat)
      case atStart => exact ⟨0, A', c', Nat.zero_le _, rfl, by simp [fCar], by simpa [fCar] using ho, hb⟩
      case round =>
        clear ho hzs hcr
        obtain ⟨j, A3, c3, hj, rfl, rfl, ho, hs⟩ := hrel
        have hfc := fCar_length (k : Int) row j
        have hfj : (fCar (k : Int) row j).length ≤ 32 := Nat.le_trans hfc (Nat.mul_le_mul hj hr8)
        clear hfc
        have hlen : (fs ++ fCar k row j).length ≤ 300 := by simp; omega
        have HJ : Hid (fs ++ fCar k row (j + 1) = (fs ++ fCar k row j) ++ (fRow k ((j : Int) + 1) row row.length).1) := Lib.hid (by rw [fCar, List.append_assoc])
        generalize hL : fs ++ fCar k row j = L at ho hlen HJ ⊢
        have HL := Lib.hid hL; clear hL
        by_cases hjl : j < 4
        · have d4 : decide ((j : Int) + 1 ≤ 4) = true := decide_eq_true (by omega)
          go_wp2_with (fail)
          go_loopw [3, 7, 25] (fun ov lv mv wt => ∃ (m : Nat) (A' : Option Addr) (c' : Nat), m ≤ row.length ∧ mv = .int .i64 m ∧ lv = .int .i64 (fRow k ((j : Int) + 1) row m).2 ∧ ov = .slice A' (L ++ (fRow k ((j : Int) + 1) row m).1).length c' ∧ OwnFloat wt w.heap.size wt.heap.size A' c' (L ++ (fRow k ((j : Int) + 1) row m).1) ∧ Below w.heap.size w wt) (fun _ _ mv _ => row.length - (intOf mv).toNat)
          case atStart => exact ⟨0, A3, c3, Nat.zero_le _, rfl, rfl, by simp [fRow], by simpa [fRow] using ho, hs⟩
          case round =>
            clear ho
            obtain ⟨m, A4, c4, hm, rfl, rfl, rfl, ho, ht⟩ := hrel
            obtain ⟨hL1, hL2, hL3⟩ := fRow_last k ((j : Int) + 1) row m
            have hzt := ht.size
            by_cases hml : m < row.length
            · obtain ⟨b2, off2, x, rfl, hcx, hxx⟩ := hi m hml
              replace hcx := cells_below ht _ _ hcx
              have HS : Hid (fRow k ((j : Int) + 1) row (m + 1) = fStep k ((j : Int) + 1) (fRow k ((j : Int) + 1) row m) m x) := Lib.hid (fRow_succ hxx)
              clear hxx
              generalize fRow k ((j : Int) + 1) row m = s at ho HS hL1 hL2 hL3
              obtain ⟨f4, last⟩ := s
              simp only at ho hL1 hL2 hL3
              have hlen2 : (L ++ f4).length ≤ 400 := by simp; omega
              generalize hL' : L ++ f4 = L2 at ho hlen2 ⊢
              have HL2 := Lib.hid hL'; clear hL'
              by_cases hxc : x = (j : Int) + 1
              · have hxc' : (x != (j : Int) + 1) = false := by simp [hxc]
                by_cases h1 : 0 ≤ last ∧ last + 1 < m
                · have HT : Hid (fRow k ((j : Int) + 1) row (m + 1) = (f4 ++ [⟨k, (j : Int) + 1, last, m⟩], (m : Int))) := Lib.hid (by rw [HS.out, fStep, if_pos hxc, if_pos h1])
                  obtain ⟨h1, h2⟩ := h1
                  clear hxc
                  set_option maxRecDepth 20000 in go_wp2_with (at_builtin; refine wpList_append1 wr [.int .i64 k, .int .i64 ((j : Int) + 1), .int .i64 last, .int .i64 m] _ rfl (.tmp 41) (.tmp 47) _ rfl 129 i0 _ 4 32 Try.underlying85 hi0 hz0 hz1 hz2 rfl (by decide) rfl ho hzt 1 rfl rfl (by simp [Value.oneCell']) (by omega) (by decide) ?_; intro A5 c5 w5 ho5 hg5 hb5 hz5')
                  go_roundw
                  case rel =>
                    refine ⟨m + 1, A5, c5, by omega, by go_num, by rw [HT.out], by rw [HT.out, ← List.append_assoc, HL2.out, List.length_append]; rfl, ?_, ht.trans hb5⟩
                    rw [HT.out, ← List.append_assoc, HL2.out]
                    show OwnC _ _ _ _ _ _ _ _ _
                    rw [cellsFloat_snoc, List.length_append]
                    exact ho5
                  case measure => simp [intOf]; omega
                · have HT : Hid (fRow k ((j : Int) + 1) row (m + 1) = (f4, (m : Int))) := Lib.hid (by rw [HS.out, fStep, if_pos hxc, if_neg h1])
                  clear hxc
                  by_cases h2 : 0 ≤ last
                  · have h3 : ¬ last + 1 < m := fun h => h1 ⟨h2, h⟩
                    clear h1
                    set_option maxRecDepth 20000 in go_wp2_with (fail)
                    go_roundw
                    case rel => exact ⟨m + 1, A4, c4, by omega, by go_num, by rw [HT.out], by rw [HT.out, HL2.out], by rw [HT.out, HL2.out]; exact ho, ht⟩
                    case measure => simp [intOf]; omega
                  · clear h1
                    set_option maxRecDepth 20000 in go_wp2_with (fail)
                    go_roundw
                    case rel => exact ⟨m + 1, A4, c4, by omega, by go_num, by rw [HT.out], by rw [HT.out, HL2.out], by rw [HT.out, HL2.out]; exact ho, ht⟩
                    case measure => simp [intOf]; omega
              · have hxc' : (x != (j : Int) + 1) = true := by simpa using hxc
                have HT : Hid (fRow k ((j : Int) + 1) row (m + 1) = (f4, last)) := Lib.hid (by rw [HS.out, fStep, if_neg hxc])
                clear hxc
                set_option maxRecDepth 20000 in go_wp2_with (fail)
                go_roundw
                case rel => exact ⟨m + 1, A4, c4, by omega, by go_num, by rw [HT.out], by rw [HT.out, HL2.out], by rw [HT.out, HL2.out]; exact ho, ht⟩
                case measure => simp [intOf]; omega
            · have hml' : m = row.length := by omega
              subst hml'
              go_wp2_with (fail)
              go_roundw
              case rel => exact ⟨j + 1, A4, c4, by omega, by go_num, by rw [HJ.out], by rw [HJ.out]; exact ho, ht⟩
              case measure => simp [intOf]; omega
        · have hj4 : j = 4 := by omega
          subst hj4
          go_wp2_with (fail)
          go_roundw
          case rel => exact ⟨k + 1, A3, c3, by omega, by go_num, by rw [HF.out, HL.out], by rw [HF.out, HL.out]; exact ho, hs⟩
          case measure => simp [intOf]; omega
    · go_wp2_with (fail)
      go_ret
      have : k = xss.length := by omega
      subst this
      exact ⟨_, _, rfl, ho, hb⟩

theorem spec_FloatsOf (n : Int) (xss : List (List Int)) (A : Option Addr) (c : Nat) (w : World) (h : Ints2 w A xss) (hl : xss.length ≤ 9223372036854775807) :
    Calls Try.prog 64 #[.agg #[.int .i64 n, .slice A xss.length c]] w fun e w' => ∃ A' c', e = .returned (.tuple #[.slice A' (floatsP n xss).length c', .int .i64 (colCode n xss)]) ∧ OwnFloat w' w.heap.size w'.heap.size A' c' (floatsP n xss) ∧ Below w.heap.size w w' := by
  by_cases hv : coloursB n xss = true
  · have HF : Hid (floatsP n xss = fAll xss xss.length ∧ colCode n xss = 0) := Lib.hid ⟨by rw [floatsP, if_pos hv], by rw [colCode, if_pos hv]⟩
    have HV := Lib.hid hv
    go_enter Try.func64, Try.ntmps64
    go_wp2_with (fail)
    refine (spec_l19Ok _ _ n A c xss _ (h.below (by (repeat (first | exact Below.refl _ _ | assumption | apply Below.drew | apply below_drewN | (refine Below.alloc ?_ (by first | omega | (simp; done) | (simp; omega)) _) | (refine Below.setCell ?_ (by first | omega | (simp; done) | (simp; omega)) _))))) hl (by simp) (by simp)).mono ?_; rintro e w2 ⟨rfl, hdr⟩
    have hz : w2.heap.size = w.heap.size + 1 := by obtain ⟨q, rfl⟩ := hdr; simp
    have b2 : Below w.heap.size w w2 := by obtain ⟨q, rfl⟩ := hdr; (repeat (first | exact Below.refl _ _ | assumption | apply Below.drew | apply below_drewN | (refine Below.alloc ?_ (by first | omega | (simp; done) | (simp; omega)) _) | (refine Below.setCell ?_ (by first | omega | (simp; done) | (simp; omega)) _)))
    have k2 : Blk w2 w.heap.size 60 #[.int .i64 n, .slice A xss.length c] := by obtain ⟨q, rfl⟩ := hdr; exact (Blk.new _ _ _).drewN q
    clear hdr
    have HZ := Lib.hid hz; clear hz
    go_wp2_with (fail)
    refine (spec_l19All _ _ n A c xss _ (h.below b2) HV.out k2.c2.2).mono ?_; rintro e w3 ⟨A3, c3, rfl, o3, b3⟩
    go_wp2_with (fail)
    go_ret2
    have hz := HZ.out
    rw [HF.out.1, HF.out.2]
    exact ⟨_, _, rfl, o3.mono (by omega) (Nat.le_refl _), b2.trans (b3.mono (by omega))⟩
  · have hv' : coloursB n xss = false := by simpa using hv
    have HF : Hid (floatsP n xss = [] ∧ colCode n xss = 1) := Lib.hid ⟨by rw [floatsP, if_neg hv], by rw [colCode, if_neg hv]⟩
    clear hv
    go_enter Try.func64, Try.ntmps64
    go_wp2_with (fail)
    refine (spec_l19Ok _ _ n A c xss _ (h.below (by (repeat (first | exact Below.refl _ _ | assumption | apply Below.drew | apply below_drewN | (refine Below.alloc ?_ (by first | omega | (simp; done) | (simp; omega)) _) | (refine Below.setCell ?_ (by first | omega | (simp; done) | (simp; omega)) _))))) hl (by simp) (by simp)).mono ?_; rintro e w2 ⟨rfl, q, rfl⟩
    go_wp2_with (fail)
    go_ret2
    rw [HF.out.1, HF.out.2]
    exact ⟨_, _, rfl, OwnC.nil _ _ _ _ _, by (repeat (first | exact Below.refl _ _ | assumption | apply Below.drew | apply below_drewN | (refine Below.alloc ?_ (by first | omega | (simp; done) | (simp; omega)) _) | (refine Below.setCell ?_ (by first | omega | (simp; done) | (simp; omega)) _)))⟩

theorem impl_FloatsOf (n : Int) (xss : List (List Int)) (A : Option Addr) (c : Nat) (w : World) (h : Ints2 w A xss) (hl : xss.length ≤ 9223372036854775807) :
    Calls Try.prog 65 #[.agg #[.int .i64 n, .slice A xss.length c]] w fun e w' => ∃ A' c', e = .returned (.tuple #[.slice A' (floatsP n xss).length c', .int .i64 (colCode n xss)]) ∧ OwnFloat w' w.heap.size w'.heap.size A' c' (floatsP n xss) ∧ Below w.heap.size w w' := by
  by_cases hv : coloursB n xss = true
  · have HF : Hid (floatsP n xss = fAll xss xss.length ∧ colCode n xss = 0) := Lib.hid ⟨by rw [floatsP, if_pos hv], by rw [colCode, if_pos hv]⟩
    have HV := Lib.hid hv
    go_enter Try.func65, Try.ntmps65
    go_wp2_with (fail)
    refine (impl_ValidColours n xss A c _ (h.below (by (repeat (first | exact Below.refl _ _ | assumption | apply Below.drew | apply below_drewN | (refine Below.alloc ?_ (by first | omega | (simp; done) | (simp; omega)) _) | (refine Below.setCell ?_ (by first | omega | (simp; done) | (simp; omega)) _))))) hl).mono ?_; rintro e w2 ⟨rfl, b2'⟩
    have b2 : Below w.heap.size w w2 := Below.trans (by (repeat (first | exact Below.refl _ _ | assumption | apply Below.drew | apply below_drewN | (refine Below.alloc ?_ (by first | omega | (simp; done) | (simp; omega)) _) | (refine Below.setCell ?_ (by first | omega | (simp; done) | (simp; omega)) _)))) (b2'.mono (by first | omega | (simp; done) | (simp; omega)))
    have k2 : Blk w2 w.heap.size 60 #[.int .i64 n, .slice A xss.length c] := (Blk.new _ _ _).below b2' (by first | omega | (simp; done) | (simp; omega))
    have z2 := b2'.size
    simp only [World.size_alloc] at z2
    clear b2'
    obtain ⟨s0, s1⟩ := k2.c2
    go_wp2_with (fail)
    refine (impl_floats n A c xss _ (h.below b2) HV.out).mono ?_; rintro e w3 ⟨A3, c3, rfl, o3, b3⟩
    go_wp2_with (fail)
    go_ret2
    rw [HF.out.1, HF.out.2]
    exact ⟨_, _, rfl, o3.mono (by omega) (Nat.le_refl _), b2.trans (b3.mono (by omega))⟩
  · have hv' : coloursB n xss = false := by simpa using hv
    have HF : Hid (floatsP n xss = [] ∧ colCode n xss = 1) := Lib.hid ⟨by rw [floatsP, if_neg hv], by rw [colCode, if_neg hv]⟩
    clear hv
    go_enter Try.func65, Try.ntmps65
    go_wp2_with (fail)
    refine (impl_ValidColours n xss A c _ (h.below (by (repeat (first | exact Below.refl _ _ | assumption | apply Below.drew | apply below_drewN | (refine Below.alloc ?_ (by first | omega | (simp; done) | (simp; omega)) _) | (refine Below.setCell ?_ (by first | omega | (simp; done) | (simp; omega)) _))))) hl).mono ?_; rintro e w2 ⟨rfl, b2'⟩
    have b2 : Below w.heap.size w w2 := Below.trans (by (repeat (first | exact Below.refl _ _ | assumption | apply Below.drew | apply below_drewN | (refine Below.alloc ?_ (by first | omega | (simp; done) | (simp; omega)) _) | (refine Below.setCell ?_ (by first | omega | (simp; done) | (simp; omega)) _)))) (b2'.mono (by first | omega | (simp; done) | (simp; omega)))
    go_wp2_with (fail)
    go_ret2
    rw [HF.out.1, HF.out.2]
    exact ⟨_, _, rfl, OwnC.nil _ _ _ _ _, b2⟩

end Go.Proofs.Ytdnchjchgejkeaa
