/- Floats: l19Floats, l19All, floats, FloatsOf, LongestFloat. -/
import Derived.Test.YtdnchjchgejkeaaPL
import Derived.Test.YtdnchjchgejkeaaAp
import Derived.Test.YtdnchjchgejkeaaSM
import Derived.BigGuard
namespace Go.Proofs.Ytdnchjchgejkeaa
open Go.RowKit

theorem OwnC.news {w : World} {lo hi : Nat} {e : TypeId} {sz : Nat} {A : Option Addr} {n c : Nat} {cs : List Value} (h : OwnC w lo hi e sz A n c cs) : ∀ j u, cs[j]? = some u → ∃ b off, A = some ⟨b, off, none⟩ ∧ w.cell? ⟨b, off + j, none⟩ = some u := by
  intro j u hu
  obtain ⟨hj, rfl⟩ := List.getElem?_eq_some_iff.1 hu
  obtain ⟨g, rfl, _, _, h1, _⟩ := h.cell hj
  exact ⟨g, 0, rfl, by rw [Nat.zero_add]; exact h1⟩
theorem cellsFloat_one (ps : List FloatD) : ∀ u ∈ cellsFloat ps, u.oneCell' = true := by
  induction ps with
  | nil => simp [cellsFloat]
  | cons p ps ih =>
    intro u hu
    simp only [cellsFloat, List.mem_cons] at hu
    rcases hu with rfl | rfl | rfl | rfl | hu
    · rfl
    · rfl
    · rfl
    · rfl
    · exact ih u hu
theorem cellsFloat_append (a b : List FloatD) : cellsFloat (a ++ b) = cellsFloat a ++ cellsFloat b := by
  induction a with
  | nil => rfl
  | cons p a ih => simp [cellsFloat, ih]

set_option maxHeartbeats 1000000 in
theorem spec_l19Floats (A : Option Addr) (c : Nat) (row : List Int) (r cr : Int) (w : World) (h : Ints w A row) (hl : row.length ≤ 1000) :
    Calls Try.prog 152 #[.slice A row.length c, .int .i64 r, .int .i64 cr] w fun e w' => ∃ A' c', e = .returned (.slice A' (fRow r cr row row.length).1.length c') ∧ OwnFloat w' w.heap.size w'.heap.size A' c' (fRow r cr row row.length).1 ∧ Below w.heap.size w w' := by
  obtain ⟨i0, hi0, hz0, hz1, hz2⟩ := info_parts info_Float
  go_enter Try.func152, Try.ntmps152
  go_wp2_with (fail)
  go_loopw [7, 8, 9] (fun ov lv iv wr => ∃ (k : Nat) (A' : Option Addr) (c' : Nat), k ≤ row.length ∧ iv = .int .i64 k ∧ lv = .int .i64 (fRow r cr row k).2 ∧ ov = .slice A' (fRow r cr row k).1.length c' ∧ OwnFloat wr w.heap.size wr.heap.size A' c' (fRow r cr row k).1 ∧ Below w.heap.size w wr) (fun _ _ iv _ => row.length - (intOf iv).toNat)
  case atStart =>
    exact ⟨0, some ⟨w.heap.size, 0, none⟩, 0, Nat.zero_le _, rfl, rfl, rfl, (OwnC.lit _ 4 #[] (Nat.le_refl _) (Nat.zero_le _) rfl).mono (Nat.le_refl _) (by simp), by (repeat (first | exact Below.refl _ _ | assumption | apply Below.drew | apply below_drewN | (refine Below.alloc ?_ (by first | omega | (simp; done) | (simp; omega)) _) | (refine Below.setCell ?_ (by first | omega | (simp; done) | (simp; omega)) _)))⟩
  case round =>
    obtain ⟨k, A', c', hk, rfl, rfl, rfl, ho, hb⟩ := hrel
    obtain ⟨hL1, hL2, hL3⟩ := fRow_last r cr row k
    have hzs := hb.size
    by_cases hlt : k < row.length
    · obtain ⟨b, off, x, rfl, hc, hx⟩ := h k hlt
      replace hc := cells_below hb _ _ hc
      have HS : Hid (fRow r cr row (k + 1) = fStep r cr (fRow r cr row k) k x) := Lib.hid (fRow_succ hx)
      clear hx
      generalize fRow r cr row k = s at ho HS hL1 hL2 hL3
      obtain ⟨fs, last⟩ := s
      simp only at ho hL1 hL2 hL3
      by_cases hxc : x = cr
      · have hxc' : (x != cr) = false := by simp [hxc]
        by_cases h1 : 0 ≤ last ∧ last + 1 < k
        · have HT : Hid (fRow r cr row (k + 1) = (fs ++ [⟨r, cr, last, k⟩], (k : Int))) := Lib.hid (by rw [HS.out, fStep, if_pos hxc, if_pos h1])
          obtain ⟨h1, h2⟩ := h1
          clear hxc
          go_wp2_with (at_builtin; refine wpList_append1 wr [.int .i64 r, .int .i64 cr, .int .i64 last, .int .i64 k] _ rfl (.tmp 31) (.tmp 37) _ rfl 129 i0 _ 4 32 Try.underlying85 hi0 hz0 hz1 hz2 rfl (by decide) rfl ho hzs 1 rfl rfl (by simp [Value.oneCell']) (by omega) (by decide) ?_; intro A2 c2 w2 ho2 hg2 hb2 hz2')
          go_roundw
          case rel =>
            refine ⟨k + 1, A2, c2, by omega, by go_num, by rw [HT.out], by rw [HT.out]; simp, ?_, hb.trans hb2⟩
            rw [HT.out]
            show OwnC _ _ _ _ _ _ _ _ _
            rw [cellsFloat_snoc, List.length_append]
            exact ho2
          case measure => simp [intOf]; omega
        · have HT : Hid (fRow r cr row (k + 1) = (fs, (k : Int))) := Lib.hid (by rw [HS.out, fStep, if_pos hxc, if_neg h1])
          clear hxc
          by_cases h2 : 0 ≤ last
          · have h3 : ¬ last + 1 < k := fun h => h1 ⟨h2, h⟩
            clear h1
            go_wp2_with (fail)
            go_roundw
            case rel => exact ⟨k + 1, A', c', by omega, by go_num, by rw [HT.out], by rw [HT.out], by rw [HT.out]; exact ho, hb⟩
            case measure => simp [intOf]; omega
          · clear h1
            go_wp2_with (fail)
            go_roundw
            case rel => exact ⟨k + 1, A', c', by omega, by go_num, by rw [HT.out], by rw [HT.out], by rw [HT.out]; exact ho, hb⟩
            case measure => simp [intOf]; omega
      · have hxc' : (x != cr) = true := by simpa using hxc
        have HT : Hid (fRow r cr row (k + 1) = (fs, last)) := Lib.hid (by rw [HS.out, fStep, if_neg hxc])
        clear hxc
        go_wp2_with (fail)
        go_roundw
        case rel => exact ⟨k + 1, A', c', by omega, by go_num, by rw [HT.out], by rw [HT.out], by rw [HT.out]; exact ho, hb⟩
        case measure => simp [intOf]; omega
    · go_wp2_with (fail)
      go_ret
      have : k = row.length := by omega
      subst this
      exact ⟨_, _, rfl, ho, hb⟩

set_option maxHeartbeats 2000000 in
theorem spec_l19All (g o : Nat) (n : Int) (A : Option Addr) (c : Nat) (xss : List (List Int)) (w : World) (h : Ints2 w A xss) (hv : coloursB n xss = true)
    (c1 : w.cell? ⟨g, o + 1, none⟩ = some (.slice A xss.length c)) :
    Calls Try.prog 105 #[.pointer (some ⟨g, o, none⟩)] w fun e w' => ∃ A' c', e = .returned (.slice A' (fAll xss xss.length).length c') ∧ OwnFloat w' w.heap.size w'.heap.size A' c' (fAll xss xss.length) ∧ Below w.heap.size w w' := by
  obtain ⟨i0, hi0, hz0, hz1, hz2⟩ := info_parts info_Float
  obtain ⟨_, hn8, _, hx8, hrow⟩ := colours_row hv
  have HROW := Lib.hid hrow; clear hrow
  have HV := Lib.hid hv; clear hv
  go_enter Try.func105, Try.ntmps105
  go_wp2_with (fail)
  go_loopw [3, 4] (fun ov iv wr => ∃ (k : Nat) (A' : Option Addr) (c' : Nat), k ≤ xss.length ∧ iv = .int .i64 k ∧ ov = .slice A' (fAll xss k).length c' ∧ OwnFloat wr w.heap.size wr.heap.size A' c' (fAll xss k) ∧ Below w.heap.size w wr) (fun _ iv _ => xss.length - (intOf iv).toNat)
  case atStart =>
    exact ⟨0, some ⟨w.heap.size, 0, none⟩, 0, Nat.zero_le _, rfl, rfl, (OwnC.lit _ 4 #[] (Nat.le_refl _) (Nat.zero_le _) rfl).mono (Nat.le_refl _) (by simp), by (repeat (first | exact Below.refl _ _ | assumption | apply Below.drew | apply below_drewN | (refine Below.alloc ?_ (by first | omega | (simp; done) | (simp; omega)) _) | (refine Below.setCell ?_ (by first | omega | (simp; done) | (simp; omega)) _)))⟩
  case round =>
    obtain ⟨k, A', c', hk, rfl, rfl, ho, hb⟩ := hrel
    have q1 := cells_below hb _ _ c1
    have hzs := hb.size
    by_cases hlt : k < xss.length
    · obtain ⟨b, off, A2, c2, row, rfl, hx, hc, hi, hxl⟩ := h k hlt
      have hr8 : row.length ≤ 8 := by have := HROW.out row (List.mem_of_getElem? hx); omega
      have hfa := fAll_small HV.out hk
      have HX := Lib.hid hx; clear hx
      have HF : Hid (fAll xss (k + 1) = fAll xss k ++ fCar k row 4) := Lib.hid (fAll_succ HX.out)
      generalize fAll xss k = fs at ho HF hfa
      go_wp2_with (fail)
      go_loopw [3, 5] (fun ov jv ws => ∃ (j : Nat) (A' : Option Addr) (c' : Nat), j ≤ 4 ∧ jv = .int .i64 ((j : Int) + 1) ∧ ov = .slice A' (fs ++ fCar k row j).length c' ∧ OwnFloat ws w.heap.size ws.heap.size A' c' (fs ++ fCar k row j) ∧ Below w.heap.size w ws) (fun _ jv _ => 5 - (intOf jv).toNat)
      case atStart => exact ⟨0, A', c', Nat.zero_le _, rfl, by simp [fCar], by simpa [fCar] using ho, hb⟩
      case round =>
        clear ho hzs q1
        obtain ⟨j, A3, c3, hj, rfl, rfl, ho, hs⟩ := hrel
        have q1 := cells_below hs _ _ c1
        have hzs := hs.size
        have hcr := cells_below hs _ _ hc
        have hfc := fCar_length (k : Int) row j
        have hfj : (fCar (k : Int) row j).length ≤ 32 := Nat.le_trans hfc (Nat.mul_le_mul hj hr8)
        clear hfc
        have hlen : (fs ++ fCar k row j).length ≤ 300 := by simp; omega
        generalize hL : fs ++ fCar k row j = L at ho hlen ⊢
        have HL := Lib.hid hL; clear hL
        by_cases hjl : j < 4
        · have j1 : (0 : Int) ≤ (k : Int) := by omega
          have j2 : (k : Int) < (xss.length : Int) := by omega
          set_option maxRecDepth 20000 in go_wp2_with (fail)
          refine (spec_l19Floats _ _ row k ((j : Int) + 1) _ (hi.below hs) (by omega)).mono ?_; rintro e w2 ⟨A4, c4, rfl, o4, b4⟩
          have HJ : Hid (fCar k row (j + 1) = fCar k row j ++ (fRow k ((j : Int) + 1) row row.length).1) := Lib.hid rfl
          have hf4 := (fRow_last k ((j : Int) + 1) row row.length).2.2
          generalize (fRow k ((j : Int) + 1) row row.length).1 = f4 at o4 HJ hf4
          have ho' := ho.below b4 (Nat.le_refl _)
          have hb4 : Below w.heap.size w w2 := hs.trans (b4.mono hzs)
          have hz4 := b4.size
          set_option maxRecDepth 20000 in go_wp2_with (at_builtin; refine wpList_appendC w2 rfl (.tmp 20) (.tmp 30) _ rfl 129 i0 _ 4 32 Try.underlying85 hi0 hz0 hz1 hz2 rfl (by decide) rfl ho' (by omega) A4 f4.length c4 (cellsFloat f4) rfl (cellsFloat_length _) o4.news (cellsFloat_one _) (by unfold maxLen; omega) (by omega) ?_; intro A5 c5 w5 ho5 hg5 hb5)
          go_roundw
          case rel =>
            refine ⟨j + 1, A5, c5, by omega, by go_num, by rw [HJ.out, ← List.append_assoc, HL.out, List.length_append], ?_, hb4.trans hb5⟩
            rw [HJ.out, ← List.append_assoc, HL.out]
            show OwnC _ _ _ _ _ _ _ _ _
            rw [cellsFloat_append, List.length_append]
            exact ho5
          case measure => simp [intOf]; omega
        · have hj4 : j = 4 := by omega
          subst hj4
          go_wp2_with (fail)
          go_roundw
          case rel => exact ⟨k + 1, A3, c3, by omega, by go_num, by rw [HF.out, HL.out], by rw [HF.out, HL.out]; exact ho, hs⟩
          case measure => simp [intOf]; omega
    · go_wp2_with (fail)
      go_ret
      have : k = xss.length := by omega
      subst this
      exact ⟨_, _, rfl, ho, hb⟩

end Go.Proofs.Ytdnchjchgejkeaa
