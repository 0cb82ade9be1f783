/- keepsLimit: the program's limit on strands. -/
import Derived.Test.YtfgbhhkmdeljoaaTH
import Derived.Test.YtfgbhhkmdeljoaaMD
import Derived.Deep.RegionLaw
namespace Go.Proofs.Ytfgbhhkmdeljoaa
open Go.RowKit

theorem sumOf_tiny (A : Option Addr) (c : Nat) (xs : List Int) (w : World) (h : Ints w A xs) (hl : xs.length ≤ 100) (ht : tinyB xs) :
    Calls Try.prog 124 #[.slice A xs.length c] w fun e w' => e = .returned (.int .i64 (sumI xs)) ∧ w = w' := by
  have HT := Lib.hid ht; clear ht
  go_enter Try.func124, Try.ntmps124
  go_wp2_with (fail)
  go_loopw [3, 8] (fun sv iv wr => ∃ (k : Nat) (s : Int), k ≤ xs.length ∧ sv = .int .i64 s ∧ iv = .int .i64 k ∧ Hid (s = sumI (xs.take k)) ∧ 0 ≤ s ∧ s ≤ 5 * (k : Int) ∧ w = wr) (fun _ iv _ => xs.length - (intOf iv).toNat)
  case atStart => exact ⟨0, 0, Nat.zero_le _, rfl, rfl, Lib.hid rfl, by omega, by omega, rfl⟩
  case round =>
    obtain ⟨k, s, hk8, rfl, rfl, HS, hs0, hs1, rfl⟩ := hrel
    by_cases hlt : k < xs.length
    · obtain ⟨b, off, x, rfl, hc, hx⟩ := h k hlt
      have hx4 := HT.out x (List.mem_of_getElem? hx)
      have HS2 : Hid (s + x = sumI (xs.take (k + 1))) := Lib.hid (by rw [sumI_snoc hx, HS.out])
      clear hx
      have j1 : (0 : Int) ≤ (k : Int) := by omega
      have j2 : (k : Int) < (xs.length : Int) := by omega
      go_wp2_with (fail)
      go_roundw
      case rel => exact ⟨k + 1, s + x, by omega, by go_num, by go_num, HS2, by omega, by omega, trivial⟩
      case measure => simp [intOf]; omega
    · have hs9 : s = sumI xs := by rw [HS.out, take_all (by omega)]
      have HS9 := Lib.hid hs9; clear hs9
      go_wp2_with (fail)
      go_ret
      exact ⟨ret_int HS9.out, rfl⟩

def iotaI (n : Nat) : List Int := (List.range n).map fun (i : Nat) => (i : Int)
theorem iotaI_length (n : Nat) : (iotaI n).length = n := by simp [iotaI]
theorem iotaI_at {n k : Nat} (h : k < n) : (iotaI n)[k]? = some (k : Int) := by simp [iotaI, h]
theorem impl_identity (n : Nat) (w : World) (hl : n ≤ 1000) :
    Calls Try.prog 160 #[.int .i64 n] w fun e w' => ∃ A' c', e = .returned (.slice A' (iotaI n).length c') ∧ OwnI w' w.heap.size w'.heap.size A' c' (iotaI n) ∧ Below w.heap.size w w' := by
  obtain ⟨i0, hi0, hz0, hz1, hz2⟩ := info_parts info_int64
  have hlen : n ≤ 9223372036854775807 := by omega
  go_enter Try.func160, Try.ntmps160
  go_wp2_with (refine wpList_make_full _ rfl _ _ _ rfl w.heap.size 2 i0 _ 1 Try.underlying33 hi0 hz0 hz1 .i64 .i64 _ _ n rfl rfl rfl rfl (by rw [hz2]; omega) (by unfold maxLen; omega) (Nat.le_refl _) ?_; intro w1 hown hg)
  have hb1 : Below w.heap.size w w1 := (Below.refl _ _).grown hg (Nat.le_refl _) (by simp)
  go_loopw [9] (fun i wr => ∃ (k : Nat) (cs : List Value), k ≤ n ∧ i = .int .i64 k ∧ wr.ownsRow w.heap.size 2 1 (.slice (some ⟨w.heap.size, 0, none⟩) n n) n cs ∧ cs.take k = ((iotaI n).take k).map (Value.int .i64) ∧ Below w.heap.size w wr) (fun i _ => n - (intOf i).toNat)
  case atStart => exact ⟨0, _, Nat.zero_le _, rfl, hown, by simp, hb1⟩
  case round =>
    clear hown hg hb1
    obtain ⟨k, cs, hk, rfl, hown, htk, hb⟩ := hrel
    have hcl : cs.length = n := by simpa using hown.1
    have HT := Lib.hid htk; clear htk
    have HC := Lib.hid hcl; clear hcl
    by_cases hlt : k < n
    · have hx := iotaI_at hlt
      have hcell : wr.cell? ⟨w.heap.size, k, none⟩ = some (cs[k]'(by rw [HC.out]; exact hlt)) := by
        rw [hown.cellAt k (by omega), List.getElem?_eq_getElem]
      have hfz := hown.frozenAt k
      have HX := Lib.hid hx; clear hx
      go_wp2
      go_roundw
      case rel =>
        refine ⟨k + 1, cs.set k (.int .i64 k), by omega, by go_num, (hown.stored k _).1, ?_, hb.setCell (p := ⟨w.heap.size, k, none⟩) (Nat.le_refl _) _⟩
        rw [take_set_succ _ _ _ (by rw [HC.out]; exact hlt), HT.out, take_snoc HX.out]
        simp
      case measure => simp [intOf]; omega
    · go_wp2
      go_ret
      have : k = n := by omega
      subst this
      have e : cs = (iotaI k).map (Value.int .i64) := by
        have := HT.out
        rwa [take_all (by rw [HC.out]; exact Nat.le_refl _), take_all (by rw [iotaI_length]; exact Nat.le_refl _)] at this
      subst e
      refine ⟨some ⟨w.heap.size, 0, none⟩, k, by rw [iotaI_length]; rfl, ?_, hb⟩
      show OwnC _ _ _ _ _ _ _ _ _
      rw [iotaI_length]
      exact OwnC.of_own hown (Nat.le_refl _)

theorem impl_order (d r : Int) (ks : List Int) (A : Option Addr) (c : Nat) (w : World) (hl : ks.length ≤ 1000) :
    Calls Try.prog 139 #[.agg #[.int .i64 d, .int .i64 r, .slice A ks.length c]] w fun e w' => ∃ A' c', e = .returned (.slice A' (ordL d (iotaI ks.length)).length c') ∧ OwnI w' w.heap.size w'.heap.size A' c' (ordL d (iotaI ks.length)) ∧ Below w.heap.size w w' := by
  have hb1 : Below w.heap.size w (w.alloc (.cells #[.int .i64 d, .int .i64 r, .slice A ks.length c] 60)) := by (repeat (first | exact Below.refl _ _ | assumption | apply Below.drew | apply below_drewN | (refine Below.alloc ?_ (by first | omega | (simp; done) | (simp; omega)) _) | (refine Below.setCell ?_ (by first | omega | (simp; done) | (simp; omega)) _)))
  have kb := Blk.new w 60 #[.int .i64 d, .int .i64 r, .slice A ks.length c]
  obtain ⟨u0, u1, u2⟩ := kb.c3
  go_enter Try.func139, Try.ntmps139
  go_wp2_with (fail)
  refine (impl_identity ks.length _ hl).mono ?_; rintro e w2 ⟨A2, c2, rfl, o2, b2⟩
  simp only [World.size_alloc] at b2 o2
  obtain ⟨v0, v1, v2⟩ := (kb.below b2 (by omega)).c3
  have hb2 : Below w.heap.size w w2 := hb1.trans (b2.mono (by omega))
  clear u0 u1 u2
  have z2 := b2.size
  simp only [World.size_alloc] at z2
  by_cases hd : d = -1
  · subst hd
    have HF : Hid (ordL (-1) (iotaI ks.length) = (iotaI ks.length).reverse) := Lib.hid rfl
    go_wp2_with (fail)
    refine (slices_Reverse A2 c2 (iotaI ks.length) _ _ _ o2 (by rw [iotaI_length]; omega)).mono ?_; rintro e w3 ⟨rfl, o3, u3⟩
    go_wp2_with (fail)
    go_ret
    rw [HF.out]
    refine ⟨A2, c2, by rw [List.length_reverse]; rfl, ?_, hb2.trans ((u3.below (by omega)).mono (by omega))⟩
    show OwnC _ _ _ _ _ _ _ _ _
    rw [List.length_reverse]
    exact o3.mono (by omega) u3.size
  · have hd' : (d == -1) = false := by simp [hd]
    have HF : Hid (ordL d (iotaI ks.length) = iotaI ks.length) := Lib.hid (by rw [ordL, if_neg hd])
    go_wp2_with (fail)
    go_ret
    rw [HF.out]
    exact ⟨A2, c2, rfl, o2.mono (by omega) (Nat.le_refl _), hb2⟩

end Go.Proofs.Ytfgbhhkmdeljoaa
