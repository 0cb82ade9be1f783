/- Steps of the proof, joined from several texts: YE YF. -/
import Derived.Test.YtfgbhhkmdeljoaaZ19
import Derived.Test.YtfgbhhkmdeljoaaZ9
import Derived.Test.YtfgbhhkmdeljoaaZ6

/- Doubled braids, the program's side. -/
namespace Go.Proofs.Ytfgbhhkmdeljoaa
open Go Go.RowKit

theorem impl_DoubleBraid_1 (n : Int) (w : World) : Calls Try.prog 127 #[.int .i64 n] w fun e w' => e = .returned (.bool (!inR n 0 4)) ∧ w = w' := by
  go_enter Try.func127, Try.ntmps127
  go_wp2_with (refine (impl_within _ _ _ _).mono ?_; rintro e w' ⟨rfl, rfl⟩)
  go_ret
  exact ⟨rfl, rfl⟩
theorem indexFunc_DoubleBraid_1 (A : Option Addr) (c : Nat) (xs : List Int) (w : World) (h : Ints w A xs) (hl : xs.length ≤ 9223372036854775807) : Calls Try.prog 144 #[.slice A xs.length c, .func (.func 127) #[] #[]] w fun e w' => AnyInt (fun k => decide (0 ≤ k) = xs.any (fun n => !inR n 0 4) ∧ k ≤ 9223372036854775807) e ∧ w = w' := by
  go_enter Try.func144, Try.ntmps144
  go_wp2
  go_loop [8] (fun i => ∃ k : Nat, k ≤ xs.length ∧ i = .int .i64 k ∧ (xs.take k).any (fun n => !inR n 0 4) = false) (fun i => xs.length - (intOf i).toNat)
  case atStart => exact ⟨0, Nat.zero_le _, rfl, rfl⟩
  case round =>
    obtain ⟨k, hk, rfl, ha⟩ := hrel
    have HA := Lib.hid ha; clear ha
    by_cases hlt : k < xs.length
    · obtain ⟨b, off, x, rfl, hc, hx⟩ := h k hlt
      have HX := Lib.hid hx; clear hx
      go_wp2_with (refine (impl_DoubleBraid_1 _ _).mono ?_; rintro e w' ⟨rfl, rfl⟩)
      · have hq : (!inR x 0 4) = true := by assumption
        go_ret
        refine ⟨⟨_, rfl, ?_, by omega⟩, rfl⟩
        rw [any_true_at HX.out hq]
        simp
      · have hq : (!inR x 0 4) = false := by assumption
        go_round
        case rel => exact ⟨k + 1, by omega, by go_num, by rw [take_snoc HX.out, List.any_append, HA.out]; simpa using hq⟩
        case measure => simp [intOf]; omega
    · go_wp2
      go_ret
      refine ⟨⟨_, rfl, ?_, by omega⟩, rfl⟩
      have := HA.out
      rw [take_all (by omega)] at this
      rw [this]
      rfl
theorem containsFunc_DoubleBraid_1 (A : Option Addr) (c : Nat) (xs : List Int) (w : World) (h : Ints w A xs) (hl : xs.length ≤ 9223372036854775807) : Calls Try.prog 109 #[.slice A xs.length c, .func (.func 127) #[] #[]] w fun e w' => e = .returned (.bool (xs.any (fun n => !inR n 0 4))) ∧ w = w' := by
  go_enter Try.func109, Try.ntmps109
  go_wp2_with (refine (indexFunc_DoubleBraid_1 _ _ _ _ h hl).mono ?_; rintro e w' ⟨⟨k, rfl, hk, hk'⟩, rfl⟩)
  go_ret
  exact ⟨rfl, rfl⟩

theorem tiny_sum : ∀ (ys : List Int), (∀ y ∈ ys, 1 ≤ y ∧ y ≤ 4) → 0 ≤ sumI ys ∧ sumI ys ≤ 4 * ys.length
  | [], _ => by simp [sumI]
  | y :: ys, h => by
    have h1 := tiny_sum ys (fun z hz => h z (by simp [hz]))
    have h2 := h y (by simp)
    rw [sumI, List.length_cons]; push_cast; omega
theorem NowB.sum64 {now : List Int} {n : Nat} {S : Int} (h : NowB now n S) (hn : n ≤ 8) : ∀ k, k ≤ n → Go.Proofs.Ytfgbhhkmdeljoaa.sum64 (now.take k) = sumI (now.take k) := by
  intro k
  have hl := h.len
  induction k with
  | zero => intro _; simp [Go.Proofs.Ytfgbhhkmdeljoaa.sum64, sumI]
  | succ k ih =>
    intro hk
    have hx : now[k]? = some (now[k]'(by omega)) := List.getElem?_eq_getElem (by omega)
    have h1 := tiny_sum (now.take k) (fun y hy => h.one y (List.mem_of_mem_take hy))
    have h2 := h.one (now[k]'(by omega)) (List.getElem_mem _)
    have h3 : (now.take k).length ≤ 8 := by rw [List.length_take]; omega
    rw [take_snoc hx, sum64_snoc, ih (by omega), sumI_append, IntWalk.wrap64_in _ (by omega)]
    simp [sumI]
set_option maxHeartbeats 4000000 in
set_option maxRecDepth 10000 in
theorem impl_DoubleBraid (word sizes : List Int) (A B : Option Addr) (c d : Nat) (w : World) (h : Ints w A word) (hl : word.length ≤ 9223372036854775807) (h' : Ints w B sizes) (hv : sizesB sizes = true) :
    Calls Try.prog 89 #[.agg #[.int .i64 sizes.length, .slice A word.length c], .slice B sizes.length d] w fun e w' => ∃ A' c', e = .returned (.tuple #[.agg #[.int .i64 (dbX word sizes).n, .slice A' (dbX word sizes).xs.length c'], .int .i64 (dbCode word sizes)]) ∧ OwnI w' w.heap.size w'.heap.size A' c' (dbX word sizes).xs ∧ Below w.heap.size w w' := by
  have t1 : (51 : TypeId) ≠ 2 := by decide
  obtain ⟨i0, hi0, hu0, hu1, hu2⟩ := info_parts info_int64
  obtain ⟨hn, ⟨hn1, hn8⟩, hS0, hS12, hsum⟩ := nowB_of hv
  clear hv
  have HN := Lib.hid hn
  have HSUM := Lib.hid hsum; clear hsum
  have hany : sizes.any (fun n => !inR n 0 4) = false := by
    rw [← Bool.not_eq_true, List.any_eq_true]
    rintro ⟨y, hy, hq⟩
    have := hn.one y hy
    have h2 : inR y 0 4 = true := by rw [inR_iff]; omega
    rw [h2] at hq; cases hq
  have HANY := Lib.hid hany; clear hany
  have hb1 : Below w.heap.size w ((w.alloc (.cells #[.int .i64 sizes.length, .slice A word.length c] 51)).alloc (.cells #[.int .i64 0, .slice none 0 0] 51)) := by (repeat (first | exact Below.refl _ _ | assumption | apply Below.drew | apply below_drewN | (refine Below.alloc ?_ (by first | omega | (simp; done) | (simp; omega)) _) | (refine Below.setCell ?_ (by first | omega | (simp; done) | (simp; omega)) _)))
  have ka := (Blk.new w 51 #[.int .i64 sizes.length, .slice A word.length c]).alloc (.cells #[.int .i64 0, .slice none 0 0] 51)
  have kz : Blk ((w.alloc (.cells #[.int .i64 sizes.length, .slice A word.length c] 51)).alloc (.cells #[.int .i64 0, .slice none 0 0] 51)) (w.heap.size + 1) 51 #[.int .i64 0, .slice none 0 0] := by simpa using Blk.new (w.alloc (.cells #[.int .i64 sizes.length, .slice A word.length c] 51)) 51 #[.int .i64 0, .slice none 0 0]
  cases hbr : braidB sizes.length word
  · have HF := Lib.hid (db_err (dbCode_1 hbr) (by decide))
    go_enter Try.func89, Try.ntmps89
    go_wp2_with (fail)
    refine (impl_ValidBraid _ word A c _ (h.below hb1) hl).mono ?_; rintro e w2 ⟨rfl, b2⟩
    have hb2 : Below w.heap.size w w2 := hb1.trans (b2.mono (by simp only [World.size_alloc]; omega))
    have kz2 := kz.below b2 (by simp)
    obtain ⟨r0, r1⟩ := kz2.c2
    have g0 := kz2.frozen 0
    have g1 := kz2.frozen 1
    rw [hbr]
    go_wp2_with (fail)
    refine bodyPost_ret (v := .tuple #[.agg #[.int .i64 (dbX word sizes).n, .slice none (dbX word sizes).xs.length 0], .int .i64 (dbCode word sizes)]) (by rw [HF.out.1, HF.out.2]; simp [results, Try.results89, go_sem, r0, r1]) rfl ⟨none, 0, rfl, ?_, ?_⟩
    · rw [HF.out.1]; exact OwnC.nil _ _ _ _ _
    · (repeat (first | exact Below.refl _ _ | assumption | apply Below.drew | apply below_drewN | (refine Below.alloc ?_ (by first | omega | (simp; done) | (simp; omega)) _) | (refine Below.setCell ?_ (by first | omega | (simp; done) | (simp; omega)) _)))
  · have HC := Lib.hid (dbCode_2 hbr)
    obtain ⟨hw, h40, hok, h640⟩ := dbl_braid hbr hn ⟨hS0, hS12⟩
    have HW := Lib.hid hw; clear hw hok hn
    go_enter Try.func89, Try.ntmps89
    go_wp2_with (fail)
    refine (impl_ValidBraid _ word A c _ (h.below hb1) hl).mono ?_; rintro e w2 ⟨rfl, b2⟩
    have hb2 : Below w.heap.size w w2 := hb1.trans (b2.mono (by simp only [World.size_alloc]; omega))
    have ka2 := ka.below b2 (by simp; omega)
    have kz2 := kz.below b2 (by simp)
    have hz2 : w.heap.size + 1 < w2.heap.size := kz2.lt
    have i2 := h'.below hb2
    rw [hbr]
    clear ka kz hb1 b2 hbr
    obtain ⟨q0, q1⟩ := ka2.c2
    go_wp2_with (first | (go_at_call 109; refine (containsFunc_DoubleBraid_1 B d sizes _ i2 (by omega)).mono ?_; rintro e _ ⟨rfl, rfl⟩; rw [HANY.out]) | (go_at_call 124; refine (impl_sumOf B d sizes _ i2 (by omega)).mono ?_; rintro e _ ⟨rfl, rfl⟩; rw [HSUM.out]))
    generalize hss : sumI sizes = S at hS0 hS12 ⊢
    have HSS := Lib.hid hss; clear hss
    have b3 : Below w2.heap.size w2 (w2.alloc (.cells #[.int .i64 S, .slice none 0 0] 51)) := by (repeat (first | exact Below.refl _ _ | assumption | apply Below.drew | apply below_drewN | (refine Below.alloc ?_ (by first | omega | (simp; done) | (simp; omega)) _) | (refine Below.setCell ?_ (by first | omega | (simp; done) | (simp; omega)) _)))
    have ka3 := ka2.alloc (.cells #[.int .i64 S, .slice none 0 0] 51)
    have kz3 := kz2.alloc (.cells #[.int .i64 S, .slice none 0 0] 51)
    have kx3 := Blk.new w2 51 #[.int .i64 S, .slice none 0 0]
    refine (slices_Clone B d sizes _ (i2.below b3) (by omega)).mono ?_; rintro e w5 ⟨A5, c5, rfl, o5', b5⟩
    have o5 : OwnI w5 (w2.heap.size + 1) w5.heap.size A5 c5 sizes := OwnC.mono o5' (by simp) (Nat.le_refl _)
    have hz5 := b5.size
    simp only [World.size_alloc] at hz5
    have hb5 : Below w.heap.size w w5 := (hb2.trans (b3.mono (by omega))).trans (b5.mono (by simp; omega))
    have ka5 := ka3.below b5 (by simp; omega)
    have kz5 := kz3.below b5 (by simp; omega)
    have kx5 := kx3.below b5 (by simp)
    obtain ⟨g5, rfl⟩ := OwnC.head o5 (by omega)
    obtain ⟨p0, p1⟩ := ka5.c2
    clear q0 q1 ka3 kz3 kx3 b3 b5 o5'
    go_wp2_with (fail)
    clear p0 p1
    go_loopw [33] (fun iv wr => ∃ (i : Nat) (A' : Option Addr) (c' : Nat) (out now : List Int), i ≤ word.length ∧ iv = .int .i64 i ∧ Blk wr (w.heap.size + 1) 51 #[.int .i64 0, .slice none 0 0] ∧ Blk wr w2.heap.size 51 #[.int .i64 S, .slice A' out.length c'] ∧ OwnI wr w5.heap.size wr.heap.size A' c' out ∧ OwnI wr (w2.heap.size + 1) w5.heap.size (some ⟨g5, 0, none⟩) c5 now ∧ NowB now sizes.length (sumI sizes) ∧ Below w.heap.size w wr ∧ w5.heap.size ≤ wr.heap.size ∧ Hid (dblFrom word sizes = out ++ dblFrom (word.drop i) now) ∧ out.length ≤ 16 * i) (fun iv _ => word.length - (intOf iv).toNat)
    case atStart => exact ⟨0, none, 0, [], sizes, Nat.zero_le _, rfl, kz5, kx5, OwnC.nil _ _ _ _ _, o5, HN.out, hb5, Nat.le_refl _, Lib.hid rfl, by simp⟩
    case round =>
      clear ka5 kz5 kx5 o5 hb5
      obtain ⟨i, A', c', out, now, hi, rfl, kzr, kxr, ho, hnow, hnb, hbr, hzr, HD, hol⟩ := hrel
      by_cases hil : i < word.length
      · obtain ⟨b, off, x, rfl, hc, hx⟩ := (h.below hbr) i hil
        obtain ⟨hx1, hx2⟩ := HW.out x (List.mem_of_getElem? hx)
        obtain ⟨ii, hK⟩ : ∃ ii, x.natAbs = ii + 1 := ⟨x.natAbs - 1, by omega⟩
        have hab : absI x = (ii : Int) + 1 := by unfold absI; split <;> omega
        have HAB := Lib.hid hab; clear hab
        obtain ⟨a, ha, a1, a4⟩ := now_at hnb (k := ii) (by omega)
        obtain ⟨bb, hbb, b1, b4⟩ := now_at hnb (k := ii + 1) (by omega)
        obtain ⟨aN, rfl⟩ := Int.eq_ofNat_of_zero_le (show (0 : Int) ≤ a by omega)
        obtain ⟨bN, rfl⟩ := Int.eq_ofNat_of_zero_le (show (0 : Int) ≤ bb by omega)
        obtain ⟨hn2, hs0, hs1⟩ := hnb.swap ha hbb
        have HD2 : Hid (dblFrom word sizes = (out ++ swTo (sumI (now.take ii)) (sgnI x) aN bN) ++ dblFrom (word.drop (i + 1)) (swapL ii now)) := Lib.hid (by
          rw [HD.out, drop_cons hx, dblFrom, hK, Nat.add_sub_cancel, getD_of ha, getD_of hbb, Int.toNat_natCast, Int.toNat_natCast, List.append_assoc])
        have hxs : -1000 ≤ x ∧ x ≤ 1000 := by omega
        have HXS := Lib.hid hxs; clear hxs hx HD
        have j1 : (0 : Int) ≤ (i : Int) := by omega
        have j2 : (i : Int) < (word.length : Int) := by omega
        have hK8 : ii + 1 < sizes.length := by omega
        go_wp2_with (go_at_call 128; refine (impl_size _ _ HXS.out).mono ?_; rintro e _ ⟨rfl, rfl⟩; rw [HAB.out])
        have hcap := OwnC.cap hnow
        have hlen := hnb.len
        rw [hlen] at hcap
        have HSM : Hid (∀ W, Ints W (some ⟨g5, 0, none⟩) now → Calls Try.prog 124 #[.slice (some ⟨g5, 0, none⟩) ii c5] W fun e w' => e = .returned (.int .i64 (sumI (now.take ii))) ∧ W = w') := Lib.hid (fun W hW => by
          have e := impl_sumOf (some ⟨g5, 0, none⟩) c5 (now.take ii) W (hW.take ii) (by rw [List.length_take]; omega)
          rw [List.length_take, Nat.min_eq_left (by omega), hnb.sum64 hn8 ii (by omega)] at e
          exact e)
        clear hlen
        have hpS : sumI (now.take ii) ≤ 1000 := by have := (hnb.take ii).2; rw [HSS.out] at this; omega
        obtain ⟨ca, fa, ga, gb⟩ := own_at hnow ha
        obtain ⟨cb, fb, _, _⟩ := own_at hnow hbb
        have hin := OwnC.ints hnow
        have HIN := Lib.hid hin; clear hin
        generalize sumI (now.take ii) = place at hpS hs0 HD2 hs1 HSM ⊢
        have j3 : (0 : Int) ≤ (ii : Int) := by omega
        have j4 : (ii : Int) < (sizes.length : Int) := by omega
        have j5 : (ii : Int) + 1 < (sizes.length : Int) := by omega
        have j6 : IntKind.i64.wrap (ii : Int) = (ii : Int) := IntWalk.i64_in _ (by omega)
        have j9 : IntKind.i64.wrap ((ii : Int) + 1) = (ii : Int) + 1 := IntWalk.i64_in _ (by omega)
        have j7 : (0 : Int) ≤ (ii : Int) + 1 := by omega
        have j8 : ((ii : Int) + 1).toNat = ii + 1 := by omega
        have j10 : (ii : Int) ≤ (c5 : Int) := by omega
        have j11 : ¬ ((ii : Int) + 1 = 0) := by omega
        by_cases hneg : x < 0
        case' pos =>
          have hq : x.tdiv ((ii : Int) + 1) = -1 := by rw [show x = -((ii : Int) + 1) by omega, Int.neg_tdiv, Int.tdiv_self (by omega)]
          have HSG : Hid (sgnI x = -1) := Lib.hid (by rw [sgnI, if_pos hneg])
        case' neg =>
          have hq : x.tdiv ((ii : Int) + 1) = 1 := by rw [show x = (ii : Int) + 1 by omega, Int.tdiv_self (by omega)]
          have HSG : Hid (sgnI x = 1) := Lib.hid (by rw [sgnI, if_neg hneg])
        all_goals
          rw [HSG.out] at HD2
          clear hneg HSG
          (refine wp_region_pops 3 (S := (fun W' => W'.cell? ⟨w2.heap.size, 1, none⟩ = some (.slice A' out.length c') ∧ W'.cell? ⟨g5, ii, none⟩ = some (.int .i64 (aN : Int)) ∧ W'.cell? ⟨g5, ii + 1, none⟩ = some (.int .i64 (bN : Int)))) (pre := ?_) (T := ?_) (n := ?_) (by kernel_rfl) (by kernel_rfl) ?_ ?_ ?_ ?_ (fun hHeld => ?_); rotate_left 3; (focus (simp only [pops, List.pop_toArray, List.dropLast_cons_cons, List.dropLast_singleton]; rfl)); (focus (simp only [tailOf, List.pop_toArray, List.dropLast_cons_cons, List.dropLast_singleton, List.back?_toArray, List.getLast?_cons_cons, List.getLast?_singleton, Option.toList_some, List.nil_append, List.cons_append]; rfl)); (focus rfl); (focus (exact ⟨kxr.c2.2, ca, cb⟩)))
          ((refine wpAnyH_take (i := 0) (v := ?_) rfl (by kernel_rfl) (by kernel_rfl) (by kernel_rfl) (fun _ _ _ h => h) (Or.inl ⟨by rfl, ?_⟩) (by assumption) ?_; rotate_left; (focus (intro W hSw; (try dsimp only at hSw); go_simp; try (with_reducible rfl)))); (try simp only [List.getElem_toArray, List.getElem_cons_zero, Act.put, List.setIfInBounds_toArray, List.set_cons_zero, List.set_cons_succ]); (refine wpAnyH_take (i := 1) (v := ?_) rfl (by kernel_rfl) (by kernel_rfl) (by kernel_rfl) (fun _ _ _ h => h) (Or.inl ⟨by rfl, ?_⟩) (by assumption) ?_; rotate_left; (focus (intro W hSw; (try dsimp only at hSw); go_simp; try (with_reducible rfl)))); (try simp only [List.getElem_toArray, List.getElem_cons_zero, List.getElem_cons_succ, Act.put, List.setIfInBounds_toArray, List.set_cons_zero, List.set_cons_succ]); (refine wpAnyH_take (i := 2) (v := ?_) rfl (by kernel_rfl) (by kernel_rfl) (by kernel_rfl) (fun _ _ _ h => h) (Or.inl ⟨by rfl, ?_⟩) (by assumption) ?_; rotate_left; (focus (intro W hSw; (try dsimp only at hSw); go_simp; try (with_reducible rfl)))); (try simp only [List.getElem_toArray, List.getElem_cons_zero, List.getElem_cons_succ, Act.put, List.setIfInBounds_toArray, List.set_cons_zero, List.set_cons_succ]); (refine wpAnyH_take (i := 3) (v := ?_) rfl (by kernel_rfl) (by kernel_rfl) (by kernel_rfl) (fun _ _ _ h => h) (Or.inl ⟨by rfl, ?_⟩) (by assumption) ?_; rotate_left; (focus (intro W hSw; (try dsimp only at hSw); go_simp; try (with_reducible rfl)))); (try simp only [List.getElem_toArray, List.getElem_cons_zero, List.getElem_cons_succ, Act.put, List.setIfInBounds_toArray, List.set_cons_zero, List.set_cons_succ]); (refine wpAnyH_take (i := 4) (v := ?_) rfl (by kernel_rfl) (by kernel_rfl) (by kernel_rfl) (fun _ _ _ h => h) (Or.inl ⟨by rfl, ?_⟩) (by assumption) ?_; rotate_left; (focus (intro W hSw; (try dsimp only at hSw); go_simp; try (with_reducible rfl)))); (try simp only [List.getElem_toArray, List.getElem_cons_zero, List.getElem_cons_succ, Act.put, List.setIfInBounds_toArray, List.set_cons_zero, List.set_cons_succ]))
          ((refine wpAnyH_take (i := 6) (v := ?_) rfl (by kernel_rfl) (by kernel_rfl) (by kernel_rfl) (fun _ _ _ h => h) (Or.inl ⟨by rfl, ?_⟩) (by assumption) ?_; rotate_left; (focus (intro W hSw; (try dsimp only at hSw); go_simp; try (with_reducible rfl)))); (try simp only [List.getElem_toArray, List.getElem_cons_zero, List.getElem_cons_succ, Act.put, List.setIfInBounds_toArray, List.set_cons_zero, List.set_cons_succ]); (refine wpAnyH_take (i := 7) (v := ?_) rfl (by kernel_rfl) (by kernel_rfl) (by kernel_rfl) (fun _ _ _ h => h) (Or.inl ⟨by rfl, ?_⟩) (by assumption) ?_; rotate_left; (focus (intro W hSw; (try dsimp only at hSw); go_simp; try (with_reducible rfl)))); (try simp only [List.getElem_toArray, List.getElem_cons_zero, List.getElem_cons_succ, Act.put, List.setIfInBounds_toArray, List.set_cons_zero, List.set_cons_succ]); (refine wpAnyH_take (i := 8) (v := ?_) rfl (by kernel_rfl) (by kernel_rfl) (by kernel_rfl) (fun _ _ _ h => h) (Or.inl ⟨by rfl, ?_⟩) (by assumption) ?_; rotate_left; (focus (intro W hSw; (try dsimp only at hSw); go_simp; try (with_reducible rfl)))); (try simp only [List.getElem_toArray, List.getElem_cons_zero, List.getElem_cons_succ, Act.put, List.setIfInBounds_toArray, List.set_cons_zero, List.set_cons_succ]); (refine wpAnyH_take (i := 9) (v := ?_) rfl (by kernel_rfl) (by kernel_rfl) (by kernel_rfl) (fun _ _ _ h => h) (Or.inl ⟨by rfl, ?_⟩) (by assumption) ?_; rotate_left; (focus (intro W hSw; (try dsimp only at hSw); go_simp; try (with_reducible rfl)))); (try simp only [List.getElem_toArray, List.getElem_cons_zero, List.getElem_cons_succ, Act.put, List.setIfInBounds_toArray, List.set_cons_zero, List.set_cons_succ]); (refine wpAnyH_take (i := 10) (v := ?_) rfl (by kernel_rfl) (by kernel_rfl) (by kernel_rfl) (fun _ _ _ h => h) (Or.inl ⟨by rfl, ?_⟩) (by assumption) ?_; rotate_left; (focus (intro W hSw; (try dsimp only at hSw); go_simp; try (with_reducible rfl)))); (try simp only [List.getElem_toArray, List.getElem_cons_zero, List.getElem_cons_succ, Act.put, List.setIfInBounds_toArray, List.set_cons_zero, List.set_cons_succ]); (refine wpAnyH_take (i := 11) (v := ?_) rfl (by kernel_rfl) (by kernel_rfl) (by kernel_rfl) (fun _ _ _ h => h) (Or.inl ⟨by rfl, ?_⟩) (by assumption) ?_; rotate_left; (focus (intro W hSw; (try dsimp only at hSw); go_simp; try (with_reducible rfl)))); (try simp only [List.getElem_toArray, List.getElem_cons_zero, List.getElem_cons_succ, Act.put, List.setIfInBounds_toArray, List.set_cons_zero, List.set_cons_succ]); (refine wpAnyH_take (i := 12) (v := ?_) rfl (by kernel_rfl) (by kernel_rfl) (by kernel_rfl) (fun _ _ _ h => h) (Or.inl ⟨by rfl, ?_⟩) (by assumption) ?_; rotate_left; (focus (intro W hSw; (try dsimp only at hSw); go_simp; try (with_reducible rfl)))); (try simp only [List.getElem_toArray, List.getElem_cons_zero, List.getElem_cons_succ, Act.put, List.setIfInBounds_toArray, List.set_cons_zero, List.set_cons_succ]); (refine wpAnyH_take (i := 13) (v := ?_) rfl (by kernel_rfl) (by kernel_rfl) (by kernel_rfl) (fun _ _ _ h => h) (Or.inl ⟨by rfl, ?_⟩) (by assumption) ?_; rotate_left; (focus (intro W hSw; (try dsimp only at hSw); go_simp; try (with_reducible rfl)))); (try simp only [List.getElem_toArray, List.getElem_cons_zero, List.getElem_cons_succ, Act.put, List.setIfInBounds_toArray, List.set_cons_zero, List.set_cons_succ]); (refine wpAnyH_take (i := 14) (v := ?_) rfl (by kernel_rfl) (by kernel_rfl) (by kernel_rfl) (fun _ _ _ h => h) (Or.inl ⟨by rfl, ?_⟩) (by assumption) ?_; rotate_left; (focus (intro W hSw; (try dsimp only at hSw); go_simp; try (with_reducible rfl)))); (try simp only [List.getElem_toArray, List.getElem_cons_zero, List.getElem_cons_succ, Act.put, List.setIfInBounds_toArray, List.set_cons_zero, List.set_cons_succ]); (refine wpAnyH_take (i := 15) (v := ?_) rfl (by kernel_rfl) (by kernel_rfl) (by kernel_rfl) (fun _ _ _ h => h) (Or.inl ⟨by rfl, ?_⟩) (by assumption) ?_; rotate_left; (focus (intro W hSw; (try dsimp only at hSw); go_simp; try (with_reducible rfl)))); (try simp only [List.getElem_toArray, List.getElem_cons_zero, List.getElem_cons_succ, Act.put, List.setIfInBounds_toArray, List.set_cons_zero, List.set_cons_succ]); (refine wpAnyH_take (i := 16) (v := ?_) rfl (by kernel_rfl) (by kernel_rfl) (by kernel_rfl) (fun _ _ _ h => h) (Or.inl ⟨by rfl, ?_⟩) (by assumption) ?_; rotate_left; (focus (intro W hSw; (try dsimp only at hSw); go_simp; try (with_reducible rfl)))); (try simp only [List.getElem_toArray, List.getElem_cons_zero, List.getElem_cons_succ, Act.put, List.setIfInBounds_toArray, List.set_cons_zero, List.set_cons_succ]))
          (refine wpAnyH_ready (rs := [5]) (by kernel_rfl) (by simp) ?_; refine AllReadyH.cons rfl (fun K hK => ?_) AllReadyH.nil)
          go_simp
          refine (HSM.out _ (Ints.drew1 HIN.out)).mono ?_; rintro e _ ⟨rfl, rfl⟩
          refine hK.out _ _ ⟨kxr.drew1.c2.2, ca, cb⟩ (fun hHeld => ?_)
          clear hK
          (try simp only [List.getElem_toArray, List.getElem_cons_zero, List.getElem_cons_succ, Act.put, List.setIfInBounds_toArray, List.set_cons_zero, List.set_cons_succ])
          (refine wpAnyH_ready (rs := [17]) (by kernel_rfl) (by simp) ?_; refine AllReadyH.cons rfl (fun K hK => ?_) AllReadyH.nil)
          go_simp
          refine (impl_size _ _ HXS.out).mono ?_; rintro e _ ⟨rfl, rfl⟩
          rw [HAB.out]
          refine hK.out _ _ ⟨kxr.drew1.c2.2, ca, cb⟩ (fun hHeld => ?_)
          clear hK K
          (try simp only [List.getElem_toArray, List.getElem_cons_zero, List.getElem_cons_succ, Act.put, List.setIfInBounds_toArray, List.set_cons_zero, List.set_cons_succ])
          ((refine wpAnyH_take (i := 18) (v := ?_) rfl (by kernel_rfl) (by kernel_rfl) (by kernel_rfl) (fun _ _ _ h => h) (Or.inl ⟨by rfl, ?_⟩) (by assumption) ?_; rotate_left; (focus (intro W hSw; (try dsimp only at hSw); go_simp; try (with_reducible rfl)))); (try simp only [List.getElem_toArray, List.getElem_cons_zero, List.getElem_cons_succ, Act.put, List.setIfInBounds_toArray, List.set_cons_zero, List.set_cons_succ]))
          (refine wpAnyH_ready (rs := [19]) (by kernel_rfl) (by simp) ?_; refine AllReadyH.cons rfl (fun K hK => ?_) AllReadyH.nil)
          go_simp
          refine (impl_blockLetters place aN bN _ _ (by first | exact .inl rfl | exact .inr rfl) ⟨hs0, hpS⟩ (by omega) (by omega)).mono ?_; rintro e w7 ⟨A8, c8, rfl, o7', b7'⟩
          have b7 := undrew b7'
          have o7 : OwnI w7 wr.heap.size w7.heap.size A8 c8 (swTo place _ aN bN) := o7'
          have hz7 := b7.size
          have kx7 := kxr.below b7 kxr.lt
          have hnow7 := OwnC.below hnow b7 (by omega)
          refine hK.out _ _ ⟨kx7.c2.2, (own_at hnow7 ha).1, (own_at hnow7 hbb).1⟩ (fun hHeld => ?_)
          clear hK K b7' o7'
          (try simp only [List.getElem_toArray, List.getElem_cons_zero, List.getElem_cons_succ, Act.put, List.setIfInBounds_toArray, List.set_cons_zero, List.set_cons_succ])
          (refine wpAnyH_done (by kernel_rfl) ?_ _; change wpList _ _ _ _ _ _)
          clear hHeld
          have hm := Nat.mul_le_mul (show aN ≤ 4 by omega) (show bN ≤ 4 by omega)
          generalize hms : swTo place _ aN bN = ms at o7 ⊢
          have hml : ms.length ≤ 16 := by rw [← hms, swTo_length]; exact hm
          replace HD2 : Hid (dblFrom word sizes = (out ++ ms) ++ dblFrom (word.drop (i + 1)) (swapL ii now)) := by rw [← hms]; exact HD2
          clear hms hm
          have ho7 := OwnC.below ho b7 (Nat.le_refl _)
          have kz7 := kzr.below b7 kzr.lt
          have hb7 : Below w.heap.size w w7 := hbr.trans (b7.mono (by omega))
          have HKX : Hid (∀ w8, w7.grownBy w8 (Value.slice A' out.length c').ownBlock → Blk w8 w2.heap.size 51 #[.int .i64 S, .slice A' out.length c']) := Lib.hid (fun w8 hg => kx7.grownT ho7 t1 hg)
          go_wp2_with (at_builtin; refine wpList_appendC w7 rfl (.tmp 41) (.tmp 59) _ rfl 2 i0 _ 1 8 Try.underlying33 hi0 hu0 hu1 hu2 rfl (by decide) rfl ho7 (by omega) A8 ms.length c8 (ms.map (Value.int .i64)) rfl (by simp) o7.news (ints_one _) (by unfold maxLen; omega) (by omega) ?_; intro A9 c9 w8 ho8 hg8 hb8; have kx8 := HKX.out w8 hg8; obtain ⟨x0', x1'⟩ := kx8.c2; have x2' := kx8.frozen 1)
          have kx8 := HKX.out w8 hg8
          have kz8 := kz7.grownT ho7 t1 hg8
          have hz8 := hb8.size
          have hnow8 := OwnC.below hnow7 hb8 (Nat.le_refl _)
          have hb8' : Below w.heap.size w w8 := hb7.trans (hb8.mono (by omega))
          have ho9 : OwnI (w8.setCell ⟨w2.heap.size, 1, none⟩ (.slice A9 (out.length + ms.length) c9)) w5.heap.size w8.heap.size A9 c9 (out ++ ms) := by
            show OwnC _ _ _ _ _ _ _ _ _
            rw [List.map_append, List.length_append]
            exact ho8.farT kx8 t1 1 _
          have hnow9 : OwnI (w8.setCell ⟨w2.heap.size, 1, none⟩ (.slice A9 (out.length + ms.length) c9)) (w2.heap.size + 1) w5.heap.size (some ⟨g5, 0, none⟩) c5 now := OwnC.farT hnow8 kx8 t1 1 _
          have kx9 := kx8.set21 (.slice A9 (out.length + ms.length) c9)
          have kz9 := kz8.far (p := ⟨w2.heap.size, 1, none⟩) (by show w.heap.size + 1 ≠ w2.heap.size; omega) (.slice A9 (out.length + ms.length) c9)
          have hb9 : Below w.heap.size w (w8.setCell ⟨w2.heap.size, 1, none⟩ (.slice A9 (out.length + ms.length) c9)) := by (repeat (first | exact Below.refl _ _ | assumption | apply Below.drew | apply below_drewN | (refine Below.alloc ?_ (by first | omega | (simp; done) | (simp; omega)) _) | (refine Below.setCell ?_ (by first | omega | (simp; done) | (simp; omega)) _)))
          have hz9 : w8.heap.size = (w8.setCell ⟨w2.heap.size, 1, none⟩ (.slice A9 (out.length + ms.length) c9)).heap.size := by simp
          rw [hz9] at ho9 hz8
          obtain ⟨w9, hw9⟩ : ∃ w9, w9 = w8.setCell ⟨w2.heap.size, 1, none⟩ (.slice A9 (out.length + ms.length) c9) := ⟨_, rfl⟩
          rw [← hw9] at ho9 hnow9 kx9 kz9 hb9 hz8 ⊢
          clear hw9 hz9 HKX
          obtain ⟨ca9, fa9, _, _⟩ := own_at hnow9 ha
          obtain ⟨cb9, fb9, _, _⟩ := own_at hnow9 hbb
          go_wp2_with (fail)
          (refine wp_region_pops 2 (S := (fun _ => True)) (pre := ?_) (T := ?_) (n := ?_) (by kernel_rfl) (by kernel_rfl) ?_ ?_ ?_ ?_ (fun hHeld => ?_); rotate_left 3; (focus (simp only [pops, List.pop_toArray, List.dropLast_cons_cons, List.dropLast_singleton]; rfl)); (focus (simp only [tailOf, List.pop_toArray, List.dropLast_cons_cons, List.dropLast_singleton, List.back?_toArray, List.getLast?_cons_cons, List.getLast?_singleton, Option.toList_some, List.nil_append, List.cons_append]; rfl)); (focus rfl); (focus (exact trivial)))
          ((refine wpAnyH_take (i := 0) (v := ?_) rfl (by kernel_rfl) (by kernel_rfl) (by kernel_rfl) (fun _ _ _ h => h) (Or.inl ⟨by rfl, ?_⟩) (by assumption) ?_; rotate_left; (focus (intro W hSw; (try dsimp only at hSw); go_simp; try (with_reducible rfl)))); (try simp only [List.getElem_toArray, List.getElem_cons_zero, Act.put, List.setIfInBounds_toArray, List.set_cons_zero, List.set_cons_succ]); (refine wpAnyH_take (i := 1) (v := ?_) rfl (by kernel_rfl) (by kernel_rfl) (by kernel_rfl) (fun _ _ _ h => h) (Or.inl ⟨by rfl, ?_⟩) (by assumption) ?_; rotate_left; (focus (intro W hSw; (try dsimp only at hSw); go_simp; try (with_reducible rfl)))); (try simp only [List.getElem_toArray, List.getElem_cons_zero, List.getElem_cons_succ, Act.put, List.setIfInBounds_toArray, List.set_cons_zero, List.set_cons_succ]); (refine wpAnyH_take (i := 2) (v := ?_) rfl (by kernel_rfl) (by kernel_rfl) (by kernel_rfl) (fun _ _ _ h => h) (Or.inl ⟨by rfl, ?_⟩) (by assumption) ?_; rotate_left; (focus (intro W hSw; (try dsimp only at hSw); go_simp; try (with_reducible rfl)))); (try simp only [List.getElem_toArray, List.getElem_cons_zero, List.getElem_cons_succ, Act.put, List.setIfInBounds_toArray, List.set_cons_zero, List.set_cons_succ]); (refine wpAnyH_take (i := 3) (v := ?_) rfl (by kernel_rfl) (by kernel_rfl) (by kernel_rfl) (fun _ _ _ h => h) (Or.inl ⟨by rfl, ?_⟩) (by assumption) ?_; rotate_left; (focus (intro W hSw; (try dsimp only at hSw); go_simp; try (with_reducible rfl)))); (try simp only [List.getElem_toArray, List.getElem_cons_zero, List.getElem_cons_succ, Act.put, List.setIfInBounds_toArray, List.set_cons_zero, List.set_cons_succ]); (refine wpAnyH_take (i := 4) (v := ?_) rfl (by kernel_rfl) (by kernel_rfl) (by kernel_rfl) (fun _ _ _ h => h) (Or.inl ⟨by rfl, ?_⟩) (by assumption) ?_; rotate_left; (focus (intro W hSw; (try dsimp only at hSw); go_simp; try (with_reducible rfl)))); (try simp only [List.getElem_toArray, List.getElem_cons_zero, List.getElem_cons_succ, Act.put, List.setIfInBounds_toArray, List.set_cons_zero, List.set_cons_succ]); (refine wpAnyH_take (i := 5) (v := ?_) rfl (by kernel_rfl) (by kernel_rfl) (by kernel_rfl) (fun _ _ _ h => h) (Or.inl ⟨by rfl, ?_⟩) (by assumption) ?_; rotate_left; (focus (intro W hSw; (try dsimp only at hSw); go_simp; try (with_reducible rfl)))); (try simp only [List.getElem_toArray, List.getElem_cons_zero, List.getElem_cons_succ, Act.put, List.setIfInBounds_toArray, List.set_cons_zero, List.set_cons_succ]); (refine wpAnyH_take (i := 6) (v := ?_) rfl (by kernel_rfl) (by kernel_rfl) (by kernel_rfl) (fun _ _ _ h => h) (Or.inl ⟨by rfl, ?_⟩) (by assumption) ?_; rotate_left; (focus (intro W hSw; (try dsimp only at hSw); go_simp; try (with_reducible rfl)))); (try simp only [List.getElem_toArray, List.getElem_cons_zero, List.getElem_cons_succ, Act.put, List.setIfInBounds_toArray, List.set_cons_zero, List.set_cons_succ]); (refine wpAnyH_take (i := 7) (v := ?_) rfl (by kernel_rfl) (by kernel_rfl) (by kernel_rfl) (fun _ _ _ h => h) (Or.inl ⟨by rfl, ?_⟩) (by assumption) ?_; rotate_left; (focus (intro W hSw; (try dsimp only at hSw); go_simp; try (with_reducible rfl)))); (try simp only [List.getElem_toArray, List.getElem_cons_zero, List.getElem_cons_succ, Act.put, List.setIfInBounds_toArray, List.set_cons_zero, List.set_cons_succ]); (refine wpAnyH_take (i := 8) (v := ?_) rfl (by kernel_rfl) (by kernel_rfl) (by kernel_rfl) (fun _ _ _ h => h) (Or.inl ⟨by rfl, ?_⟩) (by assumption) ?_; rotate_left; (focus (intro W hSw; (try dsimp only at hSw); go_simp; try (with_reducible rfl)))); (try simp only [List.getElem_toArray, List.getElem_cons_zero, List.getElem_cons_succ, Act.put, List.setIfInBounds_toArray, List.set_cons_zero, List.set_cons_succ]); (refine wpAnyH_take (i := 10) (v := ?_) rfl (by kernel_rfl) (by kernel_rfl) (by kernel_rfl) (fun _ _ _ h => h) (Or.inl ⟨by rfl, ?_⟩) (by assumption) ?_; rotate_left; (focus (intro W hSw; (try dsimp only at hSw); go_simp; try (with_reducible rfl)))); (try simp only [List.getElem_toArray, List.getElem_cons_zero, List.getElem_cons_succ, Act.put, List.setIfInBounds_toArray, List.set_cons_zero, List.set_cons_succ]); (refine wpAnyH_take (i := 11) (v := ?_) rfl (by kernel_rfl) (by kernel_rfl) (by kernel_rfl) (fun _ _ _ h => h) (Or.inl ⟨by rfl, ?_⟩) (by assumption) ?_; rotate_left; (focus (intro W hSw; (try dsimp only at hSw); go_simp; try (with_reducible rfl)))); (try simp only [List.getElem_toArray, List.getElem_cons_zero, List.getElem_cons_succ, Act.put, List.setIfInBounds_toArray, List.set_cons_zero, List.set_cons_succ]); (refine wpAnyH_take (i := 12) (v := ?_) rfl (by kernel_rfl) (by kernel_rfl) (by kernel_rfl) (fun _ _ _ h => h) (Or.inl ⟨by rfl, ?_⟩) (by assumption) ?_; rotate_left; (focus (intro W hSw; (try dsimp only at hSw); go_simp; try (with_reducible rfl)))); (try simp only [List.getElem_toArray, List.getElem_cons_zero, List.getElem_cons_succ, Act.put, List.setIfInBounds_toArray, List.set_cons_zero, List.set_cons_succ]))
          refine wpAnyH_ready (rs := [9, 13]) (by kernel_rfl) (by simp) ?_
          refine AllReadyH.cons rfl (fun K hK => ?_) (AllReadyH.cons rfl (fun K hK => ?_) AllReadyH.nil)
          · go_simp
            refine hK.out _ _ trivial (fun hHeld => ?_)
            clear hK K
            (try simp only [List.getElem_toArray, List.getElem_cons_zero, List.getElem_cons_succ, Act.put, List.setIfInBounds_toArray, List.set_cons_zero, List.set_cons_succ])
            (refine wpAnyH_ready (rs := [13]) (by kernel_rfl) (by simp) ?_; refine AllReadyH.cons rfl (fun K hK => ?_) AllReadyH.nil)
            go_simp
            refine hK.out _ _ trivial (fun hHeld => ?_)
            clear hK K
            (try simp only [List.getElem_toArray, List.getElem_cons_zero, List.getElem_cons_succ, Act.put, List.setIfInBounds_toArray, List.set_cons_zero, List.set_cons_succ])
            ((refine wpAnyH_take (i := 14) (v := ?_) rfl (by kernel_rfl) (by kernel_rfl) (by kernel_rfl) (fun _ _ _ h => h) (Or.inl ⟨by rfl, ?_⟩) (by assumption) ?_; rotate_left; (focus (intro W hSw; (try dsimp only at hSw); go_simp; try (with_reducible rfl)))); (try simp only [List.getElem_toArray, List.getElem_cons_zero, List.getElem_cons_succ, Act.put, List.setIfInBounds_toArray, List.set_cons_zero, List.set_cons_succ]))
            refine wpAnyH_end (i := 15) (by kernel_rfl) rfl rfl (by kernel_rfl) ?_
            go_wp2_with (fail)
            refine lastQ_mk trivial ?_
            change wpList _ _ _ _ _ _
            go_wp2_with (fail)
            have hz10 := hb9.size
            refine ⟨⟨i + 1, A9, c9, out ++ ms, swapL ii now, by omega, by go_num, ((kz9.far (p := ⟨g5, ii, none⟩) (by show w.heap.size + 1 ≠ g5; omega) _).far (p := ⟨g5, ii + 1, none⟩) (by show w.heap.size + 1 ≠ g5; omega) _).drew1, ?_, ?_, OwnC.drew1 (own_swap hnow9 ha hbb), hn2, Below.drew (Below.setCell (p := ⟨g5, ii + 1, none⟩) (Below.setCell (p := ⟨g5, ii, none⟩) hb9 (by show w.heap.size ≤ g5; omega) _) (by show w.heap.size ≤ g5; omega) _), by simp; omega, HD2, by simp; omega⟩, by first | (simp [intOf]; done) | (simp [intOf]; omega)⟩
            · rw [List.length_append]
              exact ((kx9.far (p := ⟨g5, ii, none⟩) (by show w2.heap.size ≠ g5; omega) _).far (p := ⟨g5, ii + 1, none⟩) (by show w2.heap.size ≠ g5; omega) _).drew1
            · exact OwnC.drew1 (OwnC.mono (OwnC.far (p := ⟨g5, ii + 1, none⟩) (OwnC.far (p := ⟨g5, ii, none⟩) ho9 (.inl gb) _) (.inl gb) _) (Nat.le_refl _) (by simp))
          · go_simp
            refine hK.out _ _ trivial (fun hHeld => ?_)
            clear hK K
            (try simp only [List.getElem_toArray, List.getElem_cons_zero, List.getElem_cons_succ, Act.put, List.setIfInBounds_toArray, List.set_cons_zero, List.set_cons_succ])
            (refine wpAnyH_ready (rs := [9]) (by kernel_rfl) (by simp) ?_; refine AllReadyH.cons rfl (fun K hK => ?_) AllReadyH.nil)
            go_simp
            refine hK.out _ _ trivial (fun hHeld => ?_)
            clear hK K
            (try simp only [List.getElem_toArray, List.getElem_cons_zero, List.getElem_cons_succ, Act.put, List.setIfInBounds_toArray, List.set_cons_zero, List.set_cons_succ])
            ((refine wpAnyH_take (i := 14) (v := ?_) rfl (by kernel_rfl) (by kernel_rfl) (by kernel_rfl) (fun _ _ _ h => h) (Or.inl ⟨by rfl, ?_⟩) (by assumption) ?_; rotate_left; (focus (intro W hSw; (try dsimp only at hSw); go_simp; try (with_reducible rfl)))); (try simp only [List.getElem_toArray, List.getElem_cons_zero, List.getElem_cons_succ, Act.put, List.setIfInBounds_toArray, List.set_cons_zero, List.set_cons_succ]))
            refine wpAnyH_end (i := 15) (by kernel_rfl) rfl rfl (by kernel_rfl) ?_
            go_wp2_with (fail)
            refine lastQ_mk trivial ?_
            change wpList _ _ _ _ _ _
            go_wp2_with (fail)
            have hz10 := hb9.size
            refine ⟨⟨i + 1, A9, c9, out ++ ms, swapL ii now, by omega, by go_num, ((kz9.far (p := ⟨g5, ii, none⟩) (by show w.heap.size + 1 ≠ g5; omega) _).far (p := ⟨g5, ii + 1, none⟩) (by show w.heap.size + 1 ≠ g5; omega) _).drew1, ?_, ?_, OwnC.drew1 (own_swap hnow9 ha hbb), hn2, Below.drew (Below.setCell (p := ⟨g5, ii + 1, none⟩) (Below.setCell (p := ⟨g5, ii, none⟩) hb9 (by show w.heap.size ≤ g5; omega) _) (by show w.heap.size ≤ g5; omega) _), by simp; omega, HD2, by simp; omega⟩, by first | (simp [intOf]; done) | (simp [intOf]; omega)⟩
            · rw [List.length_append]
              exact ((kx9.far (p := ⟨g5, ii, none⟩) (by show w2.heap.size ≠ g5; omega) _).far (p := ⟨g5, ii + 1, none⟩) (by show w2.heap.size ≠ g5; omega) _).drew1
            · exact OwnC.drew1 (OwnC.mono (OwnC.far (p := ⟨g5, ii + 1, none⟩) (OwnC.far (p := ⟨g5, ii, none⟩) ho9 (.inl gb) _) (.inl gb) _) (Nat.le_refl _) (by simp))
      · obtain rfl : i = word.length := by omega
        have HQ : Hid (dblFrom word sizes = out) := Lib.hid (by
          have he := HD.out
          rwa [drop_all (by omega), dblFrom, List.append_nil] at he)
        clear HD
        obtain ⟨x0, x1⟩ := kxr.c2
        obtain ⟨r0, r1⟩ := kzr.c2
        have g0 := kzr.frozen 0
        have g1 := kzr.frozen 1
        have hd12 : decide ((12 : Int) < S) = false := decide_eq_false (by omega)
        by_cases h40 : out.length ≤ 40
        · have h40' : decide ((40 : Int) < (out.length : Int)) = false := decide_eq_false (by omega)
          have HF : Hid (dbX word sizes = ⟨S, out⟩ ∧ dbCode word sizes = 0) := Lib.hid (by
            have e : dbCode word sizes = 0 := by rw [HC.out, HQ.out, if_pos h40]
            exact ⟨by rw [dbX, if_pos e, HQ.out, HSS.out], e⟩)
          clear h40
          go_wp2_with (fail)
          refine bodyPost_ret (v := .tuple #[.agg #[.int .i64 (dbX word sizes).n, .slice A' (dbX word sizes).xs.length c'], .int .i64 (dbCode word sizes)]) (by rw [HF.out.1, HF.out.2]; simp [results, Try.results89, go_sem, r0, r1]) rfl ⟨A', c', rfl, ?_, ?_⟩
          · rw [HF.out.1]
            have k1 := kzr.set20 (.int .i64 S)
            exact OwnC.mono ((ho.farT kzr t1 0 _).farT k1 t1 1 _) (by omega) (by simp)
          · (repeat (first | exact Below.refl _ _ | assumption | apply Below.drew | apply below_drewN | (refine Below.alloc ?_ (by first | omega | (simp; done) | (simp; omega)) _) | (refine Below.setCell ?_ (by first | omega | (simp; done) | (simp; omega)) _)))
        · have h40' : decide ((40 : Int) < (out.length : Int)) = true := decide_eq_true (by omega)
          have HF := Lib.hid (db_err (k := 5) (by rw [HC.out, HQ.out, if_neg h40]) (by decide))
          clear h40
          go_wp2_with (fail)
          refine bodyPost_ret (v := .tuple #[.agg #[.int .i64 (dbX word sizes).n, .slice none (dbX word sizes).xs.length 0], .int .i64 (dbCode word sizes)]) (by rw [HF.out.1, HF.out.2]; simp [results, Try.results89, go_sem, r0, r1]) rfl ⟨none, 0, rfl, ?_, ?_⟩
          · rw [HF.out.1]; exact OwnC.nil _ _ _ _ _
          · (repeat (first | exact Below.refl _ _ | assumption | apply Below.drew | apply below_drewN | (refine Below.alloc ?_ (by first | omega | (simp; done) | (simp; omega)) _) | (refine Below.setCell ?_ (by first | omega | (simp; done) | (simp; omega)) _)))

end Go.Proofs.Ytfgbhhkmdeljoaa

/- Braids of rows over stacks: RowBraid. -/
namespace Go.Proofs.Ytfgbhhkmdeljoaa
open Go Go.RowKit

set_option maxHeartbeats 2000000 in
theorem spec_RowBraid (d r : Int) (ks sizes : List Int) (A B : Option Addr) (c c2 : Nat) (w : World) (h : Ints w A ks) (hl : ks.length ≤ 9223372036854775807) (h' : Ints w B sizes) (hl' : sizes.length ≤ 9223372036854775807) :
    Calls Try.prog 47 #[.agg #[.int .i64 d, .int .i64 r, .slice A ks.length c], .slice B sizes.length c2] w fun e w' => ∃ A' c', e = .returned (.tuple #[.agg #[.int .i64 (rbX d r ks sizes).n, .slice A' (rbX d r ks sizes).xs.length c'], .int .i64 (rbCode d r ks sizes)]) ∧ OwnI w' w.heap.size w'.heap.size A' c' (rbX d r ks sizes).xs ∧ Below w.heap.size w w' := by
  have t1 : (51 : TypeId) ≠ 2 := by decide
  obtain ⟨w1, hw1⟩ : ∃ w1, w1 = (w.alloc (.cells #[.int .i64 d, .int .i64 r, .slice A ks.length c] 60)).alloc (.cells #[.int .i64 0, .slice none 0 0] 51) := ⟨_, rfl⟩
  have hb1 : Below w.heap.size w w1 := by rw [hw1]; (repeat (first | exact Below.refl _ _ | assumption | apply Below.drew | apply below_drewN | (refine Below.alloc ?_ (by first | omega | (simp; done) | (simp; omega)) _) | (refine Below.setCell ?_ (by first | omega | (simp; done) | (simp; omega)) _)))
  have ka : Blk w1 w.heap.size 60 #[.int .i64 d, .int .i64 r, .slice A ks.length c] := by rw [hw1]; exact (Blk.new w _ _).alloc _
  have kz : Blk w1 (w.heap.size + 1) 51 #[.int .i64 0, .slice none 0 0] := by rw [hw1]; simpa using Blk.new (w.alloc (.cells #[.int .i64 d, .int .i64 r, .slice A ks.length c] 60)) 51 #[.int .i64 0, .slice none 0 0]
  have hz1 : w.heap.size + 2 ≤ w1.heap.size := kz.lt
  cases hv : rowB d r ks
  · have HF := Lib.hid (rb_err (sizes := sizes) (k := 1) (by rw [rbCode, hv]; rfl) (by decide))
    go_enter Try.func47, Try.ntmps47
    go_wp2_with (fail)
    rw [← hw1]; clear hw1
    refine (spec_l15Row _ _ d r A c ks _ (h.below hb1) hl ka.c3.1 ka.c3.2.1 ka.c3.2.2).mono ?_; rintro e _ ⟨rfl, rfl⟩
    have hb2 := hb1; have ka2 := ka; have kz2 := kz
    obtain ⟨r0, r1⟩ := kz2.c2
    have g0 := kz2.frozen 0
    have g1 := kz2.frozen 1
    rw [hv]
    go_wp2_with (fail)
    refine bodyPost_ret (v := .tuple #[.agg #[.int .i64 (rbX d r ks sizes).n, .slice none (rbX d r ks sizes).xs.length 0], .int .i64 (rbCode d r ks sizes)]) (by rw [HF.out.1, HF.out.2]; simp [results, Try.results47, go_sem, r0, r1]) rfl ⟨none, 0, rfl, ?_, ?_⟩
    · rw [HF.out.1]; exact OwnC.nil _ _ _ _ _
    · (repeat (first | exact Below.refl _ _ | assumption | apply Below.drew | apply below_drewN | (refine Below.alloc ?_ (by first | omega | (simp; done) | (simp; omega)) _) | (refine Below.setCell ?_ (by first | omega | (simp; done) | (simp; omega)) _)))
  · cases hs : sizesB sizes
    · have HF := Lib.hid (rb_err (d := d) (r := r) (ks := ks) (k := 1) (by rw [rbCode, hv, hs]; rfl) (by decide))
      go_enter Try.func47, Try.ntmps47
      go_wp2_with (fail)
      rw [← hw1]; clear hw1
      refine (spec_l15Row _ _ d r A c ks _ (h.below hb1) hl ka.c3.1 ka.c3.2.1 ka.c3.2.2).mono ?_; rintro e _ ⟨rfl, rfl⟩
      have hb2 := hb1; have ka2 := ka; have kz2 := kz
      obtain ⟨r0, r1⟩ := kz2.c2
      have g0 := kz2.frozen 0
      have g1 := kz2.frozen 1
      rw [hv]
      go_wp2_with (fail)
      refine (spec_l17Ok B c2 sizes _ (h'.below hb2) hl').mono ?_; rintro e _ ⟨rfl, rfl⟩
      rw [hs]
      go_wp2_with (fail)
      refine bodyPost_ret (v := .tuple #[.agg #[.int .i64 (rbX d r ks sizes).n, .slice none (rbX d r ks sizes).xs.length 0], .int .i64 (rbCode d r ks sizes)]) (by rw [HF.out.1, HF.out.2]; simp [results, Try.results47, go_sem, r0, r1]) rfl ⟨none, 0, rfl, ?_, ?_⟩
      · rw [HF.out.1]; exact OwnC.nil _ _ _ _ _
      · (repeat (first | exact Below.refl _ _ | assumption | apply Below.drew | apply below_drewN | (refine Below.alloc ?_ (by first | omega | (simp; done) | (simp; omega)) _) | (refine Below.setCell ?_ (by first | omega | (simp; done) | (simp; omega)) _)))
    · have hks := (rowB_of hv).2.2.1
      have hl8 := (nowB_of hs).2.1
      obtain ⟨hl1, hl8⟩ := hl8
      have HV := Lib.hid hv
      have HS := Lib.hid hs
      go_enter Try.func47, Try.ntmps47
      go_wp2_with (fail)
      rw [← hw1]; clear hw1
      refine (spec_l15Row _ _ d r A c ks _ (h.below hb1) hl ka.c3.1 ka.c3.2.1 ka.c3.2.2).mono ?_; rintro e _ ⟨rfl, rfl⟩
      have hb2 := hb1; have ka2 := ka; have kz2 := kz
      rw [hv]
      go_wp2_with (fail)
      refine (spec_l17Ok B c2 sizes _ (h'.below hb2) hl').mono ?_; rintro e _ ⟨rfl, rfl⟩
      rw [hs]
      clear hv hs
      have hz2 : w.heap.size + 2 ≤ w1.heap.size := kz2.lt
      have HTP : Hid (takenP ks = takenS ks) := Lib.hid (takenP_of hks)
      have HCD : Hid (rowCodeP d r ks = if laidB ks then 0 else 10) := Lib.hid (by rw [rowCodeP, if_pos HV.out])
      go_wp2_with (fail)
      refine (spec_l20Ask _ _ d r A c ks _ (h.below hb2) hl ka2.c3.1 ka2.c3.2.1 ka2.c3.2.2).mono ?_; rintro e w3 ⟨rfl, b3⟩
      have hb3 : Below w.heap.size w w3 := hb2.trans (b3.mono (by omega)); have ka3 := ka2.below b3 (by omega); have kz3 := kz2.below b3 (by omega); have hz3 : w.heap.size + 2 ≤ w3.heap.size := kz3.lt
      cases hla : laidB ks
      · have HF := Lib.hid (rb_err (k := 10) (by rw [rbCode, HV.out, HS.out, rbOk, hla]; rfl) (by decide))
        rw [HCD.out, hla]
        obtain ⟨r0, r1⟩ := kz3.c2
        have g0 := kz3.frozen 0
        have g1 := kz3.frozen 1
        go_wp2_with (fail)
        refine bodyPost_ret (v := .tuple #[.agg #[.int .i64 (rbX d r ks sizes).n, .slice none (rbX d r ks sizes).xs.length 0], .int .i64 (rbCode d r ks sizes)]) (by rw [HF.out.1, HF.out.2]; simp [results, Try.results47, go_sem, r0, r1]) rfl ⟨none, 0, rfl, ?_, ?_⟩
        · rw [HF.out.1]; exact OwnC.nil _ _ _ _ _
        · (repeat (first | exact Below.refl _ _ | assumption | apply Below.drew | apply below_drewN | (refine Below.alloc ?_ (by first | omega | (simp; done) | (simp; omega)) _) | (refine Below.setCell ?_ (by first | omega | (simp; done) | (simp; omega)) _)))
      · have HLA := Lib.hid hla
        rw [HCD.out, hla]
        obtain ⟨y0, y1, y2⟩ := ka3.c3
        go_wp2_with (fail)
        refine (spec_TakenBy A c ks _ (h.below hb3) hl).mono ?_; rintro e w4 ⟨rfl, b4⟩
        have hb4 : Below w.heap.size w w4 := hb3.trans (b4.mono (by omega)); have kz4 := kz3.below b4 (by omega); have ka4 := ka3.below b4 (by omega); have hz4 : w.heap.size + 2 ≤ w4.heap.size := kz4.lt
        rw [HTP.out]
        by_cases htk : takenS ks = sizes.length
        · have htk' : (((takenS ks : Nat) : Int) != (sizes.length : Int)) = false := by simp [htk]
          have HG := Lib.hid (rb_good HV.out HS.out (show rbOk ks sizes = true by rw [rbOk, HLA.out, htk]; simp))
          clear htk hla
          obtain ⟨z0, z1, z2⟩ := ka4.c3
          go_wp2_with (fail)
          refine (spec_l18Letters _ _ A c ks _ (h.below hb4) hks ka4.c3.2.2).mono ?_; rintro e w5 ⟨A5, c5, rfl, o5, b5⟩
          have hb5 : Below w.heap.size w w5 := hb4.trans (b5.mono (by omega))
          have kz5 := kz4.below b5 (by omega)
          have hz5 : w.heap.size + 2 ≤ w5.heap.size := kz5.lt
          have hlen := lettersFrom_length ks 0
          have h16 := (stitchesB_of hks).1
          generalize lettersFrom ks 0 = word at o5 HG hlen ⊢
          go_wp2_with (fail)
          refine (spec_DoubleBraid word sizes A5 B c5 c2 _ (OwnC.ints o5) (by omega) (h'.below hb5) HS.out).mono ?_; rintro e w6 ⟨A6, c6, rfl, o6, b6⟩
          have hb6 : Below w.heap.size w w6 := hb5.trans (b6.mono (by omega))
          have kz6 := kz5.below b6 (by omega)
          have hz6 := b6.size
          obtain ⟨r0, r1⟩ := kz6.c2
          have g0 := kz6.frozen 0
          have g1 := kz6.frozen 1
          generalize dbX word sizes = X at o6 HG ⊢
          generalize dbCode word sizes = Y at HG ⊢
          go_wp2_with (fail)
          refine bodyPost_ret (v := .tuple #[.agg #[.int .i64 (rbX d r ks sizes).n, .slice A6 (rbX d r ks sizes).xs.length c6], .int .i64 (rbCode d r ks sizes)]) (by rw [HG.out.1, HG.out.2]; simp [results, Try.results47, go_sem, r0, r1]) rfl ⟨A6, c6, rfl, ?_, ?_⟩
          · rw [HG.out.1]
            have k1 := kz6.set20 (.int .i64 X.n)
            exact OwnC.mono ((o6.farT kz6 t1 0 _).farT k1 t1 1 _) (by omega) (by simp)
          · (repeat (first | exact Below.refl _ _ | assumption | apply Below.drew | apply below_drewN | (refine Below.alloc ?_ (by first | omega | (simp; done) | (simp; omega)) _) | (refine Below.setCell ?_ (by first | omega | (simp; done) | (simp; omega)) _)))
        · have htk' : (((takenS ks : Nat) : Int) != (sizes.length : Int)) = true := by simpa using fun e => htk (by omega)
          have HF := Lib.hid (rb_err (k := 10) (by rw [rbCode, HV.out, HS.out, rbOk, HLA.out]; simp; omega) (by decide))
          clear htk hla
          obtain ⟨r0, r1⟩ := kz4.c2
          have g0 := kz4.frozen 0
          have g1 := kz4.frozen 1
          go_wp2_with (fail)
          refine bodyPost_ret (v := .tuple #[.agg #[.int .i64 (rbX d r ks sizes).n, .slice none (rbX d r ks sizes).xs.length 0], .int .i64 (rbCode d r ks sizes)]) (by rw [HF.out.1, HF.out.2]; simp [results, Try.results47, go_sem, r0, r1]) rfl ⟨none, 0, rfl, ?_, ?_⟩
          · rw [HF.out.1]; exact OwnC.nil _ _ _ _ _
          · (repeat (first | exact Below.refl _ _ | assumption | apply Below.drew | apply below_drewN | (refine Below.alloc ?_ (by first | omega | (simp; done) | (simp; omega)) _) | (refine Below.setCell ?_ (by first | omega | (simp; done) | (simp; omega)) _)))

set_option maxHeartbeats 2000000 in
theorem impl_RowBraid (d r : Int) (ks sizes : List Int) (A B : Option Addr) (c c2 : Nat) (w : World) (h : Ints w A ks) (hl : ks.length ≤ 9223372036854775807) (h' : Ints w B sizes) (hl' : sizes.length ≤ 9223372036854775807) :
    Calls Try.prog 50 #[.agg #[.int .i64 d, .int .i64 r, .slice A ks.length c], .slice B sizes.length c2] w fun e w' => ∃ A' c', e = .returned (.tuple #[.agg #[.int .i64 (rbX d r ks sizes).n, .slice A' (rbX d r ks sizes).xs.length c'], .int .i64 (rbCode d r ks sizes)]) ∧ OwnI w' w.heap.size w'.heap.size A' c' (rbX d r ks sizes).xs ∧ Below w.heap.size w w' := by
  have t1 : (51 : TypeId) ≠ 2 := by decide
  obtain ⟨w1, hw1⟩ : ∃ w1, w1 = (w.alloc (.cells #[.int .i64 d, .int .i64 r, .slice A ks.length c] 60)).alloc (.cells #[.int .i64 0, .slice none 0 0] 51) := ⟨_, rfl⟩
  have hb1 : Below w.heap.size w w1 := by rw [hw1]; (repeat (first | exact Below.refl _ _ | assumption | apply Below.drew | apply below_drewN | (refine Below.alloc ?_ (by first | omega | (simp; done) | (simp; omega)) _) | (refine Below.setCell ?_ (by first | omega | (simp; done) | (simp; omega)) _)))
  have ka : Blk w1 w.heap.size 60 #[.int .i64 d, .int .i64 r, .slice A ks.length c] := by rw [hw1]; exact (Blk.new w _ _).alloc _
  have kz : Blk w1 (w.heap.size + 1) 51 #[.int .i64 0, .slice none 0 0] := by rw [hw1]; simpa using Blk.new (w.alloc (.cells #[.int .i64 d, .int .i64 r, .slice A ks.length c] 60)) 51 #[.int .i64 0, .slice none 0 0]
  have hz1 : w.heap.size + 2 ≤ w1.heap.size := kz.lt
  cases hv : rowB d r ks
  · have HF := Lib.hid (rb_err (sizes := sizes) (k := 1) (by rw [rbCode, hv]; rfl) (by decide))
    go_enter Try.func50, Try.ntmps50
    go_wp2_with (fail)
    rw [← hw1]; clear hw1
    refine (impl_ValidRow d r A c ks _ (h.below hb1) hl).mono ?_; rintro e w2 ⟨rfl, b2⟩
    have hb2 : Below w.heap.size w w2 := hb1.trans (b2.mono (by omega)); have ka2 := ka.below b2 (by omega); have kz2 := kz.below b2 (by omega)
    obtain ⟨r0, r1⟩ := kz2.c2
    have g0 := kz2.frozen 0
    have g1 := kz2.frozen 1
    rw [hv]
    go_wp2_with (fail)
    refine bodyPost_ret (v := .tuple #[.agg #[.int .i64 (rbX d r ks sizes).n, .slice none (rbX d r ks sizes).xs.length 0], .int .i64 (rbCode d r ks sizes)]) (by rw [HF.out.1, HF.out.2]; simp [results, Try.results50, go_sem, r0, r1]) rfl ⟨none, 0, rfl, ?_, ?_⟩
    · rw [HF.out.1]; exact OwnC.nil _ _ _ _ _
    · (repeat (first | exact Below.refl _ _ | assumption | apply Below.drew | apply below_drewN | (refine Below.alloc ?_ (by first | omega | (simp; done) | (simp; omega)) _) | (refine Below.setCell ?_ (by first | omega | (simp; done) | (simp; omega)) _)))
  · cases hs : sizesB sizes
    · have HF := Lib.hid (rb_err (d := d) (r := r) (ks := ks) (k := 1) (by rw [rbCode, hv, hs]; rfl) (by decide))
      go_enter Try.func50, Try.ntmps50
      go_wp2_with (fail)
      rw [← hw1]; clear hw1
      refine (impl_ValidRow d r A c ks _ (h.below hb1) hl).mono ?_; rintro e w2 ⟨rfl, b2⟩
      have hb2 : Below w.heap.size w w2 := hb1.trans (b2.mono (by omega)); have ka2 := ka.below b2 (by omega); have kz2 := kz.below b2 (by omega)
      obtain ⟨r0, r1⟩ := kz2.c2
      have g0 := kz2.frozen 0
      have g1 := kz2.frozen 1
      rw [hv]
      go_wp2_with (fail)
      refine (impl_ValidSizes B c2 sizes _ (h'.below hb2) hl').mono ?_; rintro e _ ⟨rfl, rfl⟩
      rw [hs]
      go_wp2_with (fail)
      refine bodyPost_ret (v := .tuple #[.agg #[.int .i64 (rbX d r ks sizes).n, .slice none (rbX d r ks sizes).xs.length 0], .int .i64 (rbCode d r ks sizes)]) (by rw [HF.out.1, HF.out.2]; simp [results, Try.results50, go_sem, r0, r1]) rfl ⟨none, 0, rfl, ?_, ?_⟩
      · rw [HF.out.1]; exact OwnC.nil _ _ _ _ _
      · (repeat (first | exact Below.refl _ _ | assumption | apply Below.drew | apply below_drewN | (refine Below.alloc ?_ (by first | omega | (simp; done) | (simp; omega)) _) | (refine Below.setCell ?_ (by first | omega | (simp; done) | (simp; omega)) _)))
    · have hks := (rowB_of hv).2.2.1
      have hl8 := (nowB_of hs).2.1
      obtain ⟨hl1, hl8⟩ := hl8
      have HV := Lib.hid hv
      have HS := Lib.hid hs
      go_enter Try.func50, Try.ntmps50
      go_wp2_with (fail)
      rw [← hw1]; clear hw1
      refine (impl_ValidRow d r A c ks _ (h.below hb1) hl).mono ?_; rintro e w2 ⟨rfl, b2⟩
      have hb2 : Below w.heap.size w w2 := hb1.trans (b2.mono (by omega)); have ka2 := ka.below b2 (by omega); have kz2 := kz.below b2 (by omega)
      rw [hv]
      go_wp2_with (fail)
      refine (impl_ValidSizes B c2 sizes _ (h'.below hb2) hl').mono ?_; rintro e _ ⟨rfl, rfl⟩
      rw [hs]
      clear hv hs
      have hz2 : w.heap.size + 2 ≤ w2.heap.size := kz2.lt
      have HTP : Hid (takenP ks = takenS ks) := Lib.hid (takenP_of hks)
      have HCD : Hid (rowCodeP d r ks = if laidB ks then 0 else 10) := Lib.hid (by rw [rowCodeP, if_pos HV.out])
      obtain ⟨q0, q1, q2⟩ := ka2.c3
      go_wp2_with (fail)
      refine (impl_isLaidOut d r ks A c _ (h.below hb2) hks).mono ?_; rintro e w3 ⟨rfl, b3⟩
      have hb3 : Below w.heap.size w w3 := hb2.trans (b3.mono (by omega)); have ka3 := ka2.below b3 (by omega); have kz3 := kz2.below b3 (by omega); have hz3 : w.heap.size + 2 ≤ w3.heap.size := kz3.lt
      cases hla : laidB ks
      · have HF := Lib.hid (rb_err (k := 10) (by rw [rbCode, HV.out, HS.out, rbOk, hla]; rfl) (by decide))
        skip
        obtain ⟨r0, r1⟩ := kz3.c2
        have g0 := kz3.frozen 0
        have g1 := kz3.frozen 1
        go_wp2_with (fail)
        refine bodyPost_ret (v := .tuple #[.agg #[.int .i64 (rbX d r ks sizes).n, .slice none (rbX d r ks sizes).xs.length 0], .int .i64 (rbCode d r ks sizes)]) (by rw [HF.out.1, HF.out.2]; simp [results, Try.results50, go_sem, r0, r1]) rfl ⟨none, 0, rfl, ?_, ?_⟩
        · rw [HF.out.1]; exact OwnC.nil _ _ _ _ _
        · (repeat (first | exact Below.refl _ _ | assumption | apply Below.drew | apply below_drewN | (refine Below.alloc ?_ (by first | omega | (simp; done) | (simp; omega)) _) | (refine Below.setCell ?_ (by first | omega | (simp; done) | (simp; omega)) _)))
      · have HLA := Lib.hid hla
        skip
        obtain ⟨y0, y1, y2⟩ := ka3.c3
        go_wp2_with (fail)
        refine (impl_takenBy A c ks _ (h.below hb3) hks).mono ?_; rintro e _ ⟨rfl, rfl⟩
        have hb4 := hb3; have kz4 := kz3; have ka4 := ka3; have hz4 := hz3
        skip
        by_cases htk : takenS ks = sizes.length
        · have htk' : (((takenS ks : Nat) : Int) != (sizes.length : Int)) = false := by simp [htk]
          have HG := Lib.hid (rb_good HV.out HS.out (show rbOk ks sizes = true by rw [rbOk, HLA.out, htk]; simp))
          clear htk hla
          obtain ⟨z0, z1, z2⟩ := ka4.c3
          go_wp2_with (fail)
          refine (impl_letters d r ks A c _ (h.below hb4) hks).mono ?_; rintro e w5 ⟨A5, c5, rfl, o5, b5⟩
          have hb5 : Below w.heap.size w w5 := hb4.trans (b5.mono (by omega))
          have kz5 := kz4.below b5 (by omega)
          have hz5 : w.heap.size + 2 ≤ w5.heap.size := kz5.lt
          have hlen := lettersFrom_length ks 0
          have h16 := (stitchesB_of hks).1
          generalize lettersFrom ks 0 = word at o5 HG hlen ⊢
          go_wp2_with (fail)
          refine (impl_DoubleBraid word sizes A5 B c5 c2 _ (OwnC.ints o5) (by omega) (h'.below hb5) HS.out).mono ?_; rintro e w6 ⟨A6, c6, rfl, o6, b6⟩
          have hb6 : Below w.heap.size w w6 := hb5.trans (b6.mono (by omega))
          have kz6 := kz5.below b6 (by omega)
          have hz6 := b6.size
          obtain ⟨r0, r1⟩ := kz6.c2
          have g0 := kz6.frozen 0
          have g1 := kz6.frozen 1
          generalize dbX word sizes = X at o6 HG ⊢
          generalize dbCode word sizes = Y at HG ⊢
          go_wp2_with (fail)
          refine bodyPost_ret (v := .tuple #[.agg #[.int .i64 (rbX d r ks sizes).n, .slice A6 (rbX d r ks sizes).xs.length c6], .int .i64 (rbCode d r ks sizes)]) (by rw [HG.out.1, HG.out.2]; simp [results, Try.results50, go_sem, r0, r1]) rfl ⟨A6, c6, rfl, ?_, ?_⟩
          · rw [HG.out.1]
            have k1 := kz6.set20 (.int .i64 X.n)
            exact OwnC.mono ((o6.farT kz6 t1 0 _).farT k1 t1 1 _) (by omega) (by simp)
          · (repeat (first | exact Below.refl _ _ | assumption | apply Below.drew | apply below_drewN | (refine Below.alloc ?_ (by first | omega | (simp; done) | (simp; omega)) _) | (refine Below.setCell ?_ (by first | omega | (simp; done) | (simp; omega)) _)))
        · have htk' : (((takenS ks : Nat) : Int) != (sizes.length : Int)) = true := by simpa using fun e => htk (by omega)
          have HF := Lib.hid (rb_err (k := 10) (by rw [rbCode, HV.out, HS.out, rbOk, HLA.out]; simp; omega) (by decide))
          clear htk hla
          obtain ⟨r0, r1⟩ := kz4.c2
          have g0 := kz4.frozen 0
          have g1 := kz4.frozen 1
          go_wp2_with (fail)
          refine bodyPost_ret (v := .tuple #[.agg #[.int .i64 (rbX d r ks sizes).n, .slice none (rbX d r ks sizes).xs.length 0], .int .i64 (rbCode d r ks sizes)]) (by rw [HF.out.1, HF.out.2]; simp [results, Try.results50, go_sem, r0, r1]) rfl ⟨none, 0, rfl, ?_, ?_⟩
          · rw [HF.out.1]; exact OwnC.nil _ _ _ _ _
          · (repeat (first | exact Below.refl _ _ | assumption | apply Below.drew | apply below_drewN | (refine Below.alloc ?_ (by first | omega | (simp; done) | (simp; omega)) _) | (refine Below.setCell ?_ (by first | omega | (simp; done) | (simp; omega)) _)))

end Go.Proofs.Ytfgbhhkmdeljoaa
