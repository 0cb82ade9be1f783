/- Steps of the proof, joined from several texts: XI XJ. -/
import Derived.Test.YtfgbhhkmdeljoaaZ13

/- Charts: RepeatChart, the given side. -/
namespace Go.Proofs.Ytfgbhhkmdeljoaa
open Go Go.RowKit

theorem repCode_2 {n : Int} {rs : List RowD} {t : Int} (h : chartB n rs = true) (h2 : inR t 1 8 = true) : repCode n rs t = if decide (1 < t) && !decide (lastOf n rs = n) then 10 else if chartB n (repRows t.toNat rs) then 0 else 5 := by
  unfold repCode
  rw [if_pos h, if_pos h2]
theorem repRows_one (rs : List RowD) : repRows 1 rs = rs := by simp [repRows]

set_option maxHeartbeats 8000000 in
set_option maxRecDepth 10000 in
theorem spec_RepeatChart (n : Int) (rs : List RowD) (t : Int) (A : Option Addr) (c : Nat) (w : World) (h : RowsR w A rs) (hl : rs.length ≤ 9223372036854775807) :
    Calls Try.prog 33 #[.agg #[.int .i64 n, .slice A rs.length c], .int .i64 t] w fun e w' => ∃ A' c', e = .returned (.tuple #[.agg #[.int .i64 (repX n rs t).n, .slice A' (repX n rs t).xs.length c'], .int .i64 (repCode n rs t)]) ∧ OwnRows w' w.heap.size w'.heap.size A' (repX n rs t).xs.length c' (repX n rs t).xs ∧ Below w.heap.size w w' := by
  have t1 : (29 : TypeId) ≠ 2 := by decide
  have t2 : (29 : TypeId) ≠ 60 := by decide
  have t3 : (2 : TypeId) ≠ 60 := by decide
  obtain ⟨i0, hi0, hy0, hy1, hy2⟩ := info_parts info_Row
  have hb1 : Below w.heap.size w ((w.alloc (.cells #[.int .i64 n, .slice A rs.length c] 29)).alloc (.cells #[.int .i64 0, .slice none 0 0] 29)) := by (repeat (first | exact Below.refl _ _ | assumption | apply Below.drew | apply below_drewN | (refine Below.alloc ?_ (by first | omega | (simp; done) | (simp; omega)) _) | (refine Below.setCell ?_ (by first | omega | (simp; done) | (simp; omega)) _)))
  have ka := (Blk.new w 29 #[.int .i64 n, .slice A rs.length c]).alloc (.cells #[.int .i64 0, .slice none 0 0] 29)
  have kz : Blk ((w.alloc (.cells #[.int .i64 n, .slice A rs.length c] 29)).alloc (.cells #[.int .i64 0, .slice none 0 0] 29)) (w.heap.size + 1) 29 #[.int .i64 0, .slice none 0 0] := by simpa using Blk.new (w.alloc (.cells #[.int .i64 n, .slice A rs.length c] 29)) 29 #[.int .i64 0, .slice none 0 0]
  cases hv : chartB n rs
  · have HF : Hid (repX n rs t = ⟨0, []⟩ ∧ repCode n rs t = 1) := Lib.hid (rep_err (by simp [repCode, hv]) (by decide))
    go_enter Try.func33, Try.ntmps33
    go_wp2_with (fail)
    refine (spec_l15Ok _ _ n rs A c _ (h.below hb1) hl ka.c2.1 ka.c2.2).mono ?_; rintro e w2 ⟨rfl, b2⟩
    have hb2 : Below w.heap.size w w2 := hb1.trans (b2.mono (by simp only [World.size_alloc]; omega))
    have kz2 := kz.below b2 (by simp)
    obtain ⟨r0, r1⟩ := kz2.c2
    have g0 := kz2.frozen 0
    have g1 := kz2.frozen 1
    rw [hv]
    go_wp2_with (fail)
    refine bodyPost_ret (v := .tuple #[.agg #[.int .i64 (repX n rs t).n, .slice none (repX n rs t).xs.length 0], .int .i64 (repCode n rs t)]) (by rw [HF.out.1, HF.out.2]; simp [results, Try.results33, go_sem, r0, r1]) rfl ⟨none, 0, rfl, ?_, ?_⟩
    · rw [HF.out.1]; exact OwnRows.nil _ _ _
    · (repeat (first | exact Below.refl _ _ | assumption | apply Below.drew | apply below_drewN | (refine Below.alloc ?_ (by first | omega | (simp; done) | (simp; omega)) _) | (refine Below.setCell ?_ (by first | omega | (simp; done) | (simp; omega)) _)))
  · cases ht : inR t 1 8
    · have HF : Hid (repX n rs t = ⟨0, []⟩ ∧ repCode n rs t = 2) := Lib.hid (rep_err (by simp [repCode, hv, ht]) (by decide))
      go_enter Try.func33, Try.ntmps33
      go_wp2_with (fail)
      refine (spec_l15Ok _ _ n rs A c _ (h.below hb1) hl ka.c2.1 ka.c2.2).mono ?_; rintro e w2 ⟨rfl, b2⟩
      have hb2 : Below w.heap.size w w2 := hb1.trans (b2.mono (by simp only [World.size_alloc]; omega))
      have kz2 := kz.below b2 (by simp)
      obtain ⟨r0, r1⟩ := kz2.c2
      have g0 := kz2.frozen 0
      have g1 := kz2.frozen 1
      rw [hv]
      go_wp2_with (go_at_call 66; refine (spec_l00In _ _ _ _).mono ?_; rintro e _ ⟨rfl, rfl⟩; rw [ht])
      refine bodyPost_ret (v := .tuple #[.agg #[.int .i64 (repX n rs t).n, .slice none (repX n rs t).xs.length 0], .int .i64 (repCode n rs t)]) (by rw [HF.out.1, HF.out.2]; simp [results, Try.results33, go_sem, r0, r1]) rfl ⟨none, 0, rfl, ?_, ?_⟩
      · rw [HF.out.1]; exact OwnRows.nil _ _ _
      · (repeat (first | exact Below.refl _ _ | assumption | apply Below.drew | apply below_drewN | (refine Below.alloc ?_ (by first | omega | (simp; done) | (simp; omega)) _) | (refine Below.setCell ?_ (by first | omega | (simp; done) | (simp; omega)) _)))
    · have HC := Lib.hid (repCode_2 hv ht)
      have h8 := lens_of_chart hv
      obtain ⟨h8, hs8⟩ := h8
      have HS8 := Lib.hid hs8; clear hs8
      have HV := Lib.hid hv
      have ht18 := inR_iff.1 ht
      obtain ⟨ht1, ht8⟩ := ht18
      obtain ⟨T, rfl⟩ := Int.eq_ofNat_of_zero_le (show (0 : Int) ≤ t by omega)
      go_enter Try.func33, Try.ntmps33
      go_wp2_with (fail)
      refine (spec_l15Ok _ _ n rs A c _ (h.below hb1) hl ka.c2.1 ka.c2.2).mono ?_; rintro e w2 ⟨rfl, b2⟩
      have hb2 : Below w.heap.size w w2 := hb1.trans (b2.mono (by simp only [World.size_alloc]; omega))
      have ka2 := ka.below b2 (by simp; omega)
      have kz2 := kz.below b2 (by simp)
      have z2 : w.heap.size + 2 ≤ w2.heap.size := kz2.lt
      rw [hv]
      clear hv ka kz hb1 b2
      go_wp2_with (go_at_call 66; refine (spec_l00In _ _ _ _).mono ?_; rintro e _ ⟨rfl, rfl⟩; rw [ht])
      clear ht
      by_cases hT1 : (1 : Int) < (T : Int)
      case' neg =>
        have hd1 : decide ((1 : Int) < (T : Int)) = false := decide_eq_false hT1
        have HC2 : Hid (repCode n rs T = if chartB n (repRows T rs) then 0 else 5) := Lib.hid (by rw [HC.out, hd1]; simp)
        (refine wp_region_pops 0 (S := (fun W' => W'.cell? ⟨w.heap.size, 0, none⟩ = some (.int .i64 n) ∧ W'.cell? ⟨w.heap.size, 1, none⟩ = some (.slice A rs.length c))) (pre := ?_) (T := ?_) (n := ?_) (by kernel_rfl) (by kernel_rfl) ?_ ?_ ?_ ?_ (fun hHeld => ?_); rotate_left 3; (focus (simp only [pops]; rfl)); (focus (simp only [tailOf]; rfl)); (focus rfl); (focus (exact ka2.c2)))
        ((refine wpAnyH_take (i := 0) (v := ?_) rfl (by kernel_rfl) (by kernel_rfl) (by kernel_rfl) (fun _ _ _ h => h) (Or.inl ⟨by rfl, ?_⟩) (by assumption) ?_; rotate_left; (focus (intro W hSw; (try dsimp only at hSw); go_simp; try (with_reducible rfl)))); (try simp only [List.getElem_toArray, List.getElem_cons_zero, Act.put, List.setIfInBounds_toArray, List.set_cons_zero, List.set_cons_succ]); (refine wpAnyH_take (i := 1) (v := ?_) rfl (by kernel_rfl) (by kernel_rfl) (by kernel_rfl) (fun _ _ _ h => h) (Or.inl ⟨by rfl, ?_⟩) (by assumption) ?_; rotate_left; (focus (intro W hSw; (try dsimp only at hSw); go_simp; try (with_reducible rfl)))); (try simp only [List.getElem_toArray, List.getElem_cons_zero, List.getElem_cons_succ, Act.put, List.setIfInBounds_toArray, List.set_cons_zero, List.set_cons_succ]); (refine wpAnyH_take (i := 2) (v := ?_) rfl (by kernel_rfl) (by kernel_rfl) (by kernel_rfl) (fun _ _ _ h => h) (Or.inl ⟨by rfl, ?_⟩) (by assumption) ?_; rotate_left; (focus (intro W hSw; (try dsimp only at hSw); go_simp; try (with_reducible rfl)))); (try simp only [List.getElem_toArray, List.getElem_cons_zero, List.getElem_cons_succ, Act.put, List.setIfInBounds_toArray, List.set_cons_zero, List.set_cons_succ]))
        ((refine wpAnyH_take (i := 3) (v := undef) rfl (by kernel_rfl) (by kernel_rfl) (by kernel_rfl) (fun _ _ _ h => h) (Or.inr ⟨by rfl, rfl⟩) (by assumption) ?_); (try simp only [List.getElem_toArray, List.getElem_cons_zero, List.getElem_cons_succ, Act.put, List.setIfInBounds_toArray, List.set_cons_zero, List.set_cons_succ]); (refine wpAnyH_take (i := 4) (v := undef) rfl (by kernel_rfl) (by kernel_rfl) (by kernel_rfl) (fun _ _ _ h => h) (Or.inr ⟨by rfl, rfl⟩) (by assumption) ?_); (try simp only [List.getElem_toArray, List.getElem_cons_zero, List.getElem_cons_succ, Act.put, List.setIfInBounds_toArray, List.set_cons_zero, List.set_cons_succ]); (refine wpAnyH_take (i := 5) (v := undef) rfl (by kernel_rfl) (by kernel_rfl) (by kernel_rfl) (fun _ _ _ h => h) (Or.inr ⟨by rfl, rfl⟩) (by assumption) ?_); (try simp only [List.getElem_toArray, List.getElem_cons_zero, List.getElem_cons_succ, Act.put, List.setIfInBounds_toArray, List.set_cons_zero, List.set_cons_succ]); (refine wpAnyH_take (i := 6) (v := undef) rfl (by kernel_rfl) (by kernel_rfl) (by kernel_rfl) (fun _ _ _ h => h) (Or.inr ⟨by rfl, rfl⟩) (by assumption) ?_); (try simp only [List.getElem_toArray, List.getElem_cons_zero, List.getElem_cons_succ, Act.put, List.setIfInBounds_toArray, List.set_cons_zero, List.set_cons_succ]))
        ((refine wpAnyH_take (i := 7) (v := ?_) rfl (by kernel_rfl) (by kernel_rfl) (by kernel_rfl) (fun _ _ _ h => h) (Or.inl ⟨by rfl, ?_⟩) (by assumption) ?_; rotate_left; (focus (intro W hSw; (try dsimp only at hSw); go_simp; try (with_reducible rfl)))); (try simp only [List.getElem_toArray, List.getElem_cons_zero, List.getElem_cons_succ, Act.put, List.setIfInBounds_toArray, List.set_cons_zero, List.set_cons_succ]))
        (refine wpAnyH_done (by kernel_rfl) ?_ _; change wpList _ _ _ _ _ _)
        obtain ⟨w4, hw4⟩ : ∃ w4, w4 = World.drew w2 := ⟨_, rfl⟩
        have hb4 : Below w.heap.size w w4 := by rw [hw4]; exact hb2.drew
        have ka4 : Blk w4 w.heap.size 29 #[.int .i64 n, .slice A rs.length c] := by rw [hw4]; exact ka2.drew1
        have kz4 : Blk w4 (w.heap.size + 1) 29 #[.int .i64 0, .slice none 0 0] := by rw [hw4]; exact kz2.drew1
        rw [← hw4]
        clear hw4 hHeld
        go_wp2_with (fail)
        clear hT1 hd1
      case' pos =>
        have hd1 : decide ((1 : Int) < (T : Int)) = true := decide_eq_true hT1
        (refine wp_region_pops 0 (S := (fun W' => W'.cell? ⟨w.heap.size, 0, none⟩ = some (.int .i64 n) ∧ W'.cell? ⟨w.heap.size, 1, none⟩ = some (.slice A rs.length c))) (pre := ?_) (T := ?_) (n := ?_) (by kernel_rfl) (by kernel_rfl) ?_ ?_ ?_ ?_ (fun hHeld => ?_); rotate_left 3; (focus (simp only [pops]; rfl)); (focus (simp only [tailOf]; rfl)); (focus rfl); (focus (exact ka2.c2)))
        ((refine wpAnyH_take (i := 0) (v := ?_) rfl (by kernel_rfl) (by kernel_rfl) (by kernel_rfl) (fun _ _ _ h => h) (Or.inl ⟨by rfl, ?_⟩) (by assumption) ?_; rotate_left; (focus (intro W hSw; (try dsimp only at hSw); go_simp; try (with_reducible rfl)))); (try simp only [List.getElem_toArray, List.getElem_cons_zero, Act.put, List.setIfInBounds_toArray, List.set_cons_zero, List.set_cons_succ]); (refine wpAnyH_take (i := 1) (v := ?_) rfl (by kernel_rfl) (by kernel_rfl) (by kernel_rfl) (fun _ _ _ h => h) (Or.inl ⟨by rfl, ?_⟩) (by assumption) ?_; rotate_left; (focus (intro W hSw; (try dsimp only at hSw); go_simp; try (with_reducible rfl)))); (try simp only [List.getElem_toArray, List.getElem_cons_zero, List.getElem_cons_succ, Act.put, List.setIfInBounds_toArray, List.set_cons_zero, List.set_cons_succ]); (refine wpAnyH_take (i := 2) (v := ?_) rfl (by kernel_rfl) (by kernel_rfl) (by kernel_rfl) (fun _ _ _ h => h) (Or.inl ⟨by rfl, ?_⟩) (by assumption) ?_; rotate_left; (focus (intro W hSw; (try dsimp only at hSw); go_simp; try (with_reducible rfl)))); (try simp only [List.getElem_toArray, List.getElem_cons_zero, List.getElem_cons_succ, Act.put, List.setIfInBounds_toArray, List.set_cons_zero, List.set_cons_succ]); (refine wpAnyH_take (i := 4) (v := ?_) rfl (by kernel_rfl) (by kernel_rfl) (by kernel_rfl) (fun _ _ _ h => h) (Or.inl ⟨by rfl, ?_⟩) (by assumption) ?_; rotate_left; (focus (intro W hSw; (try dsimp only at hSw); go_simp; try (with_reducible rfl)))); (try simp only [List.getElem_toArray, List.getElem_cons_zero, List.getElem_cons_succ, Act.put, List.setIfInBounds_toArray, List.set_cons_zero, List.set_cons_succ]); (refine wpAnyH_take (i := 5) (v := ?_) rfl (by kernel_rfl) (by kernel_rfl) (by kernel_rfl) (fun _ _ _ h => h) (Or.inl ⟨by rfl, ?_⟩) (by assumption) ?_; rotate_left; (focus (intro W hSw; (try dsimp only at hSw); go_simp; try (with_reducible rfl)))); (try simp only [List.getElem_toArray, List.getElem_cons_zero, List.getElem_cons_succ, Act.put, List.setIfInBounds_toArray, List.set_cons_zero, List.set_cons_succ]))
        (refine wpAnyH_ready (rs := [3]) (by kernel_rfl) (by simp) ?_; refine AllReadyH.cons rfl (fun K hK => ?_) AllReadyH.nil)
        go_simp
        refine (spec_l15Last _ _ n rs A c _ (h.below hb2).drew1 hl HV.out ka2.drew1.c2.1 ka2.drew1.c2.2).mono ?_; rintro e w4 ⟨rfl, b4'⟩
        have b4 := undrew b4'
        have hb4 : Below w.heap.size w w4 := hb2.trans (b4.mono (by omega))
        have ka4 := ka2.below b4 (by omega)
        have kz4 := kz2.below b4 (by omega)
        refine hK.out _ _ ka4.c2 (fun hHeld => ?_)
        clear hK K b4'
        (try simp only [List.getElem_toArray, List.getElem_cons_zero, List.getElem_cons_succ, Act.put, List.setIfInBounds_toArray, List.set_cons_zero, List.set_cons_succ])
        generalize lastOf n rs = L at HC ⊢
        by_cases hlm : L = n
        case' neg =>
          have hlm' : (L != n) = true := by simpa using hlm
          have HF : Hid (repX n rs T = ⟨0, []⟩ ∧ repCode n rs T = 10) := Lib.hid (rep_err (by rw [HC.out, hd1]; simp [hlm]) (by decide))
          clear hlm
          obtain ⟨r0, r1⟩ := kz4.c2
          have g0 := kz4.frozen 0
          have g1 := kz4.frozen 1
          ((refine wpAnyH_take (i := 6) (v := ?_) rfl (by kernel_rfl) (by kernel_rfl) (by kernel_rfl) (fun _ _ _ h => h) (Or.inl ⟨by rfl, ?_⟩) (by assumption) ?_; rotate_left; (focus (intro W hSw; (try dsimp only at hSw); go_simp; try (with_reducible rfl)))); (try simp only [List.getElem_toArray, List.getElem_cons_zero, List.getElem_cons_succ, Act.put, List.setIfInBounds_toArray, List.set_cons_zero, List.set_cons_succ]); (refine wpAnyH_take (i := 7) (v := ?_) rfl (by kernel_rfl) (by kernel_rfl) (by kernel_rfl) (fun _ _ _ h => h) (Or.inl ⟨by rfl, ?_⟩) (by assumption) ?_; rotate_left; (focus (intro W hSw; (try dsimp only at hSw); go_simp; try (with_reducible rfl)))); (try simp only [List.getElem_toArray, List.getElem_cons_zero, List.getElem_cons_succ, Act.put, List.setIfInBounds_toArray, List.set_cons_zero, List.set_cons_succ]))
          (refine wpAnyH_done (by kernel_rfl) ?_ _; change wpList _ _ _ _ _ _)
          go_wp2_with (fail)
          refine bodyPost_ret (v := .tuple #[.agg #[.int .i64 (repX n rs T).n, .slice none (repX n rs T).xs.length 0], .int .i64 (repCode n rs T)]) (by rw [HF.out.1, HF.out.2]; simp [results, Try.results33, go_sem, r0, r1]) rfl ⟨none, 0, rfl, by rw [HF.out.1]; exact OwnRows.nil _ _ _, by (repeat (first | exact Below.refl _ _ | assumption | apply Below.drew | apply below_drewN | (refine Below.alloc ?_ (by first | omega | (simp; done) | (simp; omega)) _) | (refine Below.setCell ?_ (by first | omega | (simp; done) | (simp; omega)) _)))⟩
        case' pos =>
          have hlm' : (L != n) = false := by simp [hlm]
          have HC2 : Hid (repCode n rs T = if chartB n (repRows T rs) then 0 else 5) := Lib.hid (by rw [HC.out, hd1]; simp [hlm])
          have HLM := Lib.hid hlm; clear hlm
          ((refine wpAnyH_take (i := 6) (v := ?_) rfl (by kernel_rfl) (by kernel_rfl) (by kernel_rfl) (fun _ _ _ h => h) (Or.inl ⟨by rfl, ?_⟩) (by assumption) ?_; rotate_left; (focus (intro W hSw; (try dsimp only at hSw); go_simp; try (with_reducible rfl)))); (try simp only [List.getElem_toArray, List.getElem_cons_zero, List.getElem_cons_succ, Act.put, List.setIfInBounds_toArray, List.set_cons_zero, List.set_cons_succ]); (refine wpAnyH_take (i := 7) (v := ?_) rfl (by kernel_rfl) (by kernel_rfl) (by kernel_rfl) (fun _ _ _ h => h) (Or.inl ⟨by rfl, ?_⟩) (by assumption) ?_; rotate_left; (focus (intro W hSw; (try dsimp only at hSw); go_simp; try (with_reducible rfl)))); (try simp only [List.getElem_toArray, List.getElem_cons_zero, List.getElem_cons_succ, Act.put, List.setIfInBounds_toArray, List.set_cons_zero, List.set_cons_succ]))
          (refine wpAnyH_done (by kernel_rfl) ?_ _; change wpList _ _ _ _ _ _)
          clear hHeld
          go_wp2_with (fail)
      all_goals
        have z4 : w.heap.size + 2 ≤ w4.heap.size := kz4.lt
        refine (spec_l15Own _ _ n rs A c _ (h.below hb4) (by omega) (fun r hr => by have := HS8.out r hr; omega) ka4.c2.1 ka4.c2.2).mono ?_; rintro e w5 ⟨A5, c5, rfl, o5, b5⟩
        have z5 := b5.size
        have hb5 : Below w.heap.size w w5 := hb4.trans (b5.mono (by omega))
        have hb5a : Below w.heap.size w (w5.alloc (.cells #[.int .i64 n, .slice A5 rs.length c5] 29)) := hb5.alloc (by omega) _
        have ka5 := (ka4.below b5 (by omega)).alloc (.cells #[.int .i64 n, .slice A5 rs.length c5] 29)
        have kz5 := (kz4.below b5 (by omega)).alloc (.cells #[.int .i64 n, .slice A5 rs.length c5] 29)
        have kx5 := Blk.new w5 29 #[.int .i64 n, .slice A5 rs.length c5]
        have o5a := o5.alloc (.cells #[.int .i64 n, .slice A5 rs.length c5] 29)
        clear ka4 kz4 b5 hb4 o5 ka2 kz2 hb2
        go_wp2_with (fail)
        obtain ⟨w6, hw6⟩ : ∃ w6, w6 = w5.alloc (.cells #[.int .i64 n, .slice A5 rs.length c5] 29) := ⟨_, rfl⟩
        have hz6 : w6.heap.size = w5.heap.size + 1 := by rw [hw6]; simp
        rw [← hw6] at hb5a ka5 kz5 kx5 o5a ⊢
        clear hw6
        have hz6' : w5.heap.size + 1 ≤ w6.heap.size := by omega
        go_loopw [1] (fun tv wr => ∃ (j : Nat) (A' : Option Addr) (c' : Nat), 1 ≤ j ∧ j ≤ T ∧ tv = .int .i64 ((T : Int) + 1 - j) ∧ Blk wr w.heap.size 29 #[.int .i64 n, .slice A rs.length c] ∧ Blk wr (w.heap.size + 1) 29 #[.int .i64 0, .slice none 0 0] ∧ Blk wr w5.heap.size 29 #[.int .i64 n, .slice A' (repRows j rs).length c'] ∧ OwnRows wr w4.heap.size wr.heap.size A' (repRows j rs).length c' (repRows j rs) ∧ Below w.heap.size w wr) (fun tv _ => (intOf tv).toNat)
        case atStart =>
          exact ⟨1, A5, c5, by omega, by omega, int_eq (by omega), ka5, kz5, by rw [repRows_one]; exact kx5, by rw [repRows_one]; exact o5a.mono (Nat.le_refl _) (by omega), hb5a⟩
        case round =>
          clear ka5 kz5 kx5 o5a hb5a hb5
          obtain ⟨j, A', c', hj1, hjT, rfl, kar, kzr, kxr, oor, hbr⟩ := hrel
          have hxl := kxr.lt
          have hzr := hbr.size
          have hLR : (repRows j rs).length ≤ 64 := by rw [repRows_length]; have := Nat.mul_le_mul (show j ≤ 8 by omega) h8; omega
          by_cases hjl : j < T
          · have e1 : decide ((1 : Int) < (T : Int) + 1 - j) = true := decide_eq_true (by omega)
            go_wp2_with (fail)
            refine (spec_l15Own _ _ n rs A c _ (h.below hbr) (by omega) (fun r hr => by have := HS8.out r hr; omega) kar.c2.1 kar.c2.2).mono ?_; rintro e w7 ⟨A7, c7, rfl, o7, b7⟩
            have z7 := b7.size
            have HLJ : Hid (repRows (j + 1) rs = repRows j rs ++ rs) := Lib.hid rfl
            generalize repRows j rs = qs at kxr oor hLR HLJ ⊢
            have ka7 := (kar.below b7 (by omega)).alloc (.cells #[.int .i64 n, .slice A7 rs.length c7] 29)
            have kz7 := (kzr.below b7 (by omega)).alloc (.cells #[.int .i64 n, .slice A7 rs.length c7] 29)
            have kx7 := (kxr.below b7 (by omega)).alloc (.cells #[.int .i64 n, .slice A7 rs.length c7] 29)
            have ky7 := Blk.new w7 29 #[.int .i64 n, .slice A7 rs.length c7]
            have oor7 := (oor.below b7 (Nat.le_refl _)).alloc (.cells #[.int .i64 n, .slice A7 rs.length c7] 29)
            have o7a := o7.alloc (.cells #[.int .i64 n, .slice A7 rs.length c7] 29)
            have hb7 : Below w.heap.size w (w7.alloc (.cells #[.int .i64 n, .slice A7 rs.length c7] 29)) := (hbr.trans (b7.mono (by omega))).alloc (by omega) _
            obtain ⟨cs1, oc1, cr1⟩ := oor7.ex
            obtain ⟨cs2, oc2, cr2⟩ := o7a.ex
            have H2 := Lib.hid oc2.cellsAt
            have H1 := Lib.hid cr2.one
            have HLL := Lib.hid (oc2.len)
            obtain ⟨x0, x1⟩ := kx7.c2
            obtain ⟨y0, y1⟩ := ky7.c2
            have HKX : Hid (∀ w8, (w7.alloc (.cells #[.int .i64 n, .slice A7 rs.length c7] 29)).grownBy w8 (Value.slice A' qs.length c').ownBlock → Blk w8 w5.heap.size 29 #[.int .i64 n, .slice A' qs.length c']) := Lib.hid (fun w8 hg => kx7.grownT oc1 t2 hg)
            go_wp2_with (at_builtin; refine wpList_appendC (w7.alloc (.cells #[.int .i64 n, .slice A7 rs.length c7] 29)) rfl (.tmp 31) (.tmp 33) _ rfl 60 i0 _ 3 40 Try.underlying27 hi0 hy0 hy1 hy2 rfl (by decide) rfl oc1 (by simp; omega) A7 rs.length c7 cs2 rfl HLL.out H2.out H1.out (by unfold maxLen; omega) (by omega) ?_; intro A8 c8 w8 ho8 hg8 hb8; have kx8 := HKX.out w8 hg8; obtain ⟨x0', x1'⟩ := kx8.c2; have x2' := kx8.frozen 1)
            have kx8 := HKX.out w8 hg8
            have ka8 := ka7.grownT oc1 t2 hg8
            have kz8 := kz7.grownT oc1 t2 hg8
            have cr1' := cr1.grownT oc1 t3 hg8
            have cr2' := cr2.grownT oc1 t3 hg8
            have hz8 := hg8.size
            simp only [World.size_alloc] at hz8
            have crr := (cr1'.append cr2' (by omega) (by omega)).mono (lo' := w4.heap.size) (hi' := w8.heap.size) (Nat.le_refl _) (by omega)
            have hb8' : Below w.heap.size w w8 := hb7.trans (hb8.mono (by omega))
            have oo : OwnRows (w8.setCell ⟨w5.heap.size, 1, none⟩ (.slice A8 (qs.length + rs.length) c8)) w4.heap.size w8.heap.size A8 (qs ++ rs).length c8 (qs ++ rs) := by
              rw [List.length_append]
              exact ⟨_, ho8.farT kx8 t2 1 _, crr.farT kx8 t1 1 _⟩
            refine ⟨⟨j + 1, A8, c8, by omega, by omega, int_eq (by push_cast; omega), ka8.far (by show w.heap.size ≠ w5.heap.size; omega) _, kz8.far (by show w.heap.size + 1 ≠ w5.heap.size; omega) _, ?_, ?_, by (repeat (first | exact Below.refl _ _ | assumption | apply Below.drew | apply below_drewN | (refine Below.alloc ?_ (by first | omega | (simp; done) | (simp; omega)) _) | (refine Below.setCell ?_ (by first | omega | (simp; done) | (simp; omega)) _)))⟩, by first | (simp [intOf]; done) | (simp [intOf]; omega)⟩
            · rw [HLJ.out, List.length_append]; exact kx8.set21 _
            · rw [HLJ.out]; exact oo.mono (Nat.le_refl _) (by simp)
          · obtain rfl : j = T := by omega
            rw [show (j : Int) + 1 - j = 1 by omega]
            go_wp2_with (fail)
            generalize hqs : repRows j rs = qs at kxr oor hLR HC2 ⊢
            have HQ := Lib.hid hqs; clear hqs
            refine (spec_l15Ok _ _ n qs A' c' _ oor.rowsR (by omega) kxr.c2.1 kxr.c2.2).mono ?_; rintro e w10 ⟨rfl, b10⟩
            have z10 := b10.size
            have kz10 := kzr.below b10 (by omega)
            have kx10 := kxr.below b10 (by omega)
            have oo10 := oor.below b10 (Nat.le_refl _)
            have hb10 : Below w.heap.size w w10 := hbr.trans (b10.mono (by omega))
            obtain ⟨x0, x1⟩ := kx10.c2
            obtain ⟨r0, r1⟩ := kz10.c2
            have g0 := kz10.frozen 0
            have g1 := kz10.frozen 1
            cases hq : chartB n qs
            · have HF : Hid (repX n rs j = ⟨0, []⟩ ∧ repCode n rs j = 5) := Lib.hid (rep_err (by rw [HC2.out]; simp [hq]) (by decide))
              go_wp2_with (fail)
              refine bodyPost_ret (v := .tuple #[.agg #[.int .i64 (repX n rs j).n, .slice none (repX n rs j).xs.length 0], .int .i64 (repCode n rs j)]) (by rw [HF.out.1, HF.out.2]; simp [results, Try.results33, go_sem, r0, r1]) rfl ⟨none, 0, rfl, ?_, ?_⟩
              · rw [HF.out.1]; exact OwnRows.nil _ _ _
              · (repeat (first | exact Below.refl _ _ | assumption | apply Below.drew | apply below_drewN | (refine Below.alloc ?_ (by first | omega | (simp; done) | (simp; omega)) _) | (refine Below.setCell ?_ (by first | omega | (simp; done) | (simp; omega)) _)))
            · have HF : Hid (repX n rs j = ⟨n, qs⟩ ∧ repCode n rs j = 0) := Lib.hid (by
                have e : repCode n rs j = 0 := by rw [HC2.out]; simp [hq]
                exact ⟨by rw [repX, if_pos e, Int.toNat_natCast, HQ.out], e⟩)
              go_wp2_with (fail)
              refine bodyPost_ret (v := .tuple #[.agg #[.int .i64 (repX n rs j).n, .slice A' (repX n rs j).xs.length c'], .int .i64 (repCode n rs j)]) (by rw [HF.out.1, HF.out.2]; simp [results, Try.results33, go_sem, r0, r1]) rfl ⟨A', c', rfl, ?_, ?_⟩
              · rw [HF.out.1]
                have k1 := kz10.set20 (.int .i64 n)
                exact ((oo10.farT kz10 t1 t2 0 _).farT k1 t1 t2 1 _).mono (by omega) (by simp; omega)
              · (repeat (first | exact Below.refl _ _ | assumption | apply Below.drew | apply below_drewN | (refine Below.alloc ?_ (by first | omega | (simp; done) | (simp; omega)) _) | (refine Below.setCell ?_ (by first | omega | (simp; done) | (simp; omega)) _)))

end Go.Proofs.Ytfgbhhkmdeljoaa

/- Charts: RepeatChart, the program's side. -/
namespace Go.Proofs.Ytfgbhhkmdeljoaa
open Go Go.RowKit

set_option maxHeartbeats 8000000 in
set_option maxRecDepth 10000 in
theorem impl_RepeatChart (n : Int) (rs : List RowD) (t : Int) (A : Option Addr) (c : Nat) (w : World) (h : RowsR w A rs) (hl : rs.length ≤ 9223372036854775807) :
    Calls Try.prog 34 #[.agg #[.int .i64 n, .slice A rs.length c], .int .i64 t] w fun e w' => ∃ A' c', e = .returned (.tuple #[.agg #[.int .i64 (repX n rs t).n, .slice A' (repX n rs t).xs.length c'], .int .i64 (repCode n rs t)]) ∧ OwnRows w' w.heap.size w'.heap.size A' (repX n rs t).xs.length c' (repX n rs t).xs ∧ Below w.heap.size w w' := by
  have t1 : (29 : TypeId) ≠ 2 := by decide
  have t2 : (29 : TypeId) ≠ 60 := by decide
  have t3 : (2 : TypeId) ≠ 60 := by decide
  obtain ⟨i0, hi0, hy0, hy1, hy2⟩ := info_parts info_Row
  have hb1 : Below w.heap.size w ((w.alloc (.cells #[.int .i64 n, .slice A rs.length c] 29)).alloc (.cells #[.int .i64 0, .slice none 0 0] 29)) := by (repeat (first | exact Below.refl _ _ | assumption | apply Below.drew | apply below_drewN | (refine Below.alloc ?_ (by first | omega | (simp; done) | (simp; omega)) _) | (refine Below.setCell ?_ (by first | omega | (simp; done) | (simp; omega)) _)))
  have ka := (Blk.new w 29 #[.int .i64 n, .slice A rs.length c]).alloc (.cells #[.int .i64 0, .slice none 0 0] 29)
  have kz : Blk ((w.alloc (.cells #[.int .i64 n, .slice A rs.length c] 29)).alloc (.cells #[.int .i64 0, .slice none 0 0] 29)) (w.heap.size + 1) 29 #[.int .i64 0, .slice none 0 0] := by simpa using Blk.new (w.alloc (.cells #[.int .i64 n, .slice A rs.length c] 29)) 29 #[.int .i64 0, .slice none 0 0]
  cases hv : chartB n rs
  · have HF : Hid (repX n rs t = ⟨0, []⟩ ∧ repCode n rs t = 1) := Lib.hid (rep_err (by simp [repCode, hv]) (by decide))
    go_enter Try.func34, Try.ntmps34
    go_wp2_with (fail)
    refine (impl_ValidChart n rs A c _ (h.below hb1) hl).mono ?_; rintro e w2 ⟨rfl, b2⟩
    have hb2 : Below w.heap.size w w2 := hb1.trans (b2.mono (by simp only [World.size_alloc]; omega))
    have kz2 := kz.below b2 (by simp)
    obtain ⟨r0, r1⟩ := kz2.c2
    have g0 := kz2.frozen 0
    have g1 := kz2.frozen 1
    rw [hv]
    go_wp2_with (fail)
    refine bodyPost_ret (v := .tuple #[.agg #[.int .i64 (repX n rs t).n, .slice none (repX n rs t).xs.length 0], .int .i64 (repCode n rs t)]) (by rw [HF.out.1, HF.out.2]; simp [results, Try.results34, go_sem, r0, r1]) rfl ⟨none, 0, rfl, ?_, ?_⟩
    · rw [HF.out.1]; exact OwnRows.nil _ _ _
    · (repeat (first | exact Below.refl _ _ | assumption | apply Below.drew | apply below_drewN | (refine Below.alloc ?_ (by first | omega | (simp; done) | (simp; omega)) _) | (refine Below.setCell ?_ (by first | omega | (simp; done) | (simp; omega)) _)))
  · cases ht : inR t 1 8
    · have HF : Hid (repX n rs t = ⟨0, []⟩ ∧ repCode n rs t = 2) := Lib.hid (rep_err (by simp [repCode, hv, ht]) (by decide))
      go_enter Try.func34, Try.ntmps34
      go_wp2_with (fail)
      refine (impl_ValidChart n rs A c _ (h.below hb1) hl).mono ?_; rintro e w2 ⟨rfl, b2⟩
      have hb2 : Below w.heap.size w w2 := hb1.trans (b2.mono (by simp only [World.size_alloc]; omega))
      have kz2 := kz.below b2 (by simp)
      obtain ⟨r0, r1⟩ := kz2.c2
      have g0 := kz2.frozen 0
      have g1 := kz2.frozen 1
      rw [hv]
      go_wp2_with (go_at_call 69; refine (impl_within _ _ _ _).mono ?_; rintro e _ ⟨rfl, rfl⟩; rw [ht])
      refine bodyPost_ret (v := .tuple #[.agg #[.int .i64 (repX n rs t).n, .slice none (repX n rs t).xs.length 0], .int .i64 (repCode n rs t)]) (by rw [HF.out.1, HF.out.2]; simp [results, Try.results34, go_sem, r0, r1]) rfl ⟨none, 0, rfl, ?_, ?_⟩
      · rw [HF.out.1]; exact OwnRows.nil _ _ _
      · (repeat (first | exact Below.refl _ _ | assumption | apply Below.drew | apply below_drewN | (refine Below.alloc ?_ (by first | omega | (simp; done) | (simp; omega)) _) | (refine Below.setCell ?_ (by first | omega | (simp; done) | (simp; omega)) _)))
    · have HC := Lib.hid (repCode_2 hv ht)
      have h8 := lens_of_chart hv
      obtain ⟨h8, hs8⟩ := h8
      have HS8 := Lib.hid hs8; clear hs8
      have HV := Lib.hid hv
      have ht18 := inR_iff.1 ht
      obtain ⟨ht1, ht8⟩ := ht18
      obtain ⟨T, rfl⟩ := Int.eq_ofNat_of_zero_le (show (0 : Int) ≤ t by omega)
      go_enter Try.func34, Try.ntmps34
      go_wp2_with (fail)
      refine (impl_ValidChart n rs A c _ (h.below hb1) hl).mono ?_; rintro e w2 ⟨rfl, b2⟩
      have hb2 : Below w.heap.size w w2 := hb1.trans (b2.mono (by simp only [World.size_alloc]; omega))
      have ka2 := ka.below b2 (by simp; omega)
      have kz2 := kz.below b2 (by simp)
      have z2 : w.heap.size + 2 ≤ w2.heap.size := kz2.lt
      rw [hv]
      clear hv ka kz hb1 b2
      go_wp2_with (go_at_call 69; refine (impl_within _ _ _ _).mono ?_; rintro e _ ⟨rfl, rfl⟩; rw [ht])
      clear ht
      by_cases hT1 : (1 : Int) < (T : Int)
      case' neg =>
        have hd1 : decide ((1 : Int) < (T : Int)) = false := decide_eq_false hT1
        have HC2 : Hid (repCode n rs T = if chartB n (repRows T rs) then 0 else 5) := Lib.hid (by rw [HC.out, hd1]; simp)
        (refine wp_region_pops 0 (S := (fun W' => W'.cell? ⟨w.heap.size, 0, none⟩ = some (.int .i64 n) ∧ W'.cell? ⟨w.heap.size, 1, none⟩ = some (.slice A rs.length c))) (pre := ?_) (T := ?_) (n := ?_) (by kernel_rfl) (by kernel_rfl) ?_ ?_ ?_ ?_ (fun hHeld => ?_); rotate_left 3; (focus (simp only [pops]; rfl)); (focus (simp only [tailOf]; rfl)); (focus rfl); (focus (exact ka2.c2)))
        ((refine wpAnyH_take (i := 0) (v := ?_) rfl (by kernel_rfl) (by kernel_rfl) (by kernel_rfl) (fun _ _ _ h => h) (Or.inl ⟨by rfl, ?_⟩) (by assumption) ?_; rotate_left; (focus (intro W hSw; (try dsimp only at hSw); go_simp; try (with_reducible rfl)))); (try simp only [List.getElem_toArray, List.getElem_cons_zero, Act.put, List.setIfInBounds_toArray, List.set_cons_zero, List.set_cons_succ]); (refine wpAnyH_take (i := 1) (v := ?_) rfl (by kernel_rfl) (by kernel_rfl) (by kernel_rfl) (fun _ _ _ h => h) (Or.inl ⟨by rfl, ?_⟩) (by assumption) ?_; rotate_left; (focus (intro W hSw; (try dsimp only at hSw); go_simp; try (with_reducible rfl)))); (try simp only [List.getElem_toArray, List.getElem_cons_zero, List.getElem_cons_succ, Act.put, List.setIfInBounds_toArray, List.set_cons_zero, List.set_cons_succ]); (refine wpAnyH_take (i := 2) (v := ?_) rfl (by kernel_rfl) (by kernel_rfl) (by kernel_rfl) (fun _ _ _ h => h) (Or.inl ⟨by rfl, ?_⟩) (by assumption) ?_; rotate_left; (focus (intro W hSw; (try dsimp only at hSw); go_simp; try (with_reducible rfl)))); (try simp only [List.getElem_toArray, List.getElem_cons_zero, List.getElem_cons_succ, Act.put, List.setIfInBounds_toArray, List.set_cons_zero, List.set_cons_succ]))
        ((refine wpAnyH_take (i := 3) (v := undef) rfl (by kernel_rfl) (by kernel_rfl) (by kernel_rfl) (fun _ _ _ h => h) (Or.inr ⟨by rfl, rfl⟩) (by assumption) ?_); (try simp only [List.getElem_toArray, List.getElem_cons_zero, List.getElem_cons_succ, Act.put, List.setIfInBounds_toArray, List.set_cons_zero, List.set_cons_succ]); (refine wpAnyH_take (i := 4) (v := undef) rfl (by kernel_rfl) (by kernel_rfl) (by kernel_rfl) (fun _ _ _ h => h) (Or.inr ⟨by rfl, rfl⟩) (by assumption) ?_); (try simp only [List.getElem_toArray, List.getElem_cons_zero, List.getElem_cons_succ, Act.put, List.setIfInBounds_toArray, List.set_cons_zero, List.set_cons_succ]); (refine wpAnyH_take (i := 5) (v := undef) rfl (by kernel_rfl) (by kernel_rfl) (by kernel_rfl) (fun _ _ _ h => h) (Or.inr ⟨by rfl, rfl⟩) (by assumption) ?_); (try simp only [List.getElem_toArray, List.getElem_cons_zero, List.getElem_cons_succ, Act.put, List.setIfInBounds_toArray, List.set_cons_zero, List.set_cons_succ]); (refine wpAnyH_take (i := 6) (v := undef) rfl (by kernel_rfl) (by kernel_rfl) (by kernel_rfl) (fun _ _ _ h => h) (Or.inr ⟨by rfl, rfl⟩) (by assumption) ?_); (try simp only [List.getElem_toArray, List.getElem_cons_zero, List.getElem_cons_succ, Act.put, List.setIfInBounds_toArray, List.set_cons_zero, List.set_cons_succ]); (refine wpAnyH_take (i := 7) (v := undef) rfl (by kernel_rfl) (by kernel_rfl) (by kernel_rfl) (fun _ _ _ h => h) (Or.inr ⟨by rfl, rfl⟩) (by assumption) ?_); (try simp only [List.getElem_toArray, List.getElem_cons_zero, List.getElem_cons_succ, Act.put, List.setIfInBounds_toArray, List.set_cons_zero, List.set_cons_succ]))
        ((refine wpAnyH_take (i := 8) (v := ?_) rfl (by kernel_rfl) (by kernel_rfl) (by kernel_rfl) (fun _ _ _ h => h) (Or.inl ⟨by rfl, ?_⟩) (by assumption) ?_; rotate_left; (focus (intro W hSw; (try dsimp only at hSw); go_simp; try (with_reducible rfl)))); (try simp only [List.getElem_toArray, List.getElem_cons_zero, List.getElem_cons_succ, Act.put, List.setIfInBounds_toArray, List.set_cons_zero, List.set_cons_succ]); (refine wpAnyH_take (i := 9) (v := ?_) rfl (by kernel_rfl) (by kernel_rfl) (by kernel_rfl) (fun _ _ _ h => h) (Or.inl ⟨by rfl, ?_⟩) (by assumption) ?_; rotate_left; (focus (intro W hSw; (try dsimp only at hSw); go_simp; try (with_reducible rfl)))); (try simp only [List.getElem_toArray, List.getElem_cons_zero, List.getElem_cons_succ, Act.put, List.setIfInBounds_toArray, List.set_cons_zero, List.set_cons_succ]))
        (refine wpAnyH_done (by kernel_rfl) ?_ _; change wpList _ _ _ _ _ _)
        obtain ⟨w4, hw4⟩ : ∃ w4, w4 = World.drew w2 := ⟨_, rfl⟩
        have hb4 : Below w.heap.size w w4 := by rw [hw4]; exact hb2.drew
        have ka4 : Blk w4 w.heap.size 29 #[.int .i64 n, .slice A rs.length c] := by rw [hw4]; exact ka2.drew1
        have kz4 : Blk w4 (w.heap.size + 1) 29 #[.int .i64 0, .slice none 0 0] := by rw [hw4]; exact kz2.drew1
        rw [← hw4]
        clear hw4 hHeld
        obtain ⟨q0, q1⟩ := ka4.c2
        obtain ⟨q2, q3⟩ := (ka4.alloc (.cells #[.int .i64 n, .slice none 0 0] 29)).c2
        go_wp2_with (fail)
        clear hT1 hd1 q0 q1 q2 q3
      case' pos =>
        have hd1 : decide ((1 : Int) < (T : Int)) = true := decide_eq_true hT1
        (refine wp_region_pops 0 (S := (fun W' => W'.cell? ⟨w.heap.size, 0, none⟩ = some (.int .i64 n) ∧ W'.cell? ⟨w.heap.size, 1, none⟩ = some (.slice A rs.length c))) (pre := ?_) (T := ?_) (n := ?_) (by kernel_rfl) (by kernel_rfl) ?_ ?_ ?_ ?_ (fun hHeld => ?_); rotate_left 3; (focus (simp only [pops]; rfl)); (focus (simp only [tailOf]; rfl)); (focus rfl); (focus (exact ka2.c2)))
        ((refine wpAnyH_take (i := 0) (v := ?_) rfl (by kernel_rfl) (by kernel_rfl) (by kernel_rfl) (fun _ _ _ h => h) (Or.inl ⟨by rfl, ?_⟩) (by assumption) ?_; rotate_left; (focus (intro W hSw; (try dsimp only at hSw); go_simp; try (with_reducible rfl)))); (try simp only [List.getElem_toArray, List.getElem_cons_zero, Act.put, List.setIfInBounds_toArray, List.set_cons_zero, List.set_cons_succ]); (refine wpAnyH_take (i := 1) (v := ?_) rfl (by kernel_rfl) (by kernel_rfl) (by kernel_rfl) (fun _ _ _ h => h) (Or.inl ⟨by rfl, ?_⟩) (by assumption) ?_; rotate_left; (focus (intro W hSw; (try dsimp only at hSw); go_simp; try (with_reducible rfl)))); (try simp only [List.getElem_toArray, List.getElem_cons_zero, List.getElem_cons_succ, Act.put, List.setIfInBounds_toArray, List.set_cons_zero, List.set_cons_succ]); (refine wpAnyH_take (i := 2) (v := ?_) rfl (by kernel_rfl) (by kernel_rfl) (by kernel_rfl) (fun _ _ _ h => h) (Or.inl ⟨by rfl, ?_⟩) (by assumption) ?_; rotate_left; (focus (intro W hSw; (try dsimp only at hSw); go_simp; try (with_reducible rfl)))); (try simp only [List.getElem_toArray, List.getElem_cons_zero, List.getElem_cons_succ, Act.put, List.setIfInBounds_toArray, List.set_cons_zero, List.set_cons_succ]); (refine wpAnyH_take (i := 3) (v := ?_) rfl (by kernel_rfl) (by kernel_rfl) (by kernel_rfl) (fun _ _ _ h => h) (Or.inl ⟨by rfl, ?_⟩) (by assumption) ?_; rotate_left; (focus (intro W hSw; (try dsimp only at hSw); go_simp; try (with_reducible rfl)))); (try simp only [List.getElem_toArray, List.getElem_cons_zero, List.getElem_cons_succ, Act.put, List.setIfInBounds_toArray, List.set_cons_zero, List.set_cons_succ]); (refine wpAnyH_take (i := 5) (v := ?_) rfl (by kernel_rfl) (by kernel_rfl) (by kernel_rfl) (fun _ _ _ h => h) (Or.inl ⟨by rfl, ?_⟩) (by assumption) ?_; rotate_left; (focus (intro W hSw; (try dsimp only at hSw); go_simp; try (with_reducible rfl)))); (try simp only [List.getElem_toArray, List.getElem_cons_zero, List.getElem_cons_succ, Act.put, List.setIfInBounds_toArray, List.set_cons_zero, List.set_cons_succ]); (refine wpAnyH_take (i := 6) (v := ?_) rfl (by kernel_rfl) (by kernel_rfl) (by kernel_rfl) (fun _ _ _ h => h) (Or.inl ⟨by rfl, ?_⟩) (by assumption) ?_; rotate_left; (focus (intro W hSw; (try dsimp only at hSw); go_simp; try (with_reducible rfl)))); (try simp only [List.getElem_toArray, List.getElem_cons_zero, List.getElem_cons_succ, Act.put, List.setIfInBounds_toArray, List.set_cons_zero, List.set_cons_succ]))
        (refine wpAnyH_ready (rs := [4]) (by kernel_rfl) (by simp) ?_; refine AllReadyH.cons rfl (fun K hK => ?_) AllReadyH.nil)
        go_simp
        refine (impl_columnsAtEnd n rs A c _ (h.below hb2).drew1 hl HV.out).mono ?_; rintro e w4 ⟨rfl, b4'⟩
        have b4 := undrew b4'
        have hb4 : Below w.heap.size w w4 := hb2.trans (b4.mono (by omega))
        have ka4 := ka2.below b4 (by omega)
        have kz4 := kz2.below b4 (by omega)
        refine hK.out _ _ ka4.c2 (fun hHeld => ?_)
        clear hK K b4'
        (try simp only [List.getElem_toArray, List.getElem_cons_zero, List.getElem_cons_succ, Act.put, List.setIfInBounds_toArray, List.set_cons_zero, List.set_cons_succ])
        generalize lastOf n rs = L at HC ⊢
        by_cases hlm : L = n
        case' neg =>
          have hlm' : (L != n) = true := by simpa using hlm
          have HF : Hid (repX n rs T = ⟨0, []⟩ ∧ repCode n rs T = 10) := Lib.hid (rep_err (by rw [HC.out, hd1]; simp [hlm]) (by decide))
          clear hlm
          obtain ⟨r0, r1⟩ := kz4.c2
          have g0 := kz4.frozen 0
          have g1 := kz4.frozen 1
          ((refine wpAnyH_take (i := 7) (v := ?_) rfl (by kernel_rfl) (by kernel_rfl) (by kernel_rfl) (fun _ _ _ h => h) (Or.inl ⟨by rfl, ?_⟩) (by assumption) ?_; rotate_left; (focus (intro W hSw; (try dsimp only at hSw); go_simp; try (with_reducible rfl)))); (try simp only [List.getElem_toArray, List.getElem_cons_zero, List.getElem_cons_succ, Act.put, List.setIfInBounds_toArray, List.set_cons_zero, List.set_cons_succ]); (refine wpAnyH_take (i := 8) (v := ?_) rfl (by kernel_rfl) (by kernel_rfl) (by kernel_rfl) (fun _ _ _ h => h) (Or.inl ⟨by rfl, ?_⟩) (by assumption) ?_; rotate_left; (focus (intro W hSw; (try dsimp only at hSw); go_simp; try (with_reducible rfl)))); (try simp only [List.getElem_toArray, List.getElem_cons_zero, List.getElem_cons_succ, Act.put, List.setIfInBounds_toArray, List.set_cons_zero, List.set_cons_succ]); (refine wpAnyH_take (i := 9) (v := ?_) rfl (by kernel_rfl) (by kernel_rfl) (by kernel_rfl) (fun _ _ _ h => h) (Or.inl ⟨by rfl, ?_⟩) (by assumption) ?_; rotate_left; (focus (intro W hSw; (try dsimp only at hSw); go_simp; try (with_reducible rfl)))); (try simp only [List.getElem_toArray, List.getElem_cons_zero, List.getElem_cons_succ, Act.put, List.setIfInBounds_toArray, List.set_cons_zero, List.set_cons_succ]))
          (refine wpAnyH_done (by kernel_rfl) ?_ _; change wpList _ _ _ _ _ _)
          go_wp2_with (fail)
          refine bodyPost_ret (v := .tuple #[.agg #[.int .i64 (repX n rs T).n, .slice none (repX n rs T).xs.length 0], .int .i64 (repCode n rs T)]) (by rw [HF.out.1, HF.out.2]; simp [results, Try.results34, go_sem, r0, r1]) rfl ⟨none, 0, rfl, by rw [HF.out.1]; exact OwnRows.nil _ _ _, by (repeat (first | exact Below.refl _ _ | assumption | apply Below.drew | apply below_drewN | (refine Below.alloc ?_ (by first | omega | (simp; done) | (simp; omega)) _) | (refine Below.setCell ?_ (by first | omega | (simp; done) | (simp; omega)) _)))⟩
        case' pos =>
          have hlm' : (L != n) = false := by simp [hlm]
          have HC2 : Hid (repCode n rs T = if chartB n (repRows T rs) then 0 else 5) := Lib.hid (by rw [HC.out, hd1]; simp [hlm])
          have HLM := Lib.hid hlm; clear hlm
          ((refine wpAnyH_take (i := 7) (v := ?_) rfl (by kernel_rfl) (by kernel_rfl) (by kernel_rfl) (fun _ _ _ h => h) (Or.inl ⟨by rfl, ?_⟩) (by assumption) ?_; rotate_left; (focus (intro W hSw; (try dsimp only at hSw); go_simp; try (with_reducible rfl)))); (try simp only [List.getElem_toArray, List.getElem_cons_zero, List.getElem_cons_succ, Act.put, List.setIfInBounds_toArray, List.set_cons_zero, List.set_cons_succ]); (refine wpAnyH_take (i := 8) (v := ?_) rfl (by kernel_rfl) (by kernel_rfl) (by kernel_rfl) (fun _ _ _ h => h) (Or.inl ⟨by rfl, ?_⟩) (by assumption) ?_; rotate_left; (focus (intro W hSw; (try dsimp only at hSw); go_simp; try (with_reducible rfl)))); (try simp only [List.getElem_toArray, List.getElem_cons_zero, List.getElem_cons_succ, Act.put, List.setIfInBounds_toArray, List.set_cons_zero, List.set_cons_succ]); (refine wpAnyH_take (i := 9) (v := ?_) rfl (by kernel_rfl) (by kernel_rfl) (by kernel_rfl) (fun _ _ _ h => h) (Or.inl ⟨by rfl, ?_⟩) (by assumption) ?_; rotate_left; (focus (intro W hSw; (try dsimp only at hSw); go_simp; try (with_reducible rfl)))); (try simp only [List.getElem_toArray, List.getElem_cons_zero, List.getElem_cons_succ, Act.put, List.setIfInBounds_toArray, List.set_cons_zero, List.set_cons_succ]))
          (refine wpAnyH_done (by kernel_rfl) ?_ _; change wpList _ _ _ _ _ _)
          clear hHeld
          obtain ⟨q0, q1⟩ := ka4.c2
          obtain ⟨q2, q3⟩ := (ka4.alloc (.cells #[.int .i64 n, .slice none 0 0] 29)).c2
          go_wp2_with (fail)
          clear q0 q1 q2 q3
      all_goals
        have z4 : w.heap.size + 2 ≤ w4.heap.size := kz4.lt
        have hb4a : Below w.heap.size w (w4.alloc (.cells #[.int .i64 n, .slice none 0 0] 29)) := hb4.alloc (by omega) _
        have ka4a := ka4.alloc (.cells #[.int .i64 n, .slice none 0 0] 29)
        have kz4a := kz4.alloc (.cells #[.int .i64 n, .slice none 0 0] 29)
        have kx4a := Blk.new w4 29 #[.int .i64 n, .slice none 0 0]
        clear ka4 kz4 hb4 ka2 kz2 hb2
        go_loopw [32] (fun iv wr => ∃ (j : Nat) (A' : Option Addr) (c' : Nat), j ≤ T ∧ iv = .int .i64 j ∧ Blk wr w.heap.size 29 #[.int .i64 n, .slice A rs.length c] ∧ Blk wr (w.heap.size + 1) 29 #[.int .i64 0, .slice none 0 0] ∧ Blk wr w4.heap.size 29 #[.int .i64 n, .slice A' (repRows j rs).length c'] ∧ OwnRows wr (w4.heap.size + 1) wr.heap.size A' (repRows j rs).length c' (repRows j rs) ∧ Below w.heap.size w wr) (fun iv _ => T - (intOf iv).toNat)
        case atStart =>
          exact ⟨0, none, 0, by omega, rfl, ka4a, kz4a, kx4a, OwnRows.nil _ _ _, hb4a⟩
        case round =>
          clear ka4a kz4a kx4a hb4a
          obtain ⟨j, A', c', hjT, rfl, kar, kzr, kxr, oor, hbr⟩ := hrel
          have hxl := kxr.lt
          have hzr := hbr.size
          have hLR : (repRows j rs).length ≤ 64 := by rw [repRows_length]; have := Nat.mul_le_mul (show j ≤ 8 by omega) h8; omega
          by_cases hjl : j < T
          · have HLJ : Hid (repRows (j + 1) rs = repRows j rs ++ rs) := Lib.hid rfl
            generalize repRows j rs = qs at kxr oor hLR HLJ ⊢
            go_wp2_with (fail)
            (refine wp_region_pops 3 (S := (fun W' => W'.cell? ⟨w4.heap.size, 1, none⟩ = some (.slice A' qs.length c') ∧ W'.cell? ⟨w.heap.size, 1, none⟩ = some (.slice A rs.length c))) (pre := ?_) (T := ?_) (n := ?_) (by kernel_rfl) (by kernel_rfl) ?_ ?_ ?_ ?_ (fun hHeld => ?_); rotate_left 3; (focus (simp only [pops, List.pop_toArray, List.dropLast_cons_cons, List.dropLast_singleton]; rfl)); (focus (simp only [tailOf, List.pop_toArray, List.dropLast_cons_cons, List.dropLast_singleton, List.back?_toArray, List.getLast?_cons_cons, List.getLast?_singleton, Option.toList_some, List.nil_append, List.cons_append]; rfl)); (focus rfl); (focus (exact ⟨kxr.c2.2, kar.c2.2⟩)))
            ((refine wpAnyH_take (i := 0) (v := ?_) rfl (by kernel_rfl) (by kernel_rfl) (by kernel_rfl) (fun _ _ _ h => h) (Or.inl ⟨by rfl, ?_⟩) (by assumption) ?_; rotate_left; (focus (intro W hSw; (try dsimp only at hSw); go_simp; try (with_reducible rfl)))); (try simp only [List.getElem_toArray, List.getElem_cons_zero, Act.put, List.setIfInBounds_toArray, List.set_cons_zero, List.set_cons_succ]); (refine wpAnyH_take (i := 1) (v := ?_) rfl (by kernel_rfl) (by kernel_rfl) (by kernel_rfl) (fun _ _ _ h => h) (Or.inl ⟨by rfl, ?_⟩) (by assumption) ?_; rotate_left; (focus (intro W hSw; (try dsimp only at hSw); go_simp; try (with_reducible rfl)))); (try simp only [List.getElem_toArray, List.getElem_cons_zero, List.getElem_cons_succ, Act.put, List.setIfInBounds_toArray, List.set_cons_zero, List.set_cons_succ]); (refine wpAnyH_take (i := 2) (v := ?_) rfl (by kernel_rfl) (by kernel_rfl) (by kernel_rfl) (fun _ _ _ h => h) (Or.inl ⟨by rfl, ?_⟩) (by assumption) ?_; rotate_left; (focus (intro W hSw; (try dsimp only at hSw); go_simp; try (with_reducible rfl)))); (try simp only [List.getElem_toArray, List.getElem_cons_zero, List.getElem_cons_succ, Act.put, List.setIfInBounds_toArray, List.set_cons_zero, List.set_cons_succ]); (refine wpAnyH_take (i := 3) (v := ?_) rfl (by kernel_rfl) (by kernel_rfl) (by kernel_rfl) (fun _ _ _ h => h) (Or.inl ⟨by rfl, ?_⟩) (by assumption) ?_; rotate_left; (focus (intro W hSw; (try dsimp only at hSw); go_simp; try (with_reducible rfl)))); (try simp only [List.getElem_toArray, List.getElem_cons_zero, List.getElem_cons_succ, Act.put, List.setIfInBounds_toArray, List.set_cons_zero, List.set_cons_succ]))
            (refine wpAnyH_ready (rs := [4]) (by kernel_rfl) (by simp) ?_; refine AllReadyH.cons rfl (fun K hK => ?_) AllReadyH.nil)
            go_simp
            refine (impl_copyRows rs A c _ (h.below hbr).drew1 (by omega) (fun r hr => by have := HS8.out r hr; omega)).mono ?_; rintro e w7 ⟨A7, c7, rfl, o7, b7'⟩
            have b7 := undrew b7'
            replace o7 : OwnRows w7 wr.heap.size w7.heap.size A7 rs.length c7 rs := o7
            have z7 := b7.size
            have ka7 := kar.below b7 (by omega)
            have kz7 := kzr.below b7 (by omega)
            have kx7 := kxr.below b7 (by omega)
            refine hK.out _ _ ⟨kx7.c2.2, ka7.c2.2⟩ (fun hHeld => ?_)
            clear hK K b7'
            (try simp only [List.getElem_toArray, List.getElem_cons_zero, List.getElem_cons_succ, Act.put, List.setIfInBounds_toArray, List.set_cons_zero, List.set_cons_succ])
            (refine wpAnyH_done (by kernel_rfl) ?_ _; change wpList _ _ _ _ _ _)
            clear hHeld
            have oor7 := oor.below b7 (Nat.le_refl _)
            have hb7 : Below w.heap.size w w7 := hbr.trans (b7.mono (by omega))
            obtain ⟨cs1, oc1, cr1⟩ := oor7.ex
            obtain ⟨cs2, oc2, cr2⟩ := o7.ex
            have H2 := Lib.hid oc2.cellsAt
            have H1 := Lib.hid cr2.one
            have HLL := Lib.hid (oc2.len)
            have HKX : Hid (∀ w8, w7.grownBy w8 (Value.slice A' qs.length c').ownBlock → Blk w8 w4.heap.size 29 #[.int .i64 n, .slice A' qs.length c']) := Lib.hid (fun w8 hg => kx7.grownT oc1 t2 hg)
            go_wp2_with (at_builtin; refine wpList_appendC w7 rfl (.tmp 35) (.tmp 38) _ rfl 60 i0 _ 3 40 Try.underlying27 hi0 hy0 hy1 hy2 rfl (by decide) rfl oc1 (by omega) A7 rs.length c7 cs2 rfl HLL.out H2.out H1.out (by unfold maxLen; omega) (by omega) ?_; intro A8 c8 w8 ho8 hg8 hb8; have kx8 := HKX.out w8 hg8; obtain ⟨x0', x1'⟩ := kx8.c2; have x2' := kx8.frozen 1)
            have kx8 := HKX.out w8 hg8
            have ka8 := ka7.grownT oc1 t2 hg8
            have kz8 := kz7.grownT oc1 t2 hg8
            have cr1' := cr1.grownT oc1 t3 hg8
            have cr2' := cr2.grownT oc1 t3 hg8
            have hz8 := hg8.size
            have crr := (cr1'.append cr2' (by omega) (by omega)).mono (lo' := w4.heap.size + 1) (hi' := w8.heap.size) (Nat.le_refl _) (by omega)
            have hb8' : Below w.heap.size w w8 := hb7.trans (hb8.mono (by omega))
            have oo : OwnRows (w8.setCell ⟨w4.heap.size, 1, none⟩ (.slice A8 (qs.length + rs.length) c8)) (w4.heap.size + 1) w8.heap.size A8 (qs ++ rs).length c8 (qs ++ rs) := by
              rw [List.length_append]
              exact ⟨_, ho8.farT kx8 t2 1 _, crr.farT kx8 t1 1 _⟩
            refine ⟨⟨j + 1, A8, c8, by omega, by go_num, ka8.far (by show w.heap.size ≠ w4.heap.size; omega) _, kz8.far (by show w.heap.size + 1 ≠ w4.heap.size; omega) _, ?_, ?_, by (repeat (first | exact Below.refl _ _ | assumption | apply Below.drew | apply below_drewN | (refine Below.alloc ?_ (by first | omega | (simp; done) | (simp; omega)) _) | (refine Below.setCell ?_ (by first | omega | (simp; done) | (simp; omega)) _)))⟩, by first | (simp [intOf]; done) | (simp [intOf]; omega)⟩
            · rw [HLJ.out, List.length_append]; exact kx8.set21 _
            · rw [HLJ.out]; exact oo.mono (Nat.le_refl _) (by simp)
          · obtain rfl : j = T := by omega
            obtain ⟨x0, x1⟩ := kxr.c2
            go_wp2_with (fail)
            generalize hqs : repRows j rs = qs at kxr oor hLR HC2 ⊢
            have HQ := Lib.hid hqs; clear hqs
            refine (impl_ifChart n qs A' c' _ oor.rowsR (by omega)).mono ?_; rintro e w10 ⟨rfl, b10⟩
            have z10 := b10.size
            have kz10 := kzr.below b10 (by omega)
            have oo10 := oor.below b10 (Nat.le_refl _)
            have hb10 : Below w.heap.size w w10 := hbr.trans (b10.mono (by omega))
            obtain ⟨r0, r1⟩ := kz10.c2
            have g0 := kz10.frozen 0
            have g1 := kz10.frozen 1
            cases hq : chartB n qs
            · have HF : Hid (repX n rs j = ⟨0, []⟩ ∧ repCode n rs j = 5) := Lib.hid (rep_err (by rw [HC2.out]; simp [hq]) (by decide))
              go_wp2_with (fail)
              refine bodyPost_ret (v := .tuple #[.agg #[.int .i64 (repX n rs j).n, .slice none (repX n rs j).xs.length 0], .int .i64 (repCode n rs j)]) (by rw [HF.out.1, HF.out.2]; simp [results, Try.results34, go_sem, r0, r1]) rfl ⟨none, 0, rfl, ?_, ?_⟩
              · rw [HF.out.1]; exact OwnRows.nil _ _ _
              · (repeat (first | exact Below.refl _ _ | assumption | apply Below.drew | apply below_drewN | (refine Below.alloc ?_ (by first | omega | (simp; done) | (simp; omega)) _) | (refine Below.setCell ?_ (by first | omega | (simp; done) | (simp; omega)) _)))
            · have HF : Hid (repX n rs j = ⟨n, qs⟩ ∧ repCode n rs j = 0) := Lib.hid (by
                have e : repCode n rs j = 0 := by rw [HC2.out]; simp [hq]
                exact ⟨by rw [repX, if_pos e, Int.toNat_natCast, HQ.out], e⟩)
              go_wp2_with (fail)
              refine bodyPost_ret (v := .tuple #[.agg #[.int .i64 (repX n rs j).n, .slice A' (repX n rs j).xs.length c'], .int .i64 (repCode n rs j)]) (by rw [HF.out.1, HF.out.2]; simp [results, Try.results34, go_sem, r0, r1]) rfl ⟨A', c', rfl, ?_, ?_⟩
              · rw [HF.out.1]
                have k1 := kz10.set20 (.int .i64 n)
                exact ((oo10.farT kz10 t1 t2 0 _).farT k1 t1 t2 1 _).mono (by omega) (by simp; omega)
              · (repeat (first | exact Below.refl _ _ | assumption | apply Below.drew | apply below_drewN | (refine Below.alloc ?_ (by first | omega | (simp; done) | (simp; omega)) _) | (refine Below.setCell ?_ (by first | omega | (simp; done) | (simp; omega)) _)))

end Go.Proofs.Ytfgbhhkmdeljoaa
