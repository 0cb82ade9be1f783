/- The walks of the laws, printed by exact.py. -/
import Derived.Test.YtfgbhhkmdeljoaaZ17
namespace Go.Proofs.Ytfgbhhkmdeljoaa
open Go.RowKit

set_option maxHeartbeats 4000000 in
theorem law_FnExactBesideCharts (n0 : Int) (xs0 : List RowD) (A0 : Option Addr) (c0 : Nat) (n1 : Int) (xs1 : List RowD) (A1 : Option Addr) (c1 : Nat) (w : World) (h0 : RowsR w A0 xs0) (l0 : xs0.length ≤ 9223372036854775807) (h1 : RowsR w A1 xs1) (l1 : xs1.length ≤ 9223372036854775807) : Calls Try.prog 8 #[.agg #[.int .i64 n0, .slice A0 xs0.length c0], .agg #[.int .i64 n1, .slice A1 xs1.length c1]] w fun e w' => e = .returned (.bool true) ∧ Below w.heap.size w w' := by
  by_cases hle0 : ((sizeRows xs0 : Nat) : Int) ≤ 1048576
  · have hz0 : szLeft (1048576) ((sizeRows xs0 : Nat) : Int) = 1048576 - ((sizeRows xs0 : Nat) : Int) := by rw [szLeft, if_neg (by omega)]
    have hd0 : decide (1048576 - ((sizeRows xs0 : Nat) : Int) < 0) = false := decide_eq_false (by omega)
    by_cases hle1 : ((sizeRows xs1 : Nat) : Int) ≤ 1048576 - ((sizeRows xs0 : Nat) : Int)
    · have hz1 : szLeft (1048576 - ((sizeRows xs0 : Nat) : Int)) ((sizeRows xs1 : Nat) : Int) = 1048576 - ((sizeRows xs0 : Nat) : Int) - ((sizeRows xs1 : Nat) : Int) := by rw [szLeft, if_neg (by omega)]
      have hd1 : decide (1048576 - ((sizeRows xs0 : Nat) : Int) - ((sizeRows xs1 : Nat) : Int) < 0) = false := decide_eq_false (by omega)
      have hsz0 : xs0.length ≤ sizeRows xs0 := by unfold sizeRows; omega
      have hcn0 : cntRows xs0 ≤ 2 * sizeRows xs0 := by unfold sizeRows cntRows; omega
      have hsz1 : xs1.length ≤ sizeRows xs1 := by unfold sizeRows; omega
      have hcn1 : cntRows xs1 ≤ 2 * sizeRows xs1 := by unfold sizeRows cntRows; omega
      go_enter Try.func8, Try.ntmps8
      go_wp2_with (fail)
      refine (laws_szChart _ _ _ _ _ _ (h0.below ?hb0) l0 (by omega) (by omega)).mono ?_
      case hb0 => (repeat (first | exact Below.refl _ _ | assumption | apply Below.drew | apply below_drewN | (refine Below.alloc ?_ (by first | omega | (simp; done) | (simp; omega)) _) | (refine Below.setCell ?_ (by first | omega | (simp; done) | (simp; omega)) _)))
      rintro e w1 ⟨rfl, b1⟩
      simp only [World.size_alloc] at b1
      have b1' : Below w.heap.size w w1 := Below.trans (by (repeat (first | exact Below.refl _ _ | assumption | apply Below.drew | apply below_drewN | (refine Below.alloc ?_ (by first | omega | (simp; done) | (simp; omega)) _) | (refine Below.setCell ?_ (by first | omega | (simp; done) | (simp; omega)) _)))) (b1.mono (by first | omega | (simp; done) | (simp; omega)))
      have z1 : w.heap.size + 2 ≤ w1.heap.size := by have := b1.size; simpa using this
      have B1 : Below w.heap.size w w1 := Below.trans (Below.refl _ _) (b1'.mono (by omega))
      have k0 : Blk w1 (w.heap.size) 24 #[.int .i64 n0, .slice A0 xs0.length c0] := Blk.below (by simpa using (Blk.alloc (Blk.new w 24 #[.int .i64 n0, .slice A0 xs0.length c0]) (.cells #[.int .i64 n1, .slice A1 xs1.length c1] 24))) b1 (by first | omega | (simp; done) | (simp; omega))
      obtain ⟨pk0_0, pk0_1⟩ := k0.c2
      have k1 : Blk w1 (w.heap.size + 1) 24 #[.int .i64 n1, .slice A1 xs1.length c1] := Blk.below (by simpa using (Blk.new (World.alloc w (.cells #[.int .i64 n0, .slice A0 xs0.length c0] 24)) 24 #[.int .i64 n1, .slice A1 xs1.length c1])) b1 (by first | omega | (simp; done) | (simp; omega))
      obtain ⟨pk1_0, pk1_1⟩ := k1.c2
      go_wp2_with (fail)
      refine (laws_szChart _ _ _ _ _ _ (h1.below B1) l1 (by omega) (by omega)).mono ?_
      rintro e w2 ⟨rfl, b2⟩
      have z2 := b2.size
      have B2 : Below w.heap.size w w2 := Below.trans (B1) (b2.mono (by omega))
      replace k0 : Blk w2 (w.heap.size) 24 #[.int .i64 n0, .slice A0 xs0.length c0] := k0.below b2 (by omega)
      obtain ⟨pk0_0, pk0_1⟩ := k0.c2
      replace k1 : Blk w2 (w.heap.size + 1) 24 #[.int .i64 n1, .slice A1 xs1.length c1] := k1.below b2 (by omega)
      obtain ⟨pk1_0, pk1_1⟩ := k1.c2
      go_wp2_with (fail)
      refine wp_cut (fun a0 a' w' => ∃ (g lo hi : Nat) (A' : Option Addr) (c' : Nat) (VA VB : Value), a' = (Act.put (Act.put (Act.put (Act.put (Act.put (Act.put (Act.put (Act.put (Act.put (Act.put a0 (some 28) (.agg #[.int .i64 n0, .slice A0 xs0.length c0])) (some 29) (VA)) (some 30) (.agg #[.int .i64 n1, .slice A1 xs1.length c1])) (some 31) (VB)) (some 32) (.tuple #[.agg #[.int .i64 ((besX n0 xs0 n1 xs1)).n, .slice A' ((besX n0 xs0 n1 xs1)).xs.length c'], .int .i64 (besCode n0 xs0 n1 xs1)])) (some 27) (.tuple #[.agg #[.int .i64 ((besX n0 xs0 n1 xs1)).n, .slice A' ((besX n0 xs0 n1 xs1)).xs.length c'], .int .i64 (besCode n0 xs0 n1 xs1)])) (some 33) (.agg #[.int .i64 ((besX n0 xs0 n1 xs1)).n, .slice A' ((besX n0 xs0 n1 xs1)).xs.length c'])) (some 34) (.int .i64 (besCode n0 xs0 n1 xs1))) (some 6) (.pointer (some ⟨g, 0, none⟩))) (some 7) (.int .i64 (besCode n0 xs0 n1 xs1))) ∧ CutEnd w2 w' g lo hi A' c' ((besX n0 xs0 n1 xs1)).n ((besX n0 xs0 n1 xs1)).xs) ?_ ?_
      · (refine wp_region_pops 1 (S := (fun W' => (W'.cell? ⟨w.heap.size, 0, none⟩ = some (.int .i64 n0) ∧ W'.cell? ⟨w.heap.size, 1, none⟩ = some (.slice A0 xs0.length c0)) ∧ (W'.cell? ⟨w.heap.size + 1, 0, none⟩ = some (.int .i64 n1) ∧ W'.cell? ⟨w.heap.size + 1, 1, none⟩ = some (.slice A1 xs1.length c1)))) (pre := ?_) (T := ?_) (n := ?_) (by kernel_rfl) (by kernel_rfl) ?_ ?_ ?_ ?_ (fun hHeld => ?_); rotate_left 3; (focus (simp only [pops, List.pop_toArray, List.dropLast_cons_cons, List.dropLast_singleton]; rfl)); (focus (simp only [tailOf, List.back?_toArray, List.getLast?_cons_cons, List.getLast?_singleton, Option.toList_some, List.nil_append]; rfl)); (focus rfl); (focus (exact ⟨k0.c2, k1.c2⟩)))
        ((refine wpAnyH_take (i := 0) (v := ?_) rfl (by kernel_rfl) (by kernel_rfl) (by kernel_rfl) (fun _ _ _ h => h) (Or.inl ⟨by rfl, ?_⟩) (by assumption) ?_; rotate_left; (focus (intro W hSw; (try dsimp only at hSw); go_simp; try (with_reducible rfl)))); (try simp only [List.getElem_toArray, List.getElem_cons_zero, Act.put, List.setIfInBounds_toArray, List.set_cons_zero, List.set_cons_succ]); (refine wpAnyH_take (i := 2) (v := ?_) rfl (by kernel_rfl) (by kernel_rfl) (by kernel_rfl) (fun _ _ _ h => h) (Or.inl ⟨by rfl, ?_⟩) (by assumption) ?_; rotate_left; (focus (intro W hSw; (try dsimp only at hSw); go_simp; try (with_reducible rfl)))); (try simp only [List.getElem_toArray, List.getElem_cons_zero, List.getElem_cons_succ, Act.put, List.setIfInBounds_toArray, List.set_cons_zero, List.set_cons_succ]))
        obtain ⟨v0, hv0⟩ : ∃ v0, v0 = World.drew w2 := ⟨_, rfl⟩
        have z0 : w2.heap.size ≤ v0.heap.size := by rw [hv0]; exact Nat.le_refl _
        have bc0 : Below w2.heap.size w2 v0 := by rw [hv0]; exact (Below.refl _ _).drew
        rw [← hv0] at hHeld ⊢
        clear hv0
        refine wpAnyH_ready (rs := [1, 8]) (by kernel_rfl) (by simp) ?_
        refine AllReadyH.cons rfl (fun K hK => ?_) (AllReadyH.cons rfl (fun K hK => ?_) AllReadyH.nil)
        · skip
          go_simp
          refine (laws_toChart _ _ _ _ _ (h0.below ((B2).trans (Below.mono bc0 (by omega)))) (by omega)).mono ?_
          rintro e v1 ⟨AA, cA, rfl, oA, b1⟩
          have zz1 := b1.size
          have bc1 : Below w2.heap.size w2 v1 := bc0.trans (b1.mono (by omega))
          clear hHeld
          refine hK.out _ _ ⟨(k0.below bc1 (by first | omega | (simp; done) | (simp; omega))).c2, (k1.below bc1 (by first | omega | (simp; done) | (simp; omega))).c2⟩ (fun hHeld => ?_)
          clear hK K
          (try simp only [List.getElem_toArray, List.getElem_cons_zero, List.getElem_cons_succ, Act.put, List.setIfInBounds_toArray, List.set_cons_zero, List.set_cons_succ])
          refine wpAnyH_ready (rs := [3, 8]) (by kernel_rfl) (by simp) ?_
          refine AllReadyH.cons rfl (fun K hK => ?_) (AllReadyH.cons rfl (fun K hK => ?_) AllReadyH.nil)
          · skip
            go_simp
            refine (laws_toChart _ _ _ _ _ (h1.below ((B2).trans (Below.mono bc1 (by omega)))) (by omega)).mono ?_
            rintro e v2 ⟨AB, cB, rfl, oB, b2⟩
            have zz2 := b2.size
            replace oA := oA.below b2 (by omega)
            have bc2 : Below w2.heap.size w2 v2 := bc1.trans (b2.mono (by omega))
            clear hHeld
            refine hK.out _ _ ⟨(k0.below bc2 (by first | omega | (simp; done) | (simp; omega))).c2, (k1.below bc2 (by first | omega | (simp; done) | (simp; omega))).c2⟩ (fun hHeld => ?_)
            clear hK K
            (try simp only [List.getElem_toArray, List.getElem_cons_zero, List.getElem_cons_succ, Act.put, List.setIfInBounds_toArray, List.set_cons_zero, List.set_cons_succ])
            refine wpAnyH_ready (rs := [4, 8]) (by kernel_rfl) (by simp) ?_
            refine AllReadyH.cons rfl (fun K hK => ?_) (AllReadyH.cons rfl (fun K hK => ?_) AllReadyH.nil)
            · skip
              go_simp
              refine (spec_BesideCharts _ _ _ _ _ _ _ _ _ oA.rowsR (by omega) oB.rowsR (by omega)).mono ?_
              rintro e v3 ⟨A', c', rfl, oF, b3⟩
              have zz3 := b3.size
              replace oA := oA.below b3 (by omega)
              replace oB := oB.below b3 (by omega)
              have bc3 : Below w2.heap.size w2 v3 := bc2.trans (b3.mono (by omega))
              clear hHeld
              refine hK.out _ _ ⟨(k0.below bc3 (by first | omega | (simp; done) | (simp; omega))).c2, (k1.below bc3 (by first | omega | (simp; done) | (simp; omega))).c2⟩ (fun hHeld => ?_)
              clear hK K
              (try simp only [List.getElem_toArray, List.getElem_cons_zero, List.getElem_cons_succ, Act.put, List.setIfInBounds_toArray, List.set_cons_zero, List.set_cons_succ])
              ((refine wpAnyH_take (i := 5) (v := ?_) rfl (by kernel_rfl) (by kernel_rfl) (by kernel_rfl) (fun _ _ _ h => h) (Or.inl ⟨by rfl, ?_⟩) (by assumption) ?_; rotate_left; (focus (intro W hSw; (try dsimp only at hSw); go_simp; try (with_reducible rfl)))); (try simp only [List.getElem_toArray, List.getElem_cons_zero, List.getElem_cons_succ, Act.put, List.setIfInBounds_toArray, List.set_cons_zero, List.set_cons_succ]); (refine wpAnyH_take (i := 6) (v := ?_) rfl (by kernel_rfl) (by kernel_rfl) (by kernel_rfl) (fun _ _ _ h => h) (Or.inl ⟨by rfl, ?_⟩) (by assumption) ?_; rotate_left; (focus (intro W hSw; (try dsimp only at hSw); go_simp; try (with_reducible rfl)))); (try simp only [List.getElem_toArray, List.getElem_cons_zero, List.getElem_cons_succ, Act.put, List.setIfInBounds_toArray, List.set_cons_zero, List.set_cons_succ]); (refine wpAnyH_take (i := 7) (v := ?_) rfl (by kernel_rfl) (by kernel_rfl) (by kernel_rfl) (fun _ _ _ h => h) (Or.inl ⟨by rfl, ?_⟩) (by assumption) ?_; rotate_left; (focus (intro W hSw; (try dsimp only at hSw); go_simp; try (with_reducible rfl)))); (try simp only [List.getElem_toArray, List.getElem_cons_zero, List.getElem_cons_succ, Act.put, List.setIfInBounds_toArray, List.set_cons_zero, List.set_cons_succ]))
              (refine wpAnyH_ready (rs := [8]) (by kernel_rfl) (by simp) ?_; refine AllReadyH.cons rfl (fun K hK => ?_) AllReadyH.nil)
              go_simp
              obtain ⟨v4, hv4⟩ : ∃ v, v = World.alloc v3 (.cells #[.int .i64 0, .slice none 0 0] 29) := ⟨_, rfl⟩
              have z4 : v3.heap.size + 1 ≤ v4.heap.size := by rw [hv4]; simp
              have zz4 : v3.heap.size ≤ v4.heap.size := by omega
              have b4 : Below v3.heap.size v3 v4 := by rw [hv4]; exact (Below.refl _ _).alloc (Nat.le_refl _) _
              have kz : Blk v4 v3.heap.size 29 #[.int .i64 0, .slice none 0 0] := by rw [hv4]; exact Blk.new _ _ _
              rw [← hv4]
              clear hv4
              replace oA := oA.below b4 (by omega)
              replace oB := oB.below b4 (by omega)
              replace oF := oF.below b4 (by omega)
              have bc4 : Below w2.heap.size w2 v4 := bc3.trans (b4.mono (by omega))
              clear hHeld
              refine hK.out _ _ ⟨(k0.below bc4 (by first | omega | (simp; done) | (simp; omega))).c2, (k1.below bc4 (by first | omega | (simp; done) | (simp; omega))).c2⟩ (fun hHeld => ?_)
              clear hK K
              (try simp only [List.getElem_toArray, List.getElem_cons_zero, List.getElem_cons_succ, Act.put, List.setIfInBounds_toArray, List.set_cons_zero, List.set_cons_succ])
              refine wpAnyH_last (i := 9) (by kernel_rfl) rfl rfl (by kernel_rfl) ?_
              have g0 := kz.frozen 0
              have g1 := kz.frozen 1
              obtain ⟨r0, r1⟩ := kz.c2
              go_wp2_with (fail)
              refine endQ_mk ⟨(((k0.below bc4 (by first | omega | (simp; done) | (simp; omega))).far (p := ⟨v3.heap.size, 0, none⟩) (by show _ ≠ v3.heap.size; omega) _).far (p := ⟨v3.heap.size, 1, none⟩) (by show _ ≠ v3.heap.size; omega) _).c2, (((k1.below bc4 (by first | omega | (simp; done) | (simp; omega))).far (p := ⟨v3.heap.size, 0, none⟩) (by show _ ≠ v3.heap.size; omega) _).far (p := ⟨v3.heap.size, 1, none⟩) (by show _ ≠ v3.heap.size; omega) _).c2⟩ ?_
              change wpList _ _ _ _ _ _
              go_wp2_with (fail)
              refine cutQ_mk ?_
              refine ⟨v3.heap.size, v2.heap.size, v3.heap.size, A', c', .agg #[.int .i64 n0, .slice AA xs0.length cA], .agg #[.int .i64 n1, .slice AB xs1.length cB], ?_, ?_⟩
              · (try simp only [List.setIfInBounds_toArray, List.set_cons_zero, List.set_cons_succ])
              · exact cutEnd bc4 kz oF (by omega) (by omega) (by omega) (by omega)
            · skip
              go_simp
              obtain ⟨v3, hv3⟩ : ∃ v, v = World.alloc v2 (.cells #[.int .i64 0, .slice none 0 0] 29) := ⟨_, rfl⟩
              have z3 : v2.heap.size + 1 ≤ v3.heap.size := by rw [hv3]; simp
              have zz3 : v2.heap.size ≤ v3.heap.size := by omega
              have b3 : Below v2.heap.size v2 v3 := by rw [hv3]; exact (Below.refl _ _).alloc (Nat.le_refl _) _
              have kz : Blk v3 v2.heap.size 29 #[.int .i64 0, .slice none 0 0] := by rw [hv3]; exact Blk.new _ _ _
              rw [← hv3]
              clear hv3
              replace oA := oA.below b3 (by omega)
              replace oB := oB.below b3 (by omega)
              have bc3 : Below w2.heap.size w2 v3 := bc2.trans (b3.mono (by omega))
              clear hHeld
              refine hK.out _ _ ⟨(k0.below bc3 (by first | omega | (simp; done) | (simp; omega))).c2, (k1.below bc3 (by first | omega | (simp; done) | (simp; omega))).c2⟩ (fun hHeld => ?_)
              clear hK K
              (try simp only [List.getElem_toArray, List.getElem_cons_zero, List.getElem_cons_succ, Act.put, List.setIfInBounds_toArray, List.set_cons_zero, List.set_cons_succ])
              (refine wpAnyH_ready (rs := [4]) (by kernel_rfl) (by simp) ?_; refine AllReadyH.cons rfl (fun K hK => ?_) AllReadyH.nil)
              go_simp
              refine (spec_BesideCharts _ _ _ _ _ _ _ _ _ oA.rowsR (by omega) oB.rowsR (by omega)).mono ?_
              rintro e v4 ⟨A', c', rfl, oF, b4⟩
              have zz4 := b4.size
              replace kz := kz.below b4 (by omega)
              replace oA := oA.below b4 (by omega)
              replace oB := oB.below b4 (by omega)
              have bc4 : Below w2.heap.size w2 v4 := bc3.trans (b4.mono (by omega))
              clear hHeld
              refine hK.out _ _ ⟨(k0.below bc4 (by first | omega | (simp; done) | (simp; omega))).c2, (k1.below bc4 (by first | omega | (simp; done) | (simp; omega))).c2⟩ (fun hHeld => ?_)
              clear hK K
              (try simp only [List.getElem_toArray, List.getElem_cons_zero, List.getElem_cons_succ, Act.put, List.setIfInBounds_toArray, List.set_cons_zero, List.set_cons_succ])
              ((refine wpAnyH_take (i := 5) (v := ?_) rfl (by kernel_rfl) (by kernel_rfl) (by kernel_rfl) (fun _ _ _ h => h) (Or.inl ⟨by rfl, ?_⟩) (by assumption) ?_; rotate_left; (focus (intro W hSw; (try dsimp only at hSw); go_simp; try (with_reducible rfl)))); (try simp only [List.getElem_toArray, List.getElem_cons_zero, List.getElem_cons_succ, Act.put, List.setIfInBounds_toArray, List.set_cons_zero, List.set_cons_succ]); (refine wpAnyH_take (i := 6) (v := ?_) rfl (by kernel_rfl) (by kernel_rfl) (by kernel_rfl) (fun _ _ _ h => h) (Or.inl ⟨by rfl, ?_⟩) (by assumption) ?_; rotate_left; (focus (intro W hSw; (try dsimp only at hSw); go_simp; try (with_reducible rfl)))); (try simp only [List.getElem_toArray, List.getElem_cons_zero, List.getElem_cons_succ, Act.put, List.setIfInBounds_toArray, List.set_cons_zero, List.set_cons_succ]); (refine wpAnyH_take (i := 7) (v := ?_) rfl (by kernel_rfl) (by kernel_rfl) (by kernel_rfl) (fun _ _ _ h => h) (Or.inl ⟨by rfl, ?_⟩) (by assumption) ?_; rotate_left; (focus (intro W hSw; (try dsimp only at hSw); go_simp; try (with_reducible rfl)))); (try simp only [List.getElem_toArray, List.getElem_cons_zero, List.getElem_cons_succ, Act.put, List.setIfInBounds_toArray, List.set_cons_zero, List.set_cons_succ]))
              refine wpAnyH_last (i := 9) (by kernel_rfl) rfl rfl (by kernel_rfl) ?_
              have g0 := kz.frozen 0
              have g1 := kz.frozen 1
              obtain ⟨r0, r1⟩ := kz.c2
              go_wp2_with (fail)
              refine endQ_mk ⟨(((k0.below bc4 (by first | omega | (simp; done) | (simp; omega))).far (p := ⟨v2.heap.size, 0, none⟩) (by show _ ≠ v2.heap.size; omega) _).far (p := ⟨v2.heap.size, 1, none⟩) (by show _ ≠ v2.heap.size; omega) _).c2, (((k1.below bc4 (by first | omega | (simp; done) | (simp; omega))).far (p := ⟨v2.heap.size, 0, none⟩) (by show _ ≠ v2.heap.size; omega) _).far (p := ⟨v2.heap.size, 1, none⟩) (by show _ ≠ v2.heap.size; omega) _).c2⟩ ?_
              change wpList _ _ _ _ _ _
              go_wp2_with (fail)
              refine cutQ_mk ?_
              refine ⟨v2.heap.size, v3.heap.size, v4.heap.size, A', c', .agg #[.int .i64 n0, .slice AA xs0.length cA], .agg #[.int .i64 n1, .slice AB xs1.length cB], ?_, ?_⟩
              · (try simp only [List.setIfInBounds_toArray, List.set_cons_zero, List.set_cons_succ])
              · exact cutEnd bc4 kz oF (by omega) (by omega) (by omega) (by omega)
          · skip
            go_simp
            obtain ⟨v2, hv2⟩ : ∃ v, v = World.alloc v1 (.cells #[.int .i64 0, .slice none 0 0] 29) := ⟨_, rfl⟩
            have z2 : v1.heap.size + 1 ≤ v2.heap.size := by rw [hv2]; simp
            have zz2 : v1.heap.size ≤ v2.heap.size := by omega
            have b2 : Below v1.heap.size v1 v2 := by rw [hv2]; exact (Below.refl _ _).alloc (Nat.le_refl _) _
            have kz : Blk v2 v1.heap.size 29 #[.int .i64 0, .slice none 0 0] := by rw [hv2]; exact Blk.new _ _ _
            rw [← hv2]
            clear hv2
            replace oA := oA.below b2 (by omega)
            have bc2 : Below w2.heap.size w2 v2 := bc1.trans (b2.mono (by omega))
            clear hHeld
            refine hK.out _ _ ⟨(k0.below bc2 (by first | omega | (simp; done) | (simp; omega))).c2, (k1.below bc2 (by first | omega | (simp; done) | (simp; omega))).c2⟩ (fun hHeld => ?_)
            clear hK K
            (try simp only [List.getElem_toArray, List.getElem_cons_zero, List.getElem_cons_succ, Act.put, List.setIfInBounds_toArray, List.set_cons_zero, List.set_cons_succ])
            (refine wpAnyH_ready (rs := [3]) (by kernel_rfl) (by simp) ?_; refine AllReadyH.cons rfl (fun K hK => ?_) AllReadyH.nil)
            go_simp
            refine (laws_toChart _ _ _ _ _ (h1.below ((B2).trans (Below.mono bc2 (by omega)))) (by omega)).mono ?_
            rintro e v3 ⟨AB, cB, rfl, oB, b3⟩
            have zz3 := b3.size
            replace kz := kz.below b3 (by omega)
            replace oA := oA.below b3 (by omega)
            have bc3 : Below w2.heap.size w2 v3 := bc2.trans (b3.mono (by omega))
            clear hHeld
            refine hK.out _ _ ⟨(k0.below bc3 (by first | omega | (simp; done) | (simp; omega))).c2, (k1.below bc3 (by first | omega | (simp; done) | (simp; omega))).c2⟩ (fun hHeld => ?_)
            clear hK K
            (try simp only [List.getElem_toArray, List.getElem_cons_zero, List.getElem_cons_succ, Act.put, List.setIfInBounds_toArray, List.set_cons_zero, List.set_cons_succ])
            (refine wpAnyH_ready (rs := [4]) (by kernel_rfl) (by simp) ?_; refine AllReadyH.cons rfl (fun K hK => ?_) AllReadyH.nil)
            go_simp
            refine (spec_BesideCharts _ _ _ _ _ _ _ _ _ oA.rowsR (by omega) oB.rowsR (by omega)).mono ?_
            rintro e v4 ⟨A', c', rfl, oF, b4⟩
            have zz4 := b4.size
            replace kz := kz.below b4 (by omega)
            replace oA := oA.below b4 (by omega)
            replace oB := oB.below b4 (by omega)
            have bc4 : Below w2.heap.size w2 v4 := bc3.trans (b4.mono (by omega))
            clear hHeld
            refine hK.out _ _ ⟨(k0.below bc4 (by first | omega | (simp; done) | (simp; omega))).c2, (k1.below bc4 (by first | omega | (simp; done) | (simp; omega))).c2⟩ (fun hHeld => ?_)
            clear hK K
            (try simp only [List.getElem_toArray, List.getElem_cons_zero, List.getElem_cons_succ, Act.put, List.setIfInBounds_toArray, List.set_cons_zero, List.set_cons_succ])
            ((refine wpAnyH_take (i := 5) (v := ?_) rfl (by kernel_rfl) (by kernel_rfl) (by kernel_rfl) (fun _ _ _ h => h) (Or.inl ⟨by rfl, ?_⟩) (by assumption) ?_; rotate_left; (focus (intro W hSw; (try dsimp only at hSw); go_simp; try (with_reducible rfl)))); (try simp only [List.getElem_toArray, List.getElem_cons_zero, List.getElem_cons_succ, Act.put, List.setIfInBounds_toArray, List.set_cons_zero, List.set_cons_succ]); (refine wpAnyH_take (i := 6) (v := ?_) rfl (by kernel_rfl) (by kernel_rfl) (by kernel_rfl) (fun _ _ _ h => h) (Or.inl ⟨by rfl, ?_⟩) (by assumption) ?_; rotate_left; (focus (intro W hSw; (try dsimp only at hSw); go_simp; try (with_reducible rfl)))); (try simp only [List.getElem_toArray, List.getElem_cons_zero, List.getElem_cons_succ, Act.put, List.setIfInBounds_toArray, List.set_cons_zero, List.set_cons_succ]); (refine wpAnyH_take (i := 7) (v := ?_) rfl (by kernel_rfl) (by kernel_rfl) (by kernel_rfl) (fun _ _ _ h => h) (Or.inl ⟨by rfl, ?_⟩) (by assumption) ?_; rotate_left; (focus (intro W hSw; (try dsimp only at hSw); go_simp; try (with_reducible rfl)))); (try simp only [List.getElem_toArray, List.getElem_cons_zero, List.getElem_cons_succ, Act.put, List.setIfInBounds_toArray, List.set_cons_zero, List.set_cons_succ]))
            refine wpAnyH_last (i := 9) (by kernel_rfl) rfl rfl (by kernel_rfl) ?_
            have g0 := kz.frozen 0
            have g1 := kz.frozen 1
            obtain ⟨r0, r1⟩ := kz.c2
            go_wp2_with (fail)
            refine endQ_mk ⟨(((k0.below bc4 (by first | omega | (simp; done) | (simp; omega))).far (p := ⟨v1.heap.size, 0, none⟩) (by show _ ≠ v1.heap.size; omega) _).far (p := ⟨v1.heap.size, 1, none⟩) (by show _ ≠ v1.heap.size; omega) _).c2, (((k1.below bc4 (by first | omega | (simp; done) | (simp; omega))).far (p := ⟨v1.heap.size, 0, none⟩) (by show _ ≠ v1.heap.size; omega) _).far (p := ⟨v1.heap.size, 1, none⟩) (by show _ ≠ v1.heap.size; omega) _).c2⟩ ?_
            change wpList _ _ _ _ _ _
            go_wp2_with (fail)
            refine cutQ_mk ?_
            refine ⟨v1.heap.size, v3.heap.size, v4.heap.size, A', c', .agg #[.int .i64 n0, .slice AA xs0.length cA], .agg #[.int .i64 n1, .slice AB xs1.length cB], ?_, ?_⟩
            · (try simp only [List.setIfInBounds_toArray, List.set_cons_zero, List.set_cons_succ])
            · exact cutEnd bc4 kz oF (by omega) (by omega) (by omega) (by omega)
        · skip
          go_simp
          obtain ⟨v1, hv1⟩ : ∃ v, v = World.alloc v0 (.cells #[.int .i64 0, .slice none 0 0] 29) := ⟨_, rfl⟩
          have z1 : v0.heap.size + 1 ≤ v1.heap.size := by rw [hv1]; simp
          have zz1 : v0.heap.size ≤ v1.heap.size := by omega
          have b1 : Below v0.heap.size v0 v1 := by rw [hv1]; exact (Below.refl _ _).alloc (Nat.le_refl _) _
          have kz : Blk v1 v0.heap.size 29 #[.int .i64 0, .slice none 0 0] := by rw [hv1]; exact Blk.new _ _ _
          rw [← hv1]
          clear hv1
          have bc1 : Below w2.heap.size w2 v1 := bc0.trans (b1.mono (by omega))
          clear hHeld
          refine hK.out _ _ ⟨(k0.below bc1 (by first | omega | (simp; done) | (simp; omega))).c2, (k1.below bc1 (by first | omega | (simp; done) | (simp; omega))).c2⟩ (fun hHeld => ?_)
          clear hK K
          (try simp only [List.getElem_toArray, List.getElem_cons_zero, List.getElem_cons_succ, Act.put, List.setIfInBounds_toArray, List.set_cons_zero, List.set_cons_succ])
          (refine wpAnyH_ready (rs := [1]) (by kernel_rfl) (by simp) ?_; refine AllReadyH.cons rfl (fun K hK => ?_) AllReadyH.nil)
          go_simp
          refine (laws_toChart _ _ _ _ _ (h0.below ((B2).trans (Below.mono bc1 (by omega)))) (by omega)).mono ?_
          rintro e v2 ⟨AA, cA, rfl, oA, b2⟩
          have zz2 := b2.size
          replace kz := kz.below b2 (by omega)
          have bc2 : Below w2.heap.size w2 v2 := bc1.trans (b2.mono (by omega))
          clear hHeld
          refine hK.out _ _ ⟨(k0.below bc2 (by first | omega | (simp; done) | (simp; omega))).c2, (k1.below bc2 (by first | omega | (simp; done) | (simp; omega))).c2⟩ (fun hHeld => ?_)
          clear hK K
          (try simp only [List.getElem_toArray, List.getElem_cons_zero, List.getElem_cons_succ, Act.put, List.setIfInBounds_toArray, List.set_cons_zero, List.set_cons_succ])
          (refine wpAnyH_ready (rs := [3]) (by kernel_rfl) (by simp) ?_; refine AllReadyH.cons rfl (fun K hK => ?_) AllReadyH.nil)
          go_simp
          refine (laws_toChart _ _ _ _ _ (h1.below ((B2).trans (Below.mono bc2 (by omega)))) (by omega)).mono ?_
          rintro e v3 ⟨AB, cB, rfl, oB, b3⟩
          have zz3 := b3.size
          replace kz := kz.below b3 (by omega)
          replace oA := oA.below b3 (by omega)
          have bc3 : Below w2.heap.size w2 v3 := bc2.trans (b3.mono (by omega))
          clear hHeld
          refine hK.out _ _ ⟨(k0.below bc3 (by first | omega | (simp; done) | (simp; omega))).c2, (k1.below bc3 (by first | omega | (simp; done) | (simp; omega))).c2⟩ (fun hHeld => ?_)
          clear hK K
          (try simp only [List.getElem_toArray, List.getElem_cons_zero, List.getElem_cons_succ, Act.put, List.setIfInBounds_toArray, List.set_cons_zero, List.set_cons_succ])
          (refine wpAnyH_ready (rs := [4]) (by kernel_rfl) (by simp) ?_; refine AllReadyH.cons rfl (fun K hK => ?_) AllReadyH.nil)
          go_simp
          refine (spec_BesideCharts _ _ _ _ _ _ _ _ _ oA.rowsR (by omega) oB.rowsR (by omega)).mono ?_
          rintro e v4 ⟨A', c', rfl, oF, b4⟩
          have zz4 := b4.size
          replace kz := kz.below b4 (by omega)
          replace oA := oA.below b4 (by omega)
          replace oB := oB.below b4 (by omega)
          have bc4 : Below w2.heap.size w2 v4 := bc3.trans (b4.mono (by omega))
          clear hHeld
          refine hK.out _ _ ⟨(k0.below bc4 (by first | omega | (simp; done) | (simp; omega))).c2, (k1.below bc4 (by first | omega | (simp; done) | (simp; omega))).c2⟩ (fun hHeld => ?_)
          clear hK K
          (try simp only [List.getElem_toArray, List.getElem_cons_zero, List.getElem_cons_succ, Act.put, List.setIfInBounds_toArray, List.set_cons_zero, List.set_cons_succ])
          ((refine wpAnyH_take (i := 5) (v := ?_) rfl (by kernel_rfl) (by kernel_rfl) (by kernel_rfl) (fun _ _ _ h => h) (Or.inl ⟨by rfl, ?_⟩) (by assumption) ?_; rotate_left; (focus (intro W hSw; (try dsimp only at hSw); go_simp; try (with_reducible rfl)))); (try simp only [List.getElem_toArray, List.getElem_cons_zero, List.getElem_cons_succ, Act.put, List.setIfInBounds_toArray, List.set_cons_zero, List.set_cons_succ]); (refine wpAnyH_take (i := 6) (v := ?_) rfl (by kernel_rfl) (by kernel_rfl) (by kernel_rfl) (fun _ _ _ h => h) (Or.inl ⟨by rfl, ?_⟩) (by assumption) ?_; rotate_left; (focus (intro W hSw; (try dsimp only at hSw); go_simp; try (with_reducible rfl)))); (try simp only [List.getElem_toArray, List.getElem_cons_zero, List.getElem_cons_succ, Act.put, List.setIfInBounds_toArray, List.set_cons_zero, List.set_cons_succ]); (refine wpAnyH_take (i := 7) (v := ?_) rfl (by kernel_rfl) (by kernel_rfl) (by kernel_rfl) (fun _ _ _ h => h) (Or.inl ⟨by rfl, ?_⟩) (by assumption) ?_; rotate_left; (focus (intro W hSw; (try dsimp only at hSw); go_simp; try (with_reducible rfl)))); (try simp only [List.getElem_toArray, List.getElem_cons_zero, List.getElem_cons_succ, Act.put, List.setIfInBounds_toArray, List.set_cons_zero, List.set_cons_succ]))
          refine wpAnyH_last (i := 9) (by kernel_rfl) rfl rfl (by kernel_rfl) ?_
          have g0 := kz.frozen 0
          have g1 := kz.frozen 1
          obtain ⟨r0, r1⟩ := kz.c2
          go_wp2_with (fail)
          refine endQ_mk ⟨(((k0.below bc4 (by first | omega | (simp; done) | (simp; omega))).far (p := ⟨v0.heap.size, 0, none⟩) (by show _ ≠ v0.heap.size; omega) _).far (p := ⟨v0.heap.size, 1, none⟩) (by show _ ≠ v0.heap.size; omega) _).c2, (((k1.below bc4 (by first | omega | (simp; done) | (simp; omega))).far (p := ⟨v0.heap.size, 0, none⟩) (by show _ ≠ v0.heap.size; omega) _).far (p := ⟨v0.heap.size, 1, none⟩) (by show _ ≠ v0.heap.size; omega) _).c2⟩ ?_
          change wpList _ _ _ _ _ _
          go_wp2_with (fail)
          refine cutQ_mk ?_
          refine ⟨v0.heap.size, v3.heap.size, v4.heap.size, A', c', .agg #[.int .i64 n0, .slice AA xs0.length cA], .agg #[.int .i64 n1, .slice AB xs1.length cB], ?_, ?_⟩
          · (try simp only [List.setIfInBounds_toArray, List.set_cons_zero, List.set_cons_succ])
          · exact cutEnd bc4 kz oF (by omega) (by omega) (by omega) (by omega)
      rintro a' w3 ⟨g3, lo3, hi3, A_w0, c_w0, VA3, VB3, rfl, b3, kc3, o_w0, hlo3, hhi3, hg3, hgw3, hfar3⟩
      (try simp only [Act.put, List.setIfInBounds_toArray, List.set_cons_zero, List.set_cons_succ])
      have z3 := b3.size
      have B3 : Below w.heap.size w w3 := Below.trans (B2) (b3.mono (by omega))
      replace k0 : Blk w3 (w.heap.size) 24 #[.int .i64 n0, .slice A0 xs0.length c0] := k0.below b3 (by omega)
      obtain ⟨pk0_0, pk0_1⟩ := k0.c2
      replace k1 : Blk w3 (w.heap.size + 1) 24 #[.int .i64 n1, .slice A1 xs1.length c1] := k1.below b3 (by omega)
      obtain ⟨pk1_0, pk1_1⟩ := k1.c2
      have k2 := kc3
      clear kc3
      obtain ⟨pk2_0, pk2_1⟩ := k2.c2
      go_wp2_with (fail)
      refine (laws_toChart _ _ _ _ _ (h0.below B3) (by omega)).mono ?_
      rintro e w4 ⟨A0_4, c0_4, rfl, o0_4, b4⟩
      have z4 := b4.size
      have B4 : Below w.heap.size w w4 := Below.trans (B3) (b4.mono (by omega))
      replace k0 : Blk w4 (w.heap.size) 24 #[.int .i64 n0, .slice A0 xs0.length c0] := k0.below b4 (by omega)
      obtain ⟨pk0_0, pk0_1⟩ := k0.c2
      replace k1 : Blk w4 (w.heap.size + 1) 24 #[.int .i64 n1, .slice A1 xs1.length c1] := k1.below b4 (by omega)
      obtain ⟨pk1_0, pk1_1⟩ := k1.c2
      replace k2 : Blk w4 (g3) 29 #[.int .i64 ((besX n0 xs0 n1 xs1)).n, .slice A_w0 ((besX n0 xs0 n1 xs1)).xs.length c_w0] := k2.below b4 (by omega)
      obtain ⟨pk2_0, pk2_1⟩ := k2.c2
      replace o_w0 := o_w0.below b4 (by omega)
      obtain ⟨qk0_0, qk0_1⟩ := (Blk.alloc k0 (.cells #[.int .i64 n0, .slice A0_4 xs0.length c0_4] 29)).c2
      obtain ⟨qk1_0, qk1_1⟩ := (Blk.alloc k1 (.cells #[.int .i64 n0, .slice A0_4 xs0.length c0_4] 29)).c2
      obtain ⟨qk2_0, qk2_1⟩ := (Blk.alloc k2 (.cells #[.int .i64 n0, .slice A0_4 xs0.length c0_4] 29)).c2
      go_wp2_with (fail)
      refine (laws_toChart _ _ _ _ _ ((h1.below B4).below ?hb0) (by omega)).mono ?_
      case hb0 => (repeat (first | exact Below.refl _ _ | assumption | apply Below.drew | apply below_drewN | (refine Below.alloc ?_ (by first | omega | (simp; done) | (simp; omega)) _) | (refine Below.setCell ?_ (by first | omega | (simp; done) | (simp; omega)) _)))
      rintro e w5 ⟨A1_5, c1_5, rfl, o1_5, b5⟩
      simp only [World.size_alloc] at o1_5 b5
      have b5' : Below w4.heap.size w4 w5 := Below.trans (by (repeat (first | exact Below.refl _ _ | assumption | apply Below.drew | apply below_drewN | (refine Below.alloc ?_ (by first | omega | (simp; done) | (simp; omega)) _) | (refine Below.setCell ?_ (by first | omega | (simp; done) | (simp; omega)) _)))) (b5.mono (by first | omega | (simp; done) | (simp; omega)))
      have z5 : w4.heap.size + 1 ≤ w5.heap.size := by have := b5.size; simpa using this
      have B5 : Below w.heap.size w w5 := Below.trans (B4) (b5'.mono (by omega))
      replace k0 : Blk w5 (w.heap.size) 24 #[.int .i64 n0, .slice A0 xs0.length c0] := k0.below b5' (by omega)
      obtain ⟨pk0_0, pk0_1⟩ := k0.c2
      replace k1 : Blk w5 (w.heap.size + 1) 24 #[.int .i64 n1, .slice A1 xs1.length c1] := k1.below b5' (by omega)
      obtain ⟨pk1_0, pk1_1⟩ := k1.c2
      replace k2 : Blk w5 (g3) 29 #[.int .i64 ((besX n0 xs0 n1 xs1)).n, .slice A_w0 ((besX n0 xs0 n1 xs1)).xs.length c_w0] := k2.below b5' (by omega)
      obtain ⟨pk2_0, pk2_1⟩ := k2.c2
      have k3 : Blk w5 (w4.heap.size) 29 #[.int .i64 n0, .slice A0_4 xs0.length c0_4] := Blk.below (Blk.new w4 29 #[.int .i64 n0, .slice A0_4 xs0.length c0_4]) b5 (by first | omega | (simp; done) | (simp; omega))
      obtain ⟨pk3_0, pk3_1⟩ := k3.c2
      replace o_w0 := o_w0.below b5' (by omega)
      replace o0_4 := o0_4.below b5' (by omega)
      obtain ⟨qk0_0, qk0_1⟩ := (Blk.alloc k0 (.cells #[.int .i64 n1, .slice A1_5 xs1.length c1_5] 29)).c2
      obtain ⟨qk1_0, qk1_1⟩ := (Blk.alloc k1 (.cells #[.int .i64 n1, .slice A1_5 xs1.length c1_5] 29)).c2
      obtain ⟨qk2_0, qk2_1⟩ := (Blk.alloc k2 (.cells #[.int .i64 n1, .slice A1_5 xs1.length c1_5] 29)).c2
      obtain ⟨qk3_0, qk3_1⟩ := (Blk.alloc k3 (.cells #[.int .i64 n1, .slice A1_5 xs1.length c1_5] 29)).c2
      go_wp2_with (fail)
      refine (impl_BesideCharts _ _ _ _ _ _ _ _ _ (o0_4.rowsR.below ?hb0) (by omega) (o1_5.rowsR.below ?hb1) (by omega)).mono ?_
      case hb0 => (repeat (first | exact Below.refl _ _ | assumption | apply Below.drew | apply below_drewN | (refine Below.alloc ?_ (by first | omega | (simp; done) | (simp; omega)) _) | (refine Below.setCell ?_ (by first | omega | (simp; done) | (simp; omega)) _)))
      case hb1 => (repeat (first | exact Below.refl _ _ | assumption | apply Below.drew | apply below_drewN | (refine Below.alloc ?_ (by first | omega | (simp; done) | (simp; omega)) _) | (refine Below.setCell ?_ (by first | omega | (simp; done) | (simp; omega)) _)))
      rintro e w6 ⟨A_g0, c_g0, rfl, o_g0, b6⟩
      simp only [World.size_alloc] at o_g0 b6
      have b6' : Below w5.heap.size w5 w6 := Below.trans (by (repeat (first | exact Below.refl _ _ | assumption | apply Below.drew | apply below_drewN | (refine Below.alloc ?_ (by first | omega | (simp; done) | (simp; omega)) _) | (refine Below.setCell ?_ (by first | omega | (simp; done) | (simp; omega)) _)))) (b6.mono (by first | omega | (simp; done) | (simp; omega)))
      have z6 : w5.heap.size + 1 ≤ w6.heap.size := by have := b6.size; simpa using this
      have B6 : Below w.heap.size w w6 := Below.trans (B5) (b6'.mono (by omega))
      replace k0 : Blk w6 (w.heap.size) 24 #[.int .i64 n0, .slice A0 xs0.length c0] := k0.below b6' (by omega)
      obtain ⟨pk0_0, pk0_1⟩ := k0.c2
      replace k1 : Blk w6 (w.heap.size + 1) 24 #[.int .i64 n1, .slice A1 xs1.length c1] := k1.below b6' (by omega)
      obtain ⟨pk1_0, pk1_1⟩ := k1.c2
      replace k2 : Blk w6 (g3) 29 #[.int .i64 ((besX n0 xs0 n1 xs1)).n, .slice A_w0 ((besX n0 xs0 n1 xs1)).xs.length c_w0] := k2.below b6' (by omega)
      obtain ⟨pk2_0, pk2_1⟩ := k2.c2
      replace k3 : Blk w6 (w4.heap.size) 29 #[.int .i64 n0, .slice A0_4 xs0.length c0_4] := k3.below b6' (by omega)
      obtain ⟨pk3_0, pk3_1⟩ := k3.c2
      have k4 : Blk w6 (w5.heap.size) 29 #[.int .i64 n1, .slice A1_5 xs1.length c1_5] := Blk.below (Blk.new w5 29 #[.int .i64 n1, .slice A1_5 xs1.length c1_5]) b6 (by first | omega | (simp; done) | (simp; omega))
      obtain ⟨pk4_0, pk4_1⟩ := k4.c2
      replace o_w0 := o_w0.below b6' (by omega)
      replace o0_4 := o0_4.below b6' (by omega)
      replace o1_5 := o1_5.below b6' (by omega)
      obtain ⟨qk0_0, qk0_1⟩ := (Blk.alloc k0 (.cells #[.int .i64 ((besX n0 xs0 n1 xs1)).n, .slice A_g0 ((besX n0 xs0 n1 xs1)).xs.length c_g0] 29)).c2
      obtain ⟨qk1_0, qk1_1⟩ := (Blk.alloc k1 (.cells #[.int .i64 ((besX n0 xs0 n1 xs1)).n, .slice A_g0 ((besX n0 xs0 n1 xs1)).xs.length c_g0] 29)).c2
      obtain ⟨qk2_0, qk2_1⟩ := (Blk.alloc k2 (.cells #[.int .i64 ((besX n0 xs0 n1 xs1)).n, .slice A_g0 ((besX n0 xs0 n1 xs1)).xs.length c_g0] 29)).c2
      obtain ⟨qk3_0, qk3_1⟩ := (Blk.alloc k3 (.cells #[.int .i64 ((besX n0 xs0 n1 xs1)).n, .slice A_g0 ((besX n0 xs0 n1 xs1)).xs.length c_g0] 29)).c2
      obtain ⟨qk4_0, qk4_1⟩ := (Blk.alloc k4 (.cells #[.int .i64 ((besX n0 xs0 n1 xs1)).n, .slice A_g0 ((besX n0 xs0 n1 xs1)).xs.length c_g0] 29)).c2
      go_wp2_with (fail)
      refine (laws_eqChart _ _ _ _ _ _ _ _ _ (o_g0.rowsR.below ?hb0) (o_w0.rowsR.below ?hb1) (by have := besX_size n0 xs0 n1 xs1; omega) (by have := besX_size n0 xs0 n1 xs1; omega)).mono ?_
      case hb0 => (repeat (first | exact Below.refl _ _ | assumption | apply Below.drew | apply below_drewN | (refine Below.alloc ?_ (by first | omega | (simp; done) | (simp; omega)) _) | (refine Below.setCell ?_ (by first | omega | (simp; done) | (simp; omega)) _)))
      case hb1 => (repeat (first | exact Below.refl _ _ | assumption | apply Below.drew | apply below_drewN | (refine Below.alloc ?_ (by first | omega | (simp; done) | (simp; omega)) _) | (refine Below.setCell ?_ (by first | omega | (simp; done) | (simp; omega)) _)))
      rintro e w7 ⟨rfl, b7⟩
      simp only [World.size_alloc] at b7
      have b7' : Below w6.heap.size w6 w7 := Below.trans (by (repeat (first | exact Below.refl _ _ | assumption | apply Below.drew | apply below_drewN | (refine Below.alloc ?_ (by first | omega | (simp; done) | (simp; omega)) _) | (refine Below.setCell ?_ (by first | omega | (simp; done) | (simp; omega)) _)))) (b7.mono (by first | omega | (simp; done) | (simp; omega)))
      have z7 : w6.heap.size + 1 ≤ w7.heap.size := by have := b7.size; simpa using this
      have B7 : Below w.heap.size w w7 := Below.trans (B6) (b7'.mono (by omega))
      replace k0 : Blk w7 (w.heap.size) 24 #[.int .i64 n0, .slice A0 xs0.length c0] := k0.below b7' (by omega)
      obtain ⟨pk0_0, pk0_1⟩ := k0.c2
      replace k1 : Blk w7 (w.heap.size + 1) 24 #[.int .i64 n1, .slice A1 xs1.length c1] := k1.below b7' (by omega)
      obtain ⟨pk1_0, pk1_1⟩ := k1.c2
      replace k2 : Blk w7 (g3) 29 #[.int .i64 ((besX n0 xs0 n1 xs1)).n, .slice A_w0 ((besX n0 xs0 n1 xs1)).xs.length c_w0] := k2.below b7' (by omega)
      obtain ⟨pk2_0, pk2_1⟩ := k2.c2
      replace k3 : Blk w7 (w4.heap.size) 29 #[.int .i64 n0, .slice A0_4 xs0.length c0_4] := k3.below b7' (by omega)
      obtain ⟨pk3_0, pk3_1⟩ := k3.c2
      replace k4 : Blk w7 (w5.heap.size) 29 #[.int .i64 n1, .slice A1_5 xs1.length c1_5] := k4.below b7' (by omega)
      obtain ⟨pk4_0, pk4_1⟩ := k4.c2
      have k5 : Blk w7 (w6.heap.size) 29 #[.int .i64 ((besX n0 xs0 n1 xs1)).n, .slice A_g0 ((besX n0 xs0 n1 xs1)).xs.length c_g0] := Blk.below (Blk.new w6 29 #[.int .i64 ((besX n0 xs0 n1 xs1)).n, .slice A_g0 ((besX n0 xs0 n1 xs1)).xs.length c_g0]) b7 (by first | omega | (simp; done) | (simp; omega))
      obtain ⟨pk5_0, pk5_1⟩ := k5.c2
      replace o_w0 := o_w0.below b7' (by omega)
      replace o0_4 := o0_4.below b7' (by omega)
      replace o1_5 := o1_5.below b7' (by omega)
      replace o_g0 := o_g0.below b7' (by omega)
      go_wp2_with (fail)
      go_region_held3 (fun W' => (W'.cell? ⟨w.heap.size, 0, none⟩ = some (.int .i64 n0) ∧ W'.cell? ⟨w.heap.size, 1, none⟩ = some (.slice A0 xs0.length c0)) ∧ (W'.cell? ⟨w4.heap.size, 0, none⟩ = some (.int .i64 n0) ∧ W'.cell? ⟨w4.heap.size, 1, none⟩ = some (.slice A0_4 xs0.length c0_4))) (first | exact ⟨k0.c2, k3.c2⟩ | exact ⟨(k0.below b8 (by first | omega | (simp; done) | (simp; omega))).c2, (k3.below b8 (by first | omega | (simp; done) | (simp; omega))).c2⟩ | exact ⟨(k0.below (b8.trans (b9.mono b8.size)) (by first | omega | (simp; done) | (simp; omega))).c2, (k3.below (b8.trans (b9.mono b8.size)) (by first | omega | (simp; done) | (simp; omega))).c2⟩)
        (first | (go_at_call 16; refine (laws_toChart _ _ _ _ _ (h0.below (B7).drew) (by omega)).mono ?_; rintro e w8 ⟨A0_8, c0_8, rfl, o0_8, b8⟩; replace b8 := undrew b8) | (go_at_call 18; refine (laws_eqChart _ _ _ _ _ _ _ _ _ ((o0_4.rowsR).below b8) o0_8.rowsR (by omega) (by omega)).mono ?_; rintro e w9 ⟨rfl, b9⟩))
      have z8 := b8.size
      have B8 : Below w.heap.size w w8 := Below.trans (B7) (b8.mono (by omega))
      replace k0 : Blk w8 (w.heap.size) 24 #[.int .i64 n0, .slice A0 xs0.length c0] := k0.below b8 (by omega)
      obtain ⟨pk0_0, pk0_1⟩ := k0.c2
      replace k1 : Blk w8 (w.heap.size + 1) 24 #[.int .i64 n1, .slice A1 xs1.length c1] := k1.below b8 (by omega)
      obtain ⟨pk1_0, pk1_1⟩ := k1.c2
      replace k2 : Blk w8 (g3) 29 #[.int .i64 ((besX n0 xs0 n1 xs1)).n, .slice A_w0 ((besX n0 xs0 n1 xs1)).xs.length c_w0] := k2.below b8 (by omega)
      obtain ⟨pk2_0, pk2_1⟩ := k2.c2
      replace k3 : Blk w8 (w4.heap.size) 29 #[.int .i64 n0, .slice A0_4 xs0.length c0_4] := k3.below b8 (by omega)
      obtain ⟨pk3_0, pk3_1⟩ := k3.c2
      replace k4 : Blk w8 (w5.heap.size) 29 #[.int .i64 n1, .slice A1_5 xs1.length c1_5] := k4.below b8 (by omega)
      obtain ⟨pk4_0, pk4_1⟩ := k4.c2
      replace k5 : Blk w8 (w6.heap.size) 29 #[.int .i64 ((besX n0 xs0 n1 xs1)).n, .slice A_g0 ((besX n0 xs0 n1 xs1)).xs.length c_g0] := k5.below b8 (by omega)
      obtain ⟨pk5_0, pk5_1⟩ := k5.c2
      replace o_w0 := o_w0.below b8 (by omega)
      replace o0_4 := o0_4.below b8 (by omega)
      replace o1_5 := o1_5.below b8 (by omega)
      replace o_g0 := o_g0.below b8 (by omega)
      have z9 := b9.size
      have B9 : Below w.heap.size w w9 := Below.trans (B8) (b9.mono (by omega))
      replace k0 : Blk w9 (w.heap.size) 24 #[.int .i64 n0, .slice A0 xs0.length c0] := k0.below b9 (by omega)
      obtain ⟨pk0_0, pk0_1⟩ := k0.c2
      replace k1 : Blk w9 (w.heap.size + 1) 24 #[.int .i64 n1, .slice A1 xs1.length c1] := k1.below b9 (by omega)
      obtain ⟨pk1_0, pk1_1⟩ := k1.c2
      replace k2 : Blk w9 (g3) 29 #[.int .i64 ((besX n0 xs0 n1 xs1)).n, .slice A_w0 ((besX n0 xs0 n1 xs1)).xs.length c_w0] := k2.below b9 (by omega)
      obtain ⟨pk2_0, pk2_1⟩ := k2.c2
      replace k3 : Blk w9 (w4.heap.size) 29 #[.int .i64 n0, .slice A0_4 xs0.length c0_4] := k3.below b9 (by omega)
      obtain ⟨pk3_0, pk3_1⟩ := k3.c2
      replace k4 : Blk w9 (w5.heap.size) 29 #[.int .i64 n1, .slice A1_5 xs1.length c1_5] := k4.below b9 (by omega)
      obtain ⟨pk4_0, pk4_1⟩ := k4.c2
      replace k5 : Blk w9 (w6.heap.size) 29 #[.int .i64 ((besX n0 xs0 n1 xs1)).n, .slice A_g0 ((besX n0 xs0 n1 xs1)).xs.length c_g0] := k5.below b9 (by omega)
      obtain ⟨pk5_0, pk5_1⟩ := k5.c2
      replace o_w0 := o_w0.below b9 (by omega)
      replace o0_4 := o0_4.below b9 (by omega)
      replace o1_5 := o1_5.below b9 (by omega)
      replace o_g0 := o_g0.below b9 (by omega)
      go_wp2_with (fail)
      go_region_held3 (fun W' => (W'.cell? ⟨w.heap.size + 1, 0, none⟩ = some (.int .i64 n1) ∧ W'.cell? ⟨w.heap.size + 1, 1, none⟩ = some (.slice A1 xs1.length c1)) ∧ (W'.cell? ⟨w5.heap.size, 0, none⟩ = some (.int .i64 n1) ∧ W'.cell? ⟨w5.heap.size, 1, none⟩ = some (.slice A1_5 xs1.length c1_5))) (first | exact ⟨k1.c2, k4.c2⟩ | exact ⟨(k1.below b10 (by first | omega | (simp; done) | (simp; omega))).c2, (k4.below b10 (by first | omega | (simp; done) | (simp; omega))).c2⟩ | exact ⟨(k1.below (b10.trans (b11.mono b10.size)) (by first | omega | (simp; done) | (simp; omega))).c2, (k4.below (b10.trans (b11.mono b10.size)) (by first | omega | (simp; done) | (simp; omega))).c2⟩)
        (first | (go_at_call 16; refine (laws_toChart _ _ _ _ _ (h1.below (B9).drew) (by omega)).mono ?_; rintro e w10 ⟨A1_10, c1_10, rfl, o1_10, b10⟩; replace b10 := undrew b10) | (go_at_call 18; refine (laws_eqChart _ _ _ _ _ _ _ _ _ ((o1_5.rowsR).below b10) o1_10.rowsR (by omega) (by omega)).mono ?_; rintro e w11 ⟨rfl, b11⟩))
      have z10 := b10.size
      have B10 : Below w.heap.size w w10 := Below.trans (B9) (b10.mono (by omega))
      replace k0 : Blk w10 (w.heap.size) 24 #[.int .i64 n0, .slice A0 xs0.length c0] := k0.below b10 (by omega)
      obtain ⟨pk0_0, pk0_1⟩ := k0.c2
      replace k1 : Blk w10 (w.heap.size + 1) 24 #[.int .i64 n1, .slice A1 xs1.length c1] := k1.below b10 (by omega)
      obtain ⟨pk1_0, pk1_1⟩ := k1.c2
      replace k2 : Blk w10 (g3) 29 #[.int .i64 ((besX n0 xs0 n1 xs1)).n, .slice A_w0 ((besX n0 xs0 n1 xs1)).xs.length c_w0] := k2.below b10 (by omega)
      obtain ⟨pk2_0, pk2_1⟩ := k2.c2
      replace k3 : Blk w10 (w4.heap.size) 29 #[.int .i64 n0, .slice A0_4 xs0.length c0_4] := k3.below b10 (by omega)
      obtain ⟨pk3_0, pk3_1⟩ := k3.c2
      replace k4 : Blk w10 (w5.heap.size) 29 #[.int .i64 n1, .slice A1_5 xs1.length c1_5] := k4.below b10 (by omega)
      obtain ⟨pk4_0, pk4_1⟩ := k4.c2
      replace k5 : Blk w10 (w6.heap.size) 29 #[.int .i64 ((besX n0 xs0 n1 xs1)).n, .slice A_g0 ((besX n0 xs0 n1 xs1)).xs.length c_g0] := k5.below b10 (by omega)
      obtain ⟨pk5_0, pk5_1⟩ := k5.c2
      replace o_w0 := o_w0.below b10 (by omega)
      replace o0_4 := o0_4.below b10 (by omega)
      replace o1_5 := o1_5.below b10 (by omega)
      replace o_g0 := o_g0.below b10 (by omega)
      have z11 := b11.size
      have B11 : Below w.heap.size w w11 := Below.trans (B10) (b11.mono (by omega))
      replace k0 : Blk w11 (w.heap.size) 24 #[.int .i64 n0, .slice A0 xs0.length c0] := k0.below b11 (by omega)
      obtain ⟨pk0_0, pk0_1⟩ := k0.c2
      replace k1 : Blk w11 (w.heap.size + 1) 24 #[.int .i64 n1, .slice A1 xs1.length c1] := k1.below b11 (by omega)
      obtain ⟨pk1_0, pk1_1⟩ := k1.c2
      replace k2 : Blk w11 (g3) 29 #[.int .i64 ((besX n0 xs0 n1 xs1)).n, .slice A_w0 ((besX n0 xs0 n1 xs1)).xs.length c_w0] := k2.below b11 (by omega)
      obtain ⟨pk2_0, pk2_1⟩ := k2.c2
      replace k3 : Blk w11 (w4.heap.size) 29 #[.int .i64 n0, .slice A0_4 xs0.length c0_4] := k3.below b11 (by omega)
      obtain ⟨pk3_0, pk3_1⟩ := k3.c2
      replace k4 : Blk w11 (w5.heap.size) 29 #[.int .i64 n1, .slice A1_5 xs1.length c1_5] := k4.below b11 (by omega)
      obtain ⟨pk4_0, pk4_1⟩ := k4.c2
      replace k5 : Blk w11 (w6.heap.size) 29 #[.int .i64 ((besX n0 xs0 n1 xs1)).n, .slice A_g0 ((besX n0 xs0 n1 xs1)).xs.length c_g0] := k5.below b11 (by omega)
      obtain ⟨pk5_0, pk5_1⟩ := k5.c2
      replace o_w0 := o_w0.below b11 (by omega)
      replace o0_4 := o0_4.below b11 (by omega)
      replace o1_5 := o1_5.below b11 (by omega)
      replace o_g0 := o_g0.below b11 (by omega)
      go_wp2_with (fail)
      refine (laws_markChart _ _ _ _ _ _ _ _ o0_4 (by omega) (by omega)).mono ?_
      rintro e w12 ⟨rfl, o0_4, b12⟩
      have z12 := b12.size
      have B12 : Below w.heap.size w w12 := Below.trans (B11) ((b12.below (by omega)).mono (by omega))
      replace k0 : Blk w12 (w.heap.size) 24 #[.int .i64 n0, .slice A0 xs0.length c0] := k0.upd b12 (by omega)
      obtain ⟨pk0_0, pk0_1⟩ := k0.c2
      replace k1 : Blk w12 (w.heap.size + 1) 24 #[.int .i64 n1, .slice A1 xs1.length c1] := k1.upd b12 (by omega)
      obtain ⟨pk1_0, pk1_1⟩ := k1.c2
      replace k2 : Blk w12 (g3) 29 #[.int .i64 ((besX n0 xs0 n1 xs1)).n, .slice A_w0 ((besX n0 xs0 n1 xs1)).xs.length c_w0] := k2.upd b12 (by omega)
      obtain ⟨pk2_0, pk2_1⟩ := k2.c2
      replace k3 : Blk w12 (w4.heap.size) 29 #[.int .i64 n0, .slice A0_4 xs0.length c0_4] := k3.upd b12 (by omega)
      obtain ⟨pk3_0, pk3_1⟩ := k3.c2
      replace k4 : Blk w12 (w5.heap.size) 29 #[.int .i64 n1, .slice A1_5 xs1.length c1_5] := k4.upd b12 (by omega)
      obtain ⟨pk4_0, pk4_1⟩ := k4.c2
      replace k5 : Blk w12 (w6.heap.size) 29 #[.int .i64 ((besX n0 xs0 n1 xs1)).n, .slice A_g0 ((besX n0 xs0 n1 xs1)).xs.length c_g0] := k5.upd b12 (by omega)
      obtain ⟨pk5_0, pk5_1⟩ := k5.c2
      replace o_w0 := o_w0.upd b12 (by omega)
      replace o1_5 := o1_5.upd b12 (by omega)
      replace o_g0 := o_g0.upd b12 (by omega)
      go_wp2_with (fail)
      refine (laws_markChart _ _ _ _ _ _ _ _ o1_5 (by omega) (by omega)).mono ?_
      rintro e w13 ⟨rfl, o1_5, b13⟩
      have z13 := b13.size
      have B13 : Below w.heap.size w w13 := Below.trans (B12) ((b13.below (by omega)).mono (by omega))
      replace k0 : Blk w13 (w.heap.size) 24 #[.int .i64 n0, .slice A0 xs0.length c0] := k0.upd b13 (by omega)
      obtain ⟨pk0_0, pk0_1⟩ := k0.c2
      replace k1 : Blk w13 (w.heap.size + 1) 24 #[.int .i64 n1, .slice A1 xs1.length c1] := k1.upd b13 (by omega)
      obtain ⟨pk1_0, pk1_1⟩ := k1.c2
      replace k2 : Blk w13 (g3) 29 #[.int .i64 ((besX n0 xs0 n1 xs1)).n, .slice A_w0 ((besX n0 xs0 n1 xs1)).xs.length c_w0] := k2.upd b13 (by omega)
      obtain ⟨pk2_0, pk2_1⟩ := k2.c2
      replace k3 : Blk w13 (w4.heap.size) 29 #[.int .i64 n0, .slice A0_4 xs0.length c0_4] := k3.upd b13 (by omega)
      obtain ⟨pk3_0, pk3_1⟩ := k3.c2
      replace k4 : Blk w13 (w5.heap.size) 29 #[.int .i64 n1, .slice A1_5 xs1.length c1_5] := k4.upd b13 (by omega)
      obtain ⟨pk4_0, pk4_1⟩ := k4.c2
      replace k5 : Blk w13 (w6.heap.size) 29 #[.int .i64 ((besX n0 xs0 n1 xs1)).n, .slice A_g0 ((besX n0 xs0 n1 xs1)).xs.length c_g0] := k5.upd b13 (by omega)
      obtain ⟨pk5_0, pk5_1⟩ := k5.c2
      replace o_w0 := o_w0.upd b13 (by omega)
      replace o0_4 := o0_4.upd b13 (by omega)
      replace o_g0 := o_g0.upd b13 (by omega)
      go_wp2_with (fail)
      refine (laws_eqChart _ _ _ _ _ _ _ _ _ o_g0.rowsR o_w0.rowsR (by have := besX_size n0 xs0 n1 xs1; omega) (by have := besX_size n0 xs0 n1 xs1; omega)).mono ?_
      rintro e w14 ⟨rfl, b14⟩
      have z14 := b14.size
      have B14 : Below w.heap.size w w14 := Below.trans (B13) (b14.mono (by omega))
      replace k0 : Blk w14 (w.heap.size) 24 #[.int .i64 n0, .slice A0 xs0.length c0] := k0.below b14 (by omega)
      obtain ⟨pk0_0, pk0_1⟩ := k0.c2
      replace k1 : Blk w14 (w.heap.size + 1) 24 #[.int .i64 n1, .slice A1 xs1.length c1] := k1.below b14 (by omega)
      obtain ⟨pk1_0, pk1_1⟩ := k1.c2
      replace k2 : Blk w14 (g3) 29 #[.int .i64 ((besX n0 xs0 n1 xs1)).n, .slice A_w0 ((besX n0 xs0 n1 xs1)).xs.length c_w0] := k2.below b14 (by omega)
      obtain ⟨pk2_0, pk2_1⟩ := k2.c2
      replace k3 : Blk w14 (w4.heap.size) 29 #[.int .i64 n0, .slice A0_4 xs0.length c0_4] := k3.below b14 (by omega)
      obtain ⟨pk3_0, pk3_1⟩ := k3.c2
      replace k4 : Blk w14 (w5.heap.size) 29 #[.int .i64 n1, .slice A1_5 xs1.length c1_5] := k4.below b14 (by omega)
      obtain ⟨pk4_0, pk4_1⟩ := k4.c2
      replace k5 : Blk w14 (w6.heap.size) 29 #[.int .i64 ((besX n0 xs0 n1 xs1)).n, .slice A_g0 ((besX n0 xs0 n1 xs1)).xs.length c_g0] := k5.below b14 (by omega)
      obtain ⟨pk5_0, pk5_1⟩ := k5.c2
      replace o_w0 := o_w0.below b14 (by omega)
      replace o0_4 := o0_4.below b14 (by omega)
      replace o1_5 := o1_5.below b14 (by omega)
      replace o_g0 := o_g0.below b14 (by omega)
      go_wp2_with (fail)
      refine (laws_markChart _ _ _ _ _ _ _ _ o_g0 (by omega) (by have := besX_size n0 xs0 n1 xs1; omega)).mono ?_
      rintro e w15 ⟨rfl, o_g0, b15⟩
      have z15 := b15.size
      have B15 : Below w.heap.size w w15 := Below.trans (B14) ((b15.below (by omega)).mono (by omega))
      replace k0 : Blk w15 (w.heap.size) 24 #[.int .i64 n0, .slice A0 xs0.length c0] := k0.upd b15 (by omega)
      obtain ⟨pk0_0, pk0_1⟩ := k0.c2
      replace k1 : Blk w15 (w.heap.size + 1) 24 #[.int .i64 n1, .slice A1 xs1.length c1] := k1.upd b15 (by omega)
      obtain ⟨pk1_0, pk1_1⟩ := k1.c2
      replace k2 : Blk w15 (g3) 29 #[.int .i64 ((besX n0 xs0 n1 xs1)).n, .slice A_w0 ((besX n0 xs0 n1 xs1)).xs.length c_w0] := k2.upd b15 (by omega)
      obtain ⟨pk2_0, pk2_1⟩ := k2.c2
      replace k3 : Blk w15 (w4.heap.size) 29 #[.int .i64 n0, .slice A0_4 xs0.length c0_4] := k3.upd b15 (by omega)
      obtain ⟨pk3_0, pk3_1⟩ := k3.c2
      replace k4 : Blk w15 (w5.heap.size) 29 #[.int .i64 n1, .slice A1_5 xs1.length c1_5] := k4.upd b15 (by omega)
      obtain ⟨pk4_0, pk4_1⟩ := k4.c2
      replace k5 : Blk w15 (w6.heap.size) 29 #[.int .i64 ((besX n0 xs0 n1 xs1)).n, .slice A_g0 ((besX n0 xs0 n1 xs1)).xs.length c_g0] := k5.upd b15 (by omega)
      obtain ⟨pk5_0, pk5_1⟩ := k5.c2
      replace o_w0 := o_w0.upd b15 (by omega)
      replace o0_4 := o0_4.upd b15 (by omega)
      replace o1_5 := o1_5.upd b15 (by omega)
      go_wp2_with (fail)
      refine (laws_heldChart _ _ _ _ _ _ o_g0.rowsR (by omega) (by have := besX_size n0 xs0 n1 xs1; omega) (by have := besX_size n0 xs0 n1 xs1; omega)).mono ?_
      rintro e w16 ⟨rfl, b16⟩
      have z16 := b16.size
      have B16 : Below w.heap.size w w16 := Below.trans (B15) (b16.mono (by omega))
      replace k0 : Blk w16 (w.heap.size) 24 #[.int .i64 n0, .slice A0 xs0.length c0] := k0.below b16 (by omega)
      obtain ⟨pk0_0, pk0_1⟩ := k0.c2
      replace k1 : Blk w16 (w.heap.size + 1) 24 #[.int .i64 n1, .slice A1 xs1.length c1] := k1.below b16 (by omega)
      obtain ⟨pk1_0, pk1_1⟩ := k1.c2
      replace k2 : Blk w16 (g3) 29 #[.int .i64 ((besX n0 xs0 n1 xs1)).n, .slice A_w0 ((besX n0 xs0 n1 xs1)).xs.length c_w0] := k2.below b16 (by omega)
      obtain ⟨pk2_0, pk2_1⟩ := k2.c2
      replace k3 : Blk w16 (w4.heap.size) 29 #[.int .i64 n0, .slice A0_4 xs0.length c0_4] := k3.below b16 (by omega)
      obtain ⟨pk3_0, pk3_1⟩ := k3.c2
      replace k4 : Blk w16 (w5.heap.size) 29 #[.int .i64 n1, .slice A1_5 xs1.length c1_5] := k4.below b16 (by omega)
      obtain ⟨pk4_0, pk4_1⟩ := k4.c2
      replace k5 : Blk w16 (w6.heap.size) 29 #[.int .i64 ((besX n0 xs0 n1 xs1)).n, .slice A_g0 ((besX n0 xs0 n1 xs1)).xs.length c_g0] := k5.below b16 (by omega)
      obtain ⟨pk5_0, pk5_1⟩ := k5.c2
      replace o_w0 := o_w0.below b16 (by omega)
      replace o0_4 := o0_4.below b16 (by omega)
      replace o1_5 := o1_5.below b16 (by omega)
      replace o_g0 := o_g0.below b16 (by omega)
      go_wp2_with (fail)
      refine wp_cut (fun a0 a' w' => ∃ (g lo hi : Nat) (A' : Option Addr) (c' : Nat) (VA VB : Value), a' = (Act.put (Act.put (Act.put (Act.put (Act.put (Act.put (Act.put (Act.put (Act.put (Act.put a0 (some 95) (.agg #[.int .i64 n0, .slice A0 xs0.length c0])) (some 96) (VA)) (some 97) (.agg #[.int .i64 n1, .slice A1 xs1.length c1])) (some 98) (VB)) (some 99) (.tuple #[.agg #[.int .i64 ((besX n0 xs0 n1 xs1)).n, .slice A' ((besX n0 xs0 n1 xs1)).xs.length c'], .int .i64 (besCode n0 xs0 n1 xs1)])) (some 94) (.tuple #[.agg #[.int .i64 ((besX n0 xs0 n1 xs1)).n, .slice A' ((besX n0 xs0 n1 xs1)).xs.length c'], .int .i64 (besCode n0 xs0 n1 xs1)])) (some 100) (.agg #[.int .i64 ((besX n0 xs0 n1 xs1)).n, .slice A' ((besX n0 xs0 n1 xs1)).xs.length c'])) (some 101) (.int .i64 (besCode n0 xs0 n1 xs1))) (some 15) (.pointer (some ⟨g, 0, none⟩))) (some 16) (.int .i64 (besCode n0 xs0 n1 xs1))) ∧ CutEnd w16 w' g lo hi A' c' ((besX n0 xs0 n1 xs1)).n ((besX n0 xs0 n1 xs1)).xs) ?_ ?_
      · (refine wp_region_pops 1 (S := (fun W' => (W'.cell? ⟨w.heap.size, 0, none⟩ = some (.int .i64 n0) ∧ W'.cell? ⟨w.heap.size, 1, none⟩ = some (.slice A0 xs0.length c0)) ∧ (W'.cell? ⟨w.heap.size + 1, 0, none⟩ = some (.int .i64 n1) ∧ W'.cell? ⟨w.heap.size + 1, 1, none⟩ = some (.slice A1 xs1.length c1)))) (pre := ?_) (T := ?_) (n := ?_) (by kernel_rfl) (by kernel_rfl) ?_ ?_ ?_ ?_ (fun hHeld => ?_); rotate_left 3; (focus (simp only [pops, List.pop_toArray, List.dropLast_cons_cons, List.dropLast_singleton]; rfl)); (focus (simp only [tailOf, List.back?_toArray, List.getLast?_cons_cons, List.getLast?_singleton, Option.toList_some, List.nil_append]; rfl)); (focus rfl); (focus (exact ⟨k0.c2, k1.c2⟩)))
        ((refine wpAnyH_take (i := 0) (v := ?_) rfl (by kernel_rfl) (by kernel_rfl) (by kernel_rfl) (fun _ _ _ h => h) (Or.inl ⟨by rfl, ?_⟩) (by assumption) ?_; rotate_left; (focus (intro W hSw; (try dsimp only at hSw); go_simp; try (with_reducible rfl)))); (try simp only [List.getElem_toArray, List.getElem_cons_zero, Act.put, List.setIfInBounds_toArray, List.set_cons_zero, List.set_cons_succ]); (refine wpAnyH_take (i := 2) (v := ?_) rfl (by kernel_rfl) (by kernel_rfl) (by kernel_rfl) (fun _ _ _ h => h) (Or.inl ⟨by rfl, ?_⟩) (by assumption) ?_; rotate_left; (focus (intro W hSw; (try dsimp only at hSw); go_simp; try (with_reducible rfl)))); (try simp only [List.getElem_toArray, List.getElem_cons_zero, List.getElem_cons_succ, Act.put, List.setIfInBounds_toArray, List.set_cons_zero, List.set_cons_succ]))
        obtain ⟨v0, hv0⟩ : ∃ v0, v0 = World.drew w16 := ⟨_, rfl⟩
        have z0 : w16.heap.size ≤ v0.heap.size := by rw [hv0]; exact Nat.le_refl _
        have bc0 : Below w16.heap.size w16 v0 := by rw [hv0]; exact (Below.refl _ _).drew
        rw [← hv0] at hHeld ⊢
        clear hv0
        refine wpAnyH_ready (rs := [1, 8]) (by kernel_rfl) (by simp) ?_
        refine AllReadyH.cons rfl (fun K hK => ?_) (AllReadyH.cons rfl (fun K hK => ?_) AllReadyH.nil)
        · skip
          go_simp
          refine (laws_toChart _ _ _ _ _ (h0.below ((B16).trans (Below.mono bc0 (by omega)))) (by omega)).mono ?_
          rintro e v1 ⟨AA, cA, rfl, oA, b1⟩
          have zz1 := b1.size
          have bc1 : Below w16.heap.size w16 v1 := bc0.trans (b1.mono (by omega))
          clear hHeld
          refine hK.out _ _ ⟨(k0.below bc1 (by first | omega | (simp; done) | (simp; omega))).c2, (k1.below bc1 (by first | omega | (simp; done) | (simp; omega))).c2⟩ (fun hHeld => ?_)
          clear hK K
          (try simp only [List.getElem_toArray, List.getElem_cons_zero, List.getElem_cons_succ, Act.put, List.setIfInBounds_toArray, List.set_cons_zero, List.set_cons_succ])
          refine wpAnyH_ready (rs := [3, 8]) (by kernel_rfl) (by simp) ?_
          refine AllReadyH.cons rfl (fun K hK => ?_) (AllReadyH.cons rfl (fun K hK => ?_) AllReadyH.nil)
          · skip
            go_simp
            refine (laws_toChart _ _ _ _ _ (h1.below ((B16).trans (Below.mono bc1 (by omega)))) (by omega)).mono ?_
            rintro e v2 ⟨AB, cB, rfl, oB, b2⟩
            have zz2 := b2.size
            replace oA := oA.below b2 (by omega)
            have bc2 : Below w16.heap.size w16 v2 := bc1.trans (b2.mono (by omega))
            clear hHeld
            refine hK.out _ _ ⟨(k0.below bc2 (by first | omega | (simp; done) | (simp; omega))).c2, (k1.below bc2 (by first | omega | (simp; done) | (simp; omega))).c2⟩ (fun hHeld => ?_)
            clear hK K
            (try simp only [List.getElem_toArray, List.getElem_cons_zero, List.getElem_cons_succ, Act.put, List.setIfInBounds_toArray, List.set_cons_zero, List.set_cons_succ])
            refine wpAnyH_ready (rs := [4, 8]) (by kernel_rfl) (by simp) ?_
            refine AllReadyH.cons rfl (fun K hK => ?_) (AllReadyH.cons rfl (fun K hK => ?_) AllReadyH.nil)
            · skip
              go_simp
              refine (impl_BesideCharts _ _ _ _ _ _ _ _ _ oA.rowsR (by omega) oB.rowsR (by omega)).mono ?_
              rintro e v3 ⟨A', c', rfl, oF, b3⟩
              have zz3 := b3.size
              replace oA := oA.below b3 (by omega)
              replace oB := oB.below b3 (by omega)
              have bc3 : Below w16.heap.size w16 v3 := bc2.trans (b3.mono (by omega))
              clear hHeld
              refine hK.out _ _ ⟨(k0.below bc3 (by first | omega | (simp; done) | (simp; omega))).c2, (k1.below bc3 (by first | omega | (simp; done) | (simp; omega))).c2⟩ (fun hHeld => ?_)
              clear hK K
              (try simp only [List.getElem_toArray, List.getElem_cons_zero, List.getElem_cons_succ, Act.put, List.setIfInBounds_toArray, List.set_cons_zero, List.set_cons_succ])
              ((refine wpAnyH_take (i := 5) (v := ?_) rfl (by kernel_rfl) (by kernel_rfl) (by kernel_rfl) (fun _ _ _ h => h) (Or.inl ⟨by rfl, ?_⟩) (by assumption) ?_; rotate_left; (focus (intro W hSw; (try dsimp only at hSw); go_simp; try (with_reducible rfl)))); (try simp only [List.getElem_toArray, List.getElem_cons_zero, List.getElem_cons_succ, Act.put, List.setIfInBounds_toArray, List.set_cons_zero, List.set_cons_succ]); (refine wpAnyH_take (i := 6) (v := ?_) rfl (by kernel_rfl) (by kernel_rfl) (by kernel_rfl) (fun _ _ _ h => h) (Or.inl ⟨by rfl, ?_⟩) (by assumption) ?_; rotate_left; (focus (intro W hSw; (try dsimp only at hSw); go_simp; try (with_reducible rfl)))); (try simp only [List.getElem_toArray, List.getElem_cons_zero, List.getElem_cons_succ, Act.put, List.setIfInBounds_toArray, List.set_cons_zero, List.set_cons_succ]); (refine wpAnyH_take (i := 7) (v := ?_) rfl (by kernel_rfl) (by kernel_rfl) (by kernel_rfl) (fun _ _ _ h => h) (Or.inl ⟨by rfl, ?_⟩) (by assumption) ?_; rotate_left; (focus (intro W hSw; (try dsimp only at hSw); go_simp; try (with_reducible rfl)))); (try simp only [List.getElem_toArray, List.getElem_cons_zero, List.getElem_cons_succ, Act.put, List.setIfInBounds_toArray, List.set_cons_zero, List.set_cons_succ]))
              (refine wpAnyH_ready (rs := [8]) (by kernel_rfl) (by simp) ?_; refine AllReadyH.cons rfl (fun K hK => ?_) AllReadyH.nil)
              go_simp
              obtain ⟨v4, hv4⟩ : ∃ v, v = World.alloc v3 (.cells #[.int .i64 0, .slice none 0 0] 29) := ⟨_, rfl⟩
              have z4 : v3.heap.size + 1 ≤ v4.heap.size := by rw [hv4]; simp
              have zz4 : v3.heap.size ≤ v4.heap.size := by omega
              have b4 : Below v3.heap.size v3 v4 := by rw [hv4]; exact (Below.refl _ _).alloc (Nat.le_refl _) _
              have kz : Blk v4 v3.heap.size 29 #[.int .i64 0, .slice none 0 0] := by rw [hv4]; exact Blk.new _ _ _
              rw [← hv4]
              clear hv4
              replace oA := oA.below b4 (by omega)
              replace oB := oB.below b4 (by omega)
              replace oF := oF.below b4 (by omega)
              have bc4 : Below w16.heap.size w16 v4 := bc3.trans (b4.mono (by omega))
              clear hHeld
              refine hK.out _ _ ⟨(k0.below bc4 (by first | omega | (simp; done) | (simp; omega))).c2, (k1.below bc4 (by first | omega | (simp; done) | (simp; omega))).c2⟩ (fun hHeld => ?_)
              clear hK K
              (try simp only [List.getElem_toArray, List.getElem_cons_zero, List.getElem_cons_succ, Act.put, List.setIfInBounds_toArray, List.set_cons_zero, List.set_cons_succ])
              refine wpAnyH_last (i := 9) (by kernel_rfl) rfl rfl (by kernel_rfl) ?_
              have g0 := kz.frozen 0
              have g1 := kz.frozen 1
              obtain ⟨r0, r1⟩ := kz.c2
              go_wp2_with (fail)
              refine endQ_mk ⟨(((k0.below bc4 (by first | omega | (simp; done) | (simp; omega))).far (p := ⟨v3.heap.size, 0, none⟩) (by show _ ≠ v3.heap.size; omega) _).far (p := ⟨v3.heap.size, 1, none⟩) (by show _ ≠ v3.heap.size; omega) _).c2, (((k1.below bc4 (by first | omega | (simp; done) | (simp; omega))).far (p := ⟨v3.heap.size, 0, none⟩) (by show _ ≠ v3.heap.size; omega) _).far (p := ⟨v3.heap.size, 1, none⟩) (by show _ ≠ v3.heap.size; omega) _).c2⟩ ?_
              change wpList _ _ _ _ _ _
              go_wp2_with (fail)
              refine cutQ_mk ?_
              refine ⟨v3.heap.size, v2.heap.size, v3.heap.size, A', c', .agg #[.int .i64 n0, .slice AA xs0.length cA], .agg #[.int .i64 n1, .slice AB xs1.length cB], ?_, ?_⟩
              · (try simp only [List.setIfInBounds_toArray, List.set_cons_zero, List.set_cons_succ])
              · exact cutEnd bc4 kz oF (by omega) (by omega) (by omega) (by omega)
            · skip
              go_simp
              obtain ⟨v3, hv3⟩ : ∃ v, v = World.alloc v2 (.cells #[.int .i64 0, .slice none 0 0] 29) := ⟨_, rfl⟩
              have z3 : v2.heap.size + 1 ≤ v3.heap.size := by rw [hv3]; simp
              have zz3 : v2.heap.size ≤ v3.heap.size := by omega
              have b3 : Below v2.heap.size v2 v3 := by rw [hv3]; exact (Below.refl _ _).alloc (Nat.le_refl _) _
              have kz : Blk v3 v2.heap.size 29 #[.int .i64 0, .slice none 0 0] := by rw [hv3]; exact Blk.new _ _ _
              rw [← hv3]
              clear hv3
              replace oA := oA.below b3 (by omega)
              replace oB := oB.below b3 (by omega)
              have bc3 : Below w16.heap.size w16 v3 := bc2.trans (b3.mono (by omega))
              clear hHeld
              refine hK.out _ _ ⟨(k0.below bc3 (by first | omega | (simp; done) | (simp; omega))).c2, (k1.below bc3 (by first | omega | (simp; done) | (simp; omega))).c2⟩ (fun hHeld => ?_)
              clear hK K
              (try simp only [List.getElem_toArray, List.getElem_cons_zero, List.getElem_cons_succ, Act.put, List.setIfInBounds_toArray, List.set_cons_zero, List.set_cons_succ])
              (refine wpAnyH_ready (rs := [4]) (by kernel_rfl) (by simp) ?_; refine AllReadyH.cons rfl (fun K hK => ?_) AllReadyH.nil)
              go_simp
              refine (impl_BesideCharts _ _ _ _ _ _ _ _ _ oA.rowsR (by omega) oB.rowsR (by omega)).mono ?_
              rintro e v4 ⟨A', c', rfl, oF, b4⟩
              have zz4 := b4.size
              replace kz := kz.below b4 (by omega)
              replace oA := oA.below b4 (by omega)
              replace oB := oB.below b4 (by omega)
              have bc4 : Below w16.heap.size w16 v4 := bc3.trans (b4.mono (by omega))
              clear hHeld
              refine hK.out _ _ ⟨(k0.below bc4 (by first | omega | (simp; done) | (simp; omega))).c2, (k1.below bc4 (by first | omega | (simp; done) | (simp; omega))).c2⟩ (fun hHeld => ?_)
              clear hK K
              (try simp only [List.getElem_toArray, List.getElem_cons_zero, List.getElem_cons_succ, Act.put, List.setIfInBounds_toArray, List.set_cons_zero, List.set_cons_succ])
              ((refine wpAnyH_take (i := 5) (v := ?_) rfl (by kernel_rfl) (by kernel_rfl) (by kernel_rfl) (fun _ _ _ h => h) (Or.inl ⟨by rfl, ?_⟩) (by assumption) ?_; rotate_left; (focus (intro W hSw; (try dsimp only at hSw); go_simp; try (with_reducible rfl)))); (try simp only [List.getElem_toArray, List.getElem_cons_zero, List.getElem_cons_succ, Act.put, List.setIfInBounds_toArray, List.set_cons_zero, List.set_cons_succ]); (refine wpAnyH_take (i := 6) (v := ?_) rfl (by kernel_rfl) (by kernel_rfl) (by kernel_rfl) (fun _ _ _ h => h) (Or.inl ⟨by rfl, ?_⟩) (by assumption) ?_; rotate_left; (focus (intro W hSw; (try dsimp only at hSw); go_simp; try (with_reducible rfl)))); (try simp only [List.getElem_toArray, List.getElem_cons_zero, List.getElem_cons_succ, Act.put, List.setIfInBounds_toArray, List.set_cons_zero, List.set_cons_succ]); (refine wpAnyH_take (i := 7) (v := ?_) rfl (by kernel_rfl) (by kernel_rfl) (by kernel_rfl) (fun _ _ _ h => h) (Or.inl ⟨by rfl, ?_⟩) (by assumption) ?_; rotate_left; (focus (intro W hSw; (try dsimp only at hSw); go_simp; try (with_reducible rfl)))); (try simp only [List.getElem_toArray, List.getElem_cons_zero, List.getElem_cons_succ, Act.put, List.setIfInBounds_toArray, List.set_cons_zero, List.set_cons_succ]))
              refine wpAnyH_last (i := 9) (by kernel_rfl) rfl rfl (by kernel_rfl) ?_
              have g0 := kz.frozen 0
              have g1 := kz.frozen 1
              obtain ⟨r0, r1⟩ := kz.c2
              go_wp2_with (fail)
              refine endQ_mk ⟨(((k0.below bc4 (by first | omega | (simp; done) | (simp; omega))).far (p := ⟨v2.heap.size, 0, none⟩) (by show _ ≠ v2.heap.size; omega) _).far (p := ⟨v2.heap.size, 1, none⟩) (by show _ ≠ v2.heap.size; omega) _).c2, (((k1.below bc4 (by first | omega | (simp; done) | (simp; omega))).far (p := ⟨v2.heap.size, 0, none⟩) (by show _ ≠ v2.heap.size; omega) _).far (p := ⟨v2.heap.size, 1, none⟩) (by show _ ≠ v2.heap.size; omega) _).c2⟩ ?_
              change wpList _ _ _ _ _ _
              go_wp2_with (fail)
              refine cutQ_mk ?_
              refine ⟨v2.heap.size, v3.heap.size, v4.heap.size, A', c', .agg #[.int .i64 n0, .slice AA xs0.length cA], .agg #[.int .i64 n1, .slice AB xs1.length cB], ?_, ?_⟩
              · (try simp only [List.setIfInBounds_toArray, List.set_cons_zero, List.set_cons_succ])
              · exact cutEnd bc4 kz oF (by omega) (by omega) (by omega) (by omega)
          · skip
            go_simp
            obtain ⟨v2, hv2⟩ : ∃ v, v = World.alloc v1 (.cells #[.int .i64 0, .slice none 0 0] 29) := ⟨_, rfl⟩
            have z2 : v1.heap.size + 1 ≤ v2.heap.size := by rw [hv2]; simp
            have zz2 : v1.heap.size ≤ v2.heap.size := by omega
            have b2 : Below v1.heap.size v1 v2 := by rw [hv2]; exact (Below.refl _ _).alloc (Nat.le_refl _) _
            have kz : Blk v2 v1.heap.size 29 #[.int .i64 0, .slice none 0 0] := by rw [hv2]; exact Blk.new _ _ _
            rw [← hv2]
            clear hv2
            replace oA := oA.below b2 (by omega)
            have bc2 : Below w16.heap.size w16 v2 := bc1.trans (b2.mono (by omega))
            clear hHeld
            refine hK.out _ _ ⟨(k0.below bc2 (by first | omega | (simp; done) | (simp; omega))).c2, (k1.below bc2 (by first | omega | (simp; done) | (simp; omega))).c2⟩ (fun hHeld => ?_)
            clear hK K
            (try simp only [List.getElem_toArray, List.getElem_cons_zero, List.getElem_cons_succ, Act.put, List.setIfInBounds_toArray, List.set_cons_zero, List.set_cons_succ])
            (refine wpAnyH_ready (rs := [3]) (by kernel_rfl) (by simp) ?_; refine AllReadyH.cons rfl (fun K hK => ?_) AllReadyH.nil)
            go_simp
            refine (laws_toChart _ _ _ _ _ (h1.below ((B16).trans (Below.mono bc2 (by omega)))) (by omega)).mono ?_
            rintro e v3 ⟨AB, cB, rfl, oB, b3⟩
            have zz3 := b3.size
            replace kz := kz.below b3 (by omega)
            replace oA := oA.below b3 (by omega)
            have bc3 : Below w16.heap.size w16 v3 := bc2.trans (b3.mono (by omega))
            clear hHeld
            refine hK.out _ _ ⟨(k0.below bc3 (by first | omega | (simp; done) | (simp; omega))).c2, (k1.below bc3 (by first | omega | (simp; done) | (simp; omega))).c2⟩ (fun hHeld => ?_)
            clear hK K
            (try simp only [List.getElem_toArray, List.getElem_cons_zero, List.getElem_cons_succ, Act.put, List.setIfInBounds_toArray, List.set_cons_zero, List.set_cons_succ])
            (refine wpAnyH_ready (rs := [4]) (by kernel_rfl) (by simp) ?_; refine AllReadyH.cons rfl (fun K hK => ?_) AllReadyH.nil)
            go_simp
            refine (impl_BesideCharts _ _ _ _ _ _ _ _ _ oA.rowsR (by omega) oB.rowsR (by omega)).mono ?_
            rintro e v4 ⟨A', c', rfl, oF, b4⟩
            have zz4 := b4.size
            replace kz := kz.below b4 (by omega)
            replace oA := oA.below b4 (by omega)
            replace oB := oB.below b4 (by omega)
            have bc4 : Below w16.heap.size w16 v4 := bc3.trans (b4.mono (by omega))
            clear hHeld
            refine hK.out _ _ ⟨(k0.below bc4 (by first | omega | (simp; done) | (simp; omega))).c2, (k1.below bc4 (by first | omega | (simp; done) | (simp; omega))).c2⟩ (fun hHeld => ?_)
            clear hK K
            (try simp only [List.getElem_toArray, List.getElem_cons_zero, List.getElem_cons_succ, Act.put, List.setIfInBounds_toArray, List.set_cons_zero, List.set_cons_succ])
            ((refine wpAnyH_take (i := 5) (v := ?_) rfl (by kernel_rfl) (by kernel_rfl) (by kernel_rfl) (fun _ _ _ h => h) (Or.inl ⟨by rfl, ?_⟩) (by assumption) ?_; rotate_left; (focus (intro W hSw; (try dsimp only at hSw); go_simp; try (with_reducible rfl)))); (try simp only [List.getElem_toArray, List.getElem_cons_zero, List.getElem_cons_succ, Act.put, List.setIfInBounds_toArray, List.set_cons_zero, List.set_cons_succ]); (refine wpAnyH_take (i := 6) (v := ?_) rfl (by kernel_rfl) (by kernel_rfl) (by kernel_rfl) (fun _ _ _ h => h) (Or.inl ⟨by rfl, ?_⟩) (by assumption) ?_; rotate_left; (focus (intro W hSw; (try dsimp only at hSw); go_simp; try (with_reducible rfl)))); (try simp only [List.getElem_toArray, List.getElem_cons_zero, List.getElem_cons_succ, Act.put, List.setIfInBounds_toArray, List.set_cons_zero, List.set_cons_succ]); (refine wpAnyH_take (i := 7) (v := ?_) rfl (by kernel_rfl) (by kernel_rfl) (by kernel_rfl) (fun _ _ _ h => h) (Or.inl ⟨by rfl, ?_⟩) (by assumption) ?_; rotate_left; (focus (intro W hSw; (try dsimp only at hSw); go_simp; try (with_reducible rfl)))); (try simp only [List.getElem_toArray, List.getElem_cons_zero, List.getElem_cons_succ, Act.put, List.setIfInBounds_toArray, List.set_cons_zero, List.set_cons_succ]))
            refine wpAnyH_last (i := 9) (by kernel_rfl) rfl rfl (by kernel_rfl) ?_
            have g0 := kz.frozen 0
            have g1 := kz.frozen 1
            obtain ⟨r0, r1⟩ := kz.c2
            go_wp2_with (fail)
            refine endQ_mk ⟨(((k0.below bc4 (by first | omega | (simp; done) | (simp; omega))).far (p := ⟨v1.heap.size, 0, none⟩) (by show _ ≠ v1.heap.size; omega) _).far (p := ⟨v1.heap.size, 1, none⟩) (by show _ ≠ v1.heap.size; omega) _).c2, (((k1.below bc4 (by first | omega | (simp; done) | (simp; omega))).far (p := ⟨v1.heap.size, 0, none⟩) (by show _ ≠ v1.heap.size; omega) _).far (p := ⟨v1.heap.size, 1, none⟩) (by show _ ≠ v1.heap.size; omega) _).c2⟩ ?_
            change wpList _ _ _ _ _ _
            go_wp2_with (fail)
            refine cutQ_mk ?_
            refine ⟨v1.heap.size, v3.heap.size, v4.heap.size, A', c', .agg #[.int .i64 n0, .slice AA xs0.length cA], .agg #[.int .i64 n1, .slice AB xs1.length cB], ?_, ?_⟩
            · (try simp only [List.setIfInBounds_toArray, List.set_cons_zero, List.set_cons_succ])
            · exact cutEnd bc4 kz oF (by omega) (by omega) (by omega) (by omega)
        · skip
          go_simp
          obtain ⟨v1, hv1⟩ : ∃ v, v = World.alloc v0 (.cells #[.int .i64 0, .slice none 0 0] 29) := ⟨_, rfl⟩
          have z1 : v0.heap.size + 1 ≤ v1.heap.size := by rw [hv1]; simp
          have zz1 : v0.heap.size ≤ v1.heap.size := by omega
          have b1 : Below v0.heap.size v0 v1 := by rw [hv1]; exact (Below.refl _ _).alloc (Nat.le_refl _) _
          have kz : Blk v1 v0.heap.size 29 #[.int .i64 0, .slice none 0 0] := by rw [hv1]; exact Blk.new _ _ _
          rw [← hv1]
          clear hv1
          have bc1 : Below w16.heap.size w16 v1 := bc0.trans (b1.mono (by omega))
          clear hHeld
          refine hK.out _ _ ⟨(k0.below bc1 (by first | omega | (simp; done) | (simp; omega))).c2, (k1.below bc1 (by first | omega | (simp; done) | (simp; omega))).c2⟩ (fun hHeld => ?_)
          clear hK K
          (try simp only [List.getElem_toArray, List.getElem_cons_zero, List.getElem_cons_succ, Act.put, List.setIfInBounds_toArray, List.set_cons_zero, List.set_cons_succ])
          (refine wpAnyH_ready (rs := [1]) (by kernel_rfl) (by simp) ?_; refine AllReadyH.cons rfl (fun K hK => ?_) AllReadyH.nil)
          go_simp
          refine (laws_toChart _ _ _ _ _ (h0.below ((B16).trans (Below.mono bc1 (by omega)))) (by omega)).mono ?_
          rintro e v2 ⟨AA, cA, rfl, oA, b2⟩
          have zz2 := b2.size
          replace kz := kz.below b2 (by omega)
          have bc2 : Below w16.heap.size w16 v2 := bc1.trans (b2.mono (by omega))
          clear hHeld
          refine hK.out _ _ ⟨(k0.below bc2 (by first | omega | (simp; done) | (simp; omega))).c2, (k1.below bc2 (by first | omega | (simp; done) | (simp; omega))).c2⟩ (fun hHeld => ?_)
          clear hK K
          (try simp only [List.getElem_toArray, List.getElem_cons_zero, List.getElem_cons_succ, Act.put, List.setIfInBounds_toArray, List.set_cons_zero, List.set_cons_succ])
          (refine wpAnyH_ready (rs := [3]) (by kernel_rfl) (by simp) ?_; refine AllReadyH.cons rfl (fun K hK => ?_) AllReadyH.nil)
          go_simp
          refine (laws_toChart _ _ _ _ _ (h1.below ((B16).trans (Below.mono bc2 (by omega)))) (by omega)).mono ?_
          rintro e v3 ⟨AB, cB, rfl, oB, b3⟩
          have zz3 := b3.size
          replace kz := kz.below b3 (by omega)
          replace oA := oA.below b3 (by omega)
          have bc3 : Below w16.heap.size w16 v3 := bc2.trans (b3.mono (by omega))
          clear hHeld
          refine hK.out _ _ ⟨(k0.below bc3 (by first | omega | (simp; done) | (simp; omega))).c2, (k1.below bc3 (by first | omega | (simp; done) | (simp; omega))).c2⟩ (fun hHeld => ?_)
          clear hK K
          (try simp only [List.getElem_toArray, List.getElem_cons_zero, List.getElem_cons_succ, Act.put, List.setIfInBounds_toArray, List.set_cons_zero, List.set_cons_succ])
          (refine wpAnyH_ready (rs := [4]) (by kernel_rfl) (by simp) ?_; refine AllReadyH.cons rfl (fun K hK => ?_) AllReadyH.nil)
          go_simp
          refine (impl_BesideCharts _ _ _ _ _ _ _ _ _ oA.rowsR (by omega) oB.rowsR (by omega)).mono ?_
          rintro e v4 ⟨A', c', rfl, oF, b4⟩
          have zz4 := b4.size
          replace kz := kz.below b4 (by omega)
          replace oA := oA.below b4 (by omega)
          replace oB := oB.below b4 (by omega)
          have bc4 : Below w16.heap.size w16 v4 := bc3.trans (b4.mono (by omega))
          clear hHeld
          refine hK.out _ _ ⟨(k0.below bc4 (by first | omega | (simp; done) | (simp; omega))).c2, (k1.below bc4 (by first | omega | (simp; done) | (simp; omega))).c2⟩ (fun hHeld => ?_)
          clear hK K
          (try simp only [List.getElem_toArray, List.getElem_cons_zero, List.getElem_cons_succ, Act.put, List.setIfInBounds_toArray, List.set_cons_zero, List.set_cons_succ])
          ((refine wpAnyH_take (i := 5) (v := ?_) rfl (by kernel_rfl) (by kernel_rfl) (by kernel_rfl) (fun _ _ _ h => h) (Or.inl ⟨by rfl, ?_⟩) (by assumption) ?_; rotate_left; (focus (intro W hSw; (try dsimp only at hSw); go_simp; try (with_reducible rfl)))); (try simp only [List.getElem_toArray, List.getElem_cons_zero, List.getElem_cons_succ, Act.put, List.setIfInBounds_toArray, List.set_cons_zero, List.set_cons_succ]); (refine wpAnyH_take (i := 6) (v := ?_) rfl (by kernel_rfl) (by kernel_rfl) (by kernel_rfl) (fun _ _ _ h => h) (Or.inl ⟨by rfl, ?_⟩) (by assumption) ?_; rotate_left; (focus (intro W hSw; (try dsimp only at hSw); go_simp; try (with_reducible rfl)))); (try simp only [List.getElem_toArray, List.getElem_cons_zero, List.getElem_cons_succ, Act.put, List.setIfInBounds_toArray, List.set_cons_zero, List.set_cons_succ]); (refine wpAnyH_take (i := 7) (v := ?_) rfl (by kernel_rfl) (by kernel_rfl) (by kernel_rfl) (fun _ _ _ h => h) (Or.inl ⟨by rfl, ?_⟩) (by assumption) ?_; rotate_left; (focus (intro W hSw; (try dsimp only at hSw); go_simp; try (with_reducible rfl)))); (try simp only [List.getElem_toArray, List.getElem_cons_zero, List.getElem_cons_succ, Act.put, List.setIfInBounds_toArray, List.set_cons_zero, List.set_cons_succ]))
          refine wpAnyH_last (i := 9) (by kernel_rfl) rfl rfl (by kernel_rfl) ?_
          have g0 := kz.frozen 0
          have g1 := kz.frozen 1
          obtain ⟨r0, r1⟩ := kz.c2
          go_wp2_with (fail)
          refine endQ_mk ⟨(((k0.below bc4 (by first | omega | (simp; done) | (simp; omega))).far (p := ⟨v0.heap.size, 0, none⟩) (by show _ ≠ v0.heap.size; omega) _).far (p := ⟨v0.heap.size, 1, none⟩) (by show _ ≠ v0.heap.size; omega) _).c2, (((k1.below bc4 (by first | omega | (simp; done) | (simp; omega))).far (p := ⟨v0.heap.size, 0, none⟩) (by show _ ≠ v0.heap.size; omega) _).far (p := ⟨v0.heap.size, 1, none⟩) (by show _ ≠ v0.heap.size; omega) _).c2⟩ ?_
          change wpList _ _ _ _ _ _
          go_wp2_with (fail)
          refine cutQ_mk ?_
          refine ⟨v0.heap.size, v3.heap.size, v4.heap.size, A', c', .agg #[.int .i64 n0, .slice AA xs0.length cA], .agg #[.int .i64 n1, .slice AB xs1.length cB], ?_, ?_⟩
          · (try simp only [List.setIfInBounds_toArray, List.set_cons_zero, List.set_cons_succ])
          · exact cutEnd bc4 kz oF (by omega) (by omega) (by omega) (by omega)
      rintro a' w17 ⟨g17, lo17, hi17, A_h0, c_h0, VA17, VB17, rfl, b17, kc17, o_h0, hlo17, hhi17, hg17, hgw17, hfar17⟩
      (try simp only [Act.put, List.setIfInBounds_toArray, List.set_cons_zero, List.set_cons_succ])
      have z17 := b17.size
      have B17 : Below w.heap.size w w17 := Below.trans (B16) (b17.mono (by omega))
      replace k0 : Blk w17 (w.heap.size) 24 #[.int .i64 n0, .slice A0 xs0.length c0] := k0.below b17 (by omega)
      obtain ⟨pk0_0, pk0_1⟩ := k0.c2
      replace k1 : Blk w17 (w.heap.size + 1) 24 #[.int .i64 n1, .slice A1 xs1.length c1] := k1.below b17 (by omega)
      obtain ⟨pk1_0, pk1_1⟩ := k1.c2
      replace k2 : Blk w17 (g3) 29 #[.int .i64 ((besX n0 xs0 n1 xs1)).n, .slice A_w0 ((besX n0 xs0 n1 xs1)).xs.length c_w0] := k2.below b17 (by omega)
      obtain ⟨pk2_0, pk2_1⟩ := k2.c2
      replace k3 : Blk w17 (w4.heap.size) 29 #[.int .i64 n0, .slice A0_4 xs0.length c0_4] := k3.below b17 (by omega)
      obtain ⟨pk3_0, pk3_1⟩ := k3.c2
      replace k4 : Blk w17 (w5.heap.size) 29 #[.int .i64 n1, .slice A1_5 xs1.length c1_5] := k4.below b17 (by omega)
      obtain ⟨pk4_0, pk4_1⟩ := k4.c2
      replace k5 : Blk w17 (w6.heap.size) 29 #[.int .i64 ((besX n0 xs0 n1 xs1)).n, .slice A_g0 ((besX n0 xs0 n1 xs1)).xs.length c_g0] := k5.below b17 (by omega)
      obtain ⟨pk5_0, pk5_1⟩ := k5.c2
      replace o_w0 := o_w0.below b17 (by omega)
      replace o0_4 := o0_4.below b17 (by omega)
      replace o1_5 := o1_5.below b17 (by omega)
      replace o_g0 := o_g0.below b17 (by omega)
      have k6 := kc17
      clear kc17
      obtain ⟨pk6_0, pk6_1⟩ := k6.c2
      go_wp2_with (fail)
      refine (laws_eqChart _ _ _ _ _ _ _ _ _ o_h0.rowsR o_w0.rowsR (by have := besX_size n0 xs0 n1 xs1; omega) (by have := besX_size n0 xs0 n1 xs1; omega)).mono ?_
      rintro e w18 ⟨rfl, b18⟩
      have z18 := b18.size
      have B18 : Below w.heap.size w w18 := Below.trans (B17) (b18.mono (by omega))
      replace k0 : Blk w18 (w.heap.size) 24 #[.int .i64 n0, .slice A0 xs0.length c0] := k0.below b18 (by omega)
      obtain ⟨pk0_0, pk0_1⟩ := k0.c2
      replace k1 : Blk w18 (w.heap.size + 1) 24 #[.int .i64 n1, .slice A1 xs1.length c1] := k1.below b18 (by omega)
      obtain ⟨pk1_0, pk1_1⟩ := k1.c2
      replace k2 : Blk w18 (g3) 29 #[.int .i64 ((besX n0 xs0 n1 xs1)).n, .slice A_w0 ((besX n0 xs0 n1 xs1)).xs.length c_w0] := k2.below b18 (by omega)
      obtain ⟨pk2_0, pk2_1⟩ := k2.c2
      replace k3 : Blk w18 (w4.heap.size) 29 #[.int .i64 n0, .slice A0_4 xs0.length c0_4] := k3.below b18 (by omega)
      obtain ⟨pk3_0, pk3_1⟩ := k3.c2
      replace k4 : Blk w18 (w5.heap.size) 29 #[.int .i64 n1, .slice A1_5 xs1.length c1_5] := k4.below b18 (by omega)
      obtain ⟨pk4_0, pk4_1⟩ := k4.c2
      replace k5 : Blk w18 (w6.heap.size) 29 #[.int .i64 ((besX n0 xs0 n1 xs1)).n, .slice A_g0 ((besX n0 xs0 n1 xs1)).xs.length c_g0] := k5.below b18 (by omega)
      obtain ⟨pk5_0, pk5_1⟩ := k5.c2
      replace k6 : Blk w18 (g17) 29 #[.int .i64 ((besX n0 xs0 n1 xs1)).n, .slice A_h0 ((besX n0 xs0 n1 xs1)).xs.length c_h0] := k6.below b18 (by omega)
      obtain ⟨pk6_0, pk6_1⟩ := k6.c2
      replace o_w0 := o_w0.below b18 (by omega)
      replace o0_4 := o0_4.below b18 (by omega)
      replace o1_5 := o1_5.below b18 (by omega)
      replace o_g0 := o_g0.below b18 (by omega)
      replace o_h0 := o_h0.below b18 (by omega)
      go_wp2_with (fail)
      refine (laws_heldChart _ _ _ _ _ _ o_g0.rowsR (by omega) (by have := besX_size n0 xs0 n1 xs1; omega) (by have := besX_size n0 xs0 n1 xs1; omega)).mono ?_
      rintro e w19 ⟨rfl, b19⟩
      have z19 := b19.size
      have B19 : Below w.heap.size w w19 := Below.trans (B18) (b19.mono (by omega))
      replace k0 : Blk w19 (w.heap.size) 24 #[.int .i64 n0, .slice A0 xs0.length c0] := k0.below b19 (by omega)
      obtain ⟨pk0_0, pk0_1⟩ := k0.c2
      replace k1 : Blk w19 (w.heap.size + 1) 24 #[.int .i64 n1, .slice A1 xs1.length c1] := k1.below b19 (by omega)
      obtain ⟨pk1_0, pk1_1⟩ := k1.c2
      replace k2 : Blk w19 (g3) 29 #[.int .i64 ((besX n0 xs0 n1 xs1)).n, .slice A_w0 ((besX n0 xs0 n1 xs1)).xs.length c_w0] := k2.below b19 (by omega)
      obtain ⟨pk2_0, pk2_1⟩ := k2.c2
      replace k3 : Blk w19 (w4.heap.size) 29 #[.int .i64 n0, .slice A0_4 xs0.length c0_4] := k3.below b19 (by omega)
      obtain ⟨pk3_0, pk3_1⟩ := k3.c2
      replace k4 : Blk w19 (w5.heap.size) 29 #[.int .i64 n1, .slice A1_5 xs1.length c1_5] := k4.below b19 (by omega)
      obtain ⟨pk4_0, pk4_1⟩ := k4.c2
      replace k5 : Blk w19 (w6.heap.size) 29 #[.int .i64 ((besX n0 xs0 n1 xs1)).n, .slice A_g0 ((besX n0 xs0 n1 xs1)).xs.length c_g0] := k5.below b19 (by omega)
      obtain ⟨pk5_0, pk5_1⟩ := k5.c2
      replace k6 : Blk w19 (g17) 29 #[.int .i64 ((besX n0 xs0 n1 xs1)).n, .slice A_h0 ((besX n0 xs0 n1 xs1)).xs.length c_h0] := k6.below b19 (by omega)
      obtain ⟨pk6_0, pk6_1⟩ := k6.c2
      replace o_w0 := o_w0.below b19 (by omega)
      replace o0_4 := o0_4.below b19 (by omega)
      replace o1_5 := o1_5.below b19 (by omega)
      replace o_g0 := o_g0.below b19 (by omega)
      replace o_h0 := o_h0.below b19 (by omega)
      go_wp2_with (fail)
      go_ret
      exact ⟨rfl, B19⟩
    · have hz1 : szLeft (1048576 - ((sizeRows xs0 : Nat) : Int)) ((sizeRows xs1 : Nat) : Int) = -1 := by rw [szLeft, if_pos (by omega)]
      have hsz0 : xs0.length ≤ sizeRows xs0 := by unfold sizeRows; omega
      have hcn0 : cntRows xs0 ≤ 2 * sizeRows xs0 := by unfold sizeRows cntRows; omega
      have hsz1 : xs1.length ≤ sizeRows xs1 := by unfold sizeRows; omega
      have hcn1 : cntRows xs1 ≤ 2 * sizeRows xs1 := by unfold sizeRows cntRows; omega
      go_enter Try.func8, Try.ntmps8
      go_wp2_with (fail)
      refine (laws_szChart _ _ _ _ _ _ (h0.below ?hb0) l0 (by omega) (by omega)).mono ?_
      case hb0 => (repeat (first | exact Below.refl _ _ | assumption | apply Below.drew | apply below_drewN | (refine Below.alloc ?_ (by first | omega | (simp; done) | (simp; omega)) _) | (refine Below.setCell ?_ (by first | omega | (simp; done) | (simp; omega)) _)))
      rintro e w1 ⟨rfl, b1⟩
      simp only [World.size_alloc] at b1
      have b1' : Below w.heap.size w w1 := Below.trans (by (repeat (first | exact Below.refl _ _ | assumption | apply Below.drew | apply below_drewN | (refine Below.alloc ?_ (by first | omega | (simp; done) | (simp; omega)) _) | (refine Below.setCell ?_ (by first | omega | (simp; done) | (simp; omega)) _)))) (b1.mono (by first | omega | (simp; done) | (simp; omega)))
      have z1 : w.heap.size + 2 ≤ w1.heap.size := by have := b1.size; simpa using this
      have B1 : Below w.heap.size w w1 := Below.trans (Below.refl _ _) (b1'.mono (by omega))
      have k0 : Blk w1 (w.heap.size) 24 #[.int .i64 n0, .slice A0 xs0.length c0] := Blk.below (by simpa using (Blk.alloc (Blk.new w 24 #[.int .i64 n0, .slice A0 xs0.length c0]) (.cells #[.int .i64 n1, .slice A1 xs1.length c1] 24))) b1 (by first | omega | (simp; done) | (simp; omega))
      obtain ⟨pk0_0, pk0_1⟩ := k0.c2
      have k1 : Blk w1 (w.heap.size + 1) 24 #[.int .i64 n1, .slice A1 xs1.length c1] := Blk.below (by simpa using (Blk.new (World.alloc w (.cells #[.int .i64 n0, .slice A0 xs0.length c0] 24)) 24 #[.int .i64 n1, .slice A1 xs1.length c1])) b1 (by first | omega | (simp; done) | (simp; omega))
      obtain ⟨pk1_0, pk1_1⟩ := k1.c2
      go_wp2_with (fail)
      refine (laws_szChart _ _ _ _ _ _ (h1.below B1) l1 (by omega) (by omega)).mono ?_
      rintro e w2 ⟨rfl, b2⟩
      have z2 := b2.size
      have B2 : Below w.heap.size w w2 := Below.trans (B1) (b2.mono (by omega))
      replace k0 : Blk w2 (w.heap.size) 24 #[.int .i64 n0, .slice A0 xs0.length c0] := k0.below b2 (by omega)
      obtain ⟨pk0_0, pk0_1⟩ := k0.c2
      replace k1 : Blk w2 (w.heap.size + 1) 24 #[.int .i64 n1, .slice A1 xs1.length c1] := k1.below b2 (by omega)
      obtain ⟨pk1_0, pk1_1⟩ := k1.c2
      go_wp2_with (fail)
      go_ret
      exact ⟨rfl, B2⟩
  · have hz0 : szLeft (1048576) ((sizeRows xs0 : Nat) : Int) = -1 := by rw [szLeft, if_pos (by omega)]
    have hsz0 : xs0.length ≤ sizeRows xs0 := by unfold sizeRows; omega
    have hcn0 : cntRows xs0 ≤ 2 * sizeRows xs0 := by unfold sizeRows cntRows; omega
    have hsz1 : xs1.length ≤ sizeRows xs1 := by unfold sizeRows; omega
    have hcn1 : cntRows xs1 ≤ 2 * sizeRows xs1 := by unfold sizeRows cntRows; omega
    go_enter Try.func8, Try.ntmps8
    go_wp2_with (fail)
    refine (laws_szChart _ _ _ _ _ _ (h0.below ?hb0) l0 (by omega) (by omega)).mono ?_
    case hb0 => (repeat (first | exact Below.refl _ _ | assumption | apply Below.drew | apply below_drewN | (refine Below.alloc ?_ (by first | omega | (simp; done) | (simp; omega)) _) | (refine Below.setCell ?_ (by first | omega | (simp; done) | (simp; omega)) _)))
    rintro e w1 ⟨rfl, b1⟩
    simp only [World.size_alloc] at b1
    have b1' : Below w.heap.size w w1 := Below.trans (by (repeat (first | exact Below.refl _ _ | assumption | apply Below.drew | apply below_drewN | (refine Below.alloc ?_ (by first | omega | (simp; done) | (simp; omega)) _) | (refine Below.setCell ?_ (by first | omega | (simp; done) | (simp; omega)) _)))) (b1.mono (by first | omega | (simp; done) | (simp; omega)))
    have z1 : w.heap.size + 2 ≤ w1.heap.size := by have := b1.size; simpa using this
    have B1 : Below w.heap.size w w1 := Below.trans (Below.refl _ _) (b1'.mono (by omega))
    have k0 : Blk w1 (w.heap.size) 24 #[.int .i64 n0, .slice A0 xs0.length c0] := Blk.below (by simpa using (Blk.alloc (Blk.new w 24 #[.int .i64 n0, .slice A0 xs0.length c0]) (.cells #[.int .i64 n1, .slice A1 xs1.length c1] 24))) b1 (by first | omega | (simp; done) | (simp; omega))
    obtain ⟨pk0_0, pk0_1⟩ := k0.c2
    have k1 : Blk w1 (w.heap.size + 1) 24 #[.int .i64 n1, .slice A1 xs1.length c1] := Blk.below (by simpa using (Blk.new (World.alloc w (.cells #[.int .i64 n0, .slice A0 xs0.length c0] 24)) 24 #[.int .i64 n1, .slice A1 xs1.length c1])) b1 (by first | omega | (simp; done) | (simp; omega))
    obtain ⟨pk1_0, pk1_1⟩ := k1.c2
    go_wp2_with (fail)
    go_ret
    exact ⟨rfl, B1⟩


end Go.Proofs.Ytfgbhhkmdeljoaa
