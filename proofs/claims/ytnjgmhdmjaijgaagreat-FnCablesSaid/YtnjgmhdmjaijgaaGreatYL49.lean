/- The law FnCables walked. -/
import Derived.Test.YtnjgmhdmjaijgaaGreatZ27
namespace Go.Proofs.YtnjgmhdmjaijgaaGreat
open Go Go.RowKit

theorem CellsII.caps {w : World} {lo hi : Nat} {cs : List Value} {xss : List (List Int)} (h : CellsII w lo hi cs xss) {k : Nat} {xs : List Int} (hx : xss[k]? = some xs) : ∃ (A' : Option Addr) (c' : Nat), cs[k]? = some (Value.slice A' xs.length c') ∧ OwnI w lo hi A' c' xs := h.2.1 k xs hx
theorem flatten_snoc {gs : List (List Int)} {i : Nat} {g : List Int} (h : gs[i]? = some g) : (gs.take (i + 1)).flatten = (gs.take i).flatten ++ g := by
  rw [take_snoc h]; simp
theorem flatten_len {gs : List (List Int)} (i : Nat) : (gs.take i).flatten.length ≤ gs.flatten.length := by
  have : gs.flatten = (gs.take i).flatten ++ (gs.drop i).flatten := by rw [← List.flatten_append, List.take_append_drop]
  rw [this, List.length_append]
  omega

set_option maxHeartbeats 8000000 in
set_option maxRecDepth 10000 in
theorem law_FnCables (bs : List Int) (A : Option Addr) (c : Nat) (w : World) (h : Bytes w A bs) (_l : bs.length ≤ 9223372036854775807) :
    Calls Tryz.prog 4 #[.slice A bs.length c] w fun e w' => e = .returned (.bool true) ∧ Below w.heap.size w w' := by
  by_cases hlong : 1048576 < bs.length
  · go_enter Tryz.func4, Tryz.ntmps4
    go_wp2_with (fail)
    refine (laws_b10Long A bs.length c w).mono ?_; rintro e _ ⟨rfl, rfl⟩
    rw [decide_eq_true hlong]
    go_wp2_with (fail)
    go_ret
    exact ⟨rfl, Below.refl _ _⟩
  · obtain ⟨iI, hi0, hu0, hu1, hu2⟩ := info_parts info_int64
    go_enter Tryz.func4, Tryz.ntmps4
    go_wp2_with (fail)
    refine (laws_b10Long A bs.length c w).mono ?_; rintro e _ ⟨rfl, rfl⟩
    rw [decide_eq_false hlong]
    go_wp2_with (fail)
    refine (spec_DrawChartOfBraid A c bs w h (by omega)).mono ?_
    rintro e w1 ⟨z, xs, A1, c1, car, rfl, o1, hx50, b1⟩
    have i1 := OwnC.ints o1
    clear o1
    obtain ⟨w2, hw2⟩ : ∃ w2, w2 = w1.alloc (.cells #[.int .i64 z, .slice A1 xs.length c1] 38) := ⟨_, rfl⟩
    obtain ⟨gb, hgb⟩ : ∃ gb, gb = w1.heap.size := ⟨_, rfl⟩
    have kb : Blk w2 gb 38 #[.int .i64 z, .slice A1 xs.length c1] := by rw [hw2, hgb]; exact Blk.new w1 _ _
    have b12 : Below w1.heap.size w1 w2 := by rw [hw2]; (repeat (first | exact Below.refl _ _ | assumption | apply Below.drew | apply below_drewN | (refine Below.alloc ?_ (by first | omega | (simp; done) | (simp; omega)) _) | (refine Below.setCell ?_ (by first | omega | (simp; done) | (simp; omega)) _)))
    have i2 := i1.below b12
    have B2 : Below w.heap.size w w2 := b1.trans (b12.mono b1.size)
    go_upto_region 4 with fail
    rw [← hw2, ← hgb]
    clear hw2 hgb i1 b1 b12
    obtain ⟨p0, p1⟩ := kb.c2
    go_wp2_with (fail)
    refine (impl_ChartOfBraid z xs car A1 c1 w2 i2 (by omega)).mono ?_
    rintro e w3 ⟨A3, c3, rfl, o3, b3⟩
    have B3 : Below w.heap.size w w3 := B2.trans (b3.mono B2.size)
    have kb3 := kb.below b3 kb.lt
    have i3 := i2.below b3
    clear kb i2 b3 B2 p0 p1
    by_cases hk : cobCode z xs car = 0
    · obtain ⟨m, rs, W, rfl, hm, hx40, hr8, hw40, hbr, hX, hch, hca, hcc, hcx, hbw, heq, hsc, hsb, hpk, hfl, hgr⟩ := fc_facts hk
      rw [hX] at o3 ⊢
      rw [hk]
      have r3 : RowsR w3 A3 rs := o3.rowsR
      clear o3 hX hk
      have hrl : rs.length ≤ 9223372036854775807 := by omega
      have HBR := Lib.hid hbr; have HCH := Lib.hid hch; have HCA := Lib.hid hca; have HCC := Lib.hid hcc; have HCX := Lib.hid hcx; have HBW := Lib.hid hbw; have HEQ := Lib.hid heq; have HSC := Lib.hid hsc; have HSB := Lib.hid hsb; have HPK := Lib.hid hpk; have HFL := Lib.hid hfl; have HGR := Lib.hid hgr
      clear hbr hch hca hcc hcx hbw heq hsc hsb hpk hfl hgr
      obtain ⟨w4, hw4⟩ : ∃ w4, w4 = w3.alloc (.cells #[.int .i64 (m : Int), .slice A3 rs.length c3] 30) := ⟨_, rfl⟩
      obtain ⟨gc, hgc⟩ : ∃ gc, gc = w3.heap.size := ⟨_, rfl⟩
      have kc : Blk w4 gc 30 #[.int .i64 (m : Int), .slice A3 rs.length c3] := by rw [hw4, hgc]; exact Blk.new w3 _ _
      have b34 : Below w3.heap.size w3 w4 := by rw [hw4]; (repeat (first | exact Below.refl _ _ | assumption | apply Below.drew | apply below_drewN | (refine Below.alloc ?_ (by first | omega | (simp; done) | (simp; omega)) _) | (refine Below.setCell ?_ (by first | omega | (simp; done) | (simp; omega)) _)))
      have kb4 := kb3.below b34 kb3.lt
      have i4 := i3.below b34
      have r4 := r3.below b34
      have B4 : Below w.heap.size w w4 := B3.trans (b34.mono B3.size)
      go_upto_region 7 with fail
      rw [← hw4, ← hgc]
      clear hw4 hgc kb3 i3 r3 b34 B3
      obtain ⟨p0, p1⟩ := kc.c2
      go_wp2_with (fail)
      refine (impl_CableBraid (m : Int) rs A3 c3 w4 r4 hrl).mono ?_
      rintro e w5 ⟨A5, c5, rfl, o5, b5⟩
      rw [HCC.out]
      rw [HCX.out] at o5 ⊢
      have i5 : Ints w5 A5 W := OwnC.ints o5
      have kc5 := kc.below b5 kc.lt
      have kb5 := kb4.below b5 kb4.lt
      have i15 := i4.below b5
      have r5 := r4.below b5
      have B5 : Below w.heap.size w w5 := B4.trans (b5.mono B4.size)
      clear o5 b5 kc kb4 i4 r4 B4 p0 p1
      obtain ⟨w6, hw6⟩ : ∃ w6, w6 = w5.alloc (.cells #[.int .i64 (m : Int), .slice A5 W.length c5] 38) := ⟨_, rfl⟩
      obtain ⟨gx, hgx⟩ : ∃ gx, gx = w5.heap.size := ⟨_, rfl⟩
      have kx : Blk w6 gx 38 #[.int .i64 (m : Int), .slice A5 W.length c5] := by rw [hw6, hgx]; exact Blk.new w5 _ _
      have b56 : Below w5.heap.size w5 w6 := by rw [hw6]; (repeat (first | exact Below.refl _ _ | assumption | apply Below.drew | apply below_drewN | (refine Below.alloc ?_ (by first | omega | (simp; done) | (simp; omega)) _) | (refine Below.setCell ?_ (by first | omega | (simp; done) | (simp; omega)) _)))
      have kb6 := kb5.below b56 kb5.lt
      have kc6 := kc5.below b56 kc5.lt
      have i6 := i5.below b56
      have i16 := i15.below b56
      have r6 := r5.below b56
      have B6 : Below w.heap.size w w6 := B5.trans (b56.mono B5.size)
      go_upto_region 8 with fail
      rw [← hw6, ← hgx]
      clear hw6 hgx kb5 kc5 i5 i15 r5 b56 B5
      go_cut [63] (fun v wx => v = .bool false ∧ Blk wx gb 38 #[.int .i64 (m : Int), .slice A1 xs.length c1] ∧ Blk wx gc 30 #[.int .i64 (m : Int), .slice A3 rs.length c3] ∧ Ints wx A1 xs ∧ RowsR wx A3 rs ∧ Below w.heap.size w wx)
      case first =>
        obtain ⟨p0, p1⟩ := kc6.c2
        go_wp2_with (fail)
        refine (spec_ValidChart (m : Int) rs A3 c3 w6 r6 hrl).mono ?_; rintro e w7 ⟨rfl, b7⟩
        rw [HCH.out]
        have kb7 := kb6.below b7 kb6.lt
        have kc7 := kc6.below b7 kc6.lt
        have kx7 := kx.below b7 kx.lt
        have i7 := i6.below b7
        have i17 := i16.below b7
        have r7 := r6.below b7
        have B7 : Below w.heap.size w w7 := B6.trans (b7.mono B6.size)
        clear kb6 kc6 kx i6 i16 r6 b7 B6 p0 p1
        obtain ⟨p0, p1⟩ := kc7.c2
        go_wp2_with (fail)
        refine (impl_IsCable (m : Int) rs A3 c3 w7 r7 hrl).mono ?_; rintro e w8 ⟨rfl, b8⟩
        rw [HCA.out]
        have kb8 := kb7.below b8 kb7.lt
        have kc8 := kc7.below b8 kc7.lt
        have kx8 := kx7.below b8 kx7.lt
        have i8 := i7.below b8
        have i18 := i17.below b8
        have r8 := r7.below b8
        have B8 : Below w.heap.size w w8 := B7.trans (b8.mono B7.size)
        clear kb7 kc7 kx7 i7 i17 r7 b8 B7 p0 p1
        obtain ⟨p0, p1⟩ := kx8.c2
        obtain ⟨s0, s1⟩ := kb8.c2
        go_wp2_with (fail)
        refine (spec_SameBraid (m : Int) W xs A5 A1 c5 c1 w8 i8 i18 (by omega) (by omega)).mono ?_; rintro e w9 ⟨rfl, b9⟩
        have kb9 := kb8.below b9 kb8.lt
        have kc9 := kc8.below b9 kc8.lt
        have kx9 := kx8.below b9 kx8.lt
        have i9 := i8.below b9
        have i19 := i18.below b9
        have r9 := r8.below b9
        have B9 : Below w.heap.size w w9 := B8.trans (b9.mono B8.size)
        clear kb8 kc8 kx8 i8 i18 r8 b9 B8 p0 p1 s0 s1
        obtain ⟨p0, p1⟩ := kx9.c2
        obtain ⟨s0, s1⟩ := kb9.c2
        cases hsame : decide (W = xs)
        · go_wp2_with (fail)
          refine (spec_EqualBraids m W xs A5 A1 c5 c1 w9 i9 i19 HBW.out HBR.out).mono ?_; rintro e w10 ⟨rfl, b10⟩
          rw [HEQ.out]
          go_wp2_with (fail)
          go_meet
          exact ⟨rfl, kb9.below b10 kb9.lt, kc9.below b10 kc9.lt, i19.below b10, r9.below b10, B9.trans (b10.mono B9.size)⟩
        · go_wp2_with (fail)
          go_meet
          exact ⟨rfl, kb9, kc9, i19, r9, B9⟩
      case rest =>
      clear kb6 kc6 kx i6 i16 r6 B6
      obtain ⟨rfl, kb, kc, i1, r1, B1⟩ := hcut
      obtain ⟨s0, s1⟩ := kb.c2
      go_wp2_with (fail)
      refine (impl_PackLetters (m : Int) xs A1 c1 wc i1 (by omega)).mono ?_
      rintro e w2 ⟨A9, c9, rfl, o9, b2⟩
      rw [HBR.out]
      rw [HPK.out] at o9 ⊢
      have kb2 := kb.below b2 kb.lt
      have kc2 := kc.below b2 kc.lt
      have i2 := i1.below b2
      have r2 := r1.below b2
      have B2 : Below w.heap.size w w2 := B1.trans (b2.mono B1.size)
      have HPS := Lib.hid (pack_size xs).1
      have HFT := Lib.hid (fun i => flatten_len (gs := pack xs) i)
      clear kb kc i1 r1 B1 b2 s0 s1
      obtain ⟨cs, oo, ci⟩ := o9
      generalize pack xs = gs at *
      have hgl : gs.length ≤ 40 := by have := HPS.out; omega
      obtain ⟨hi2, hhi2⟩ : ∃ hi2, hi2 = w2.heap.size := ⟨_, rfl⟩
      have hhi : hi2 ≤ w2.heap.size := by omega
      rw [← hhi2] at oo ci
      clear hhi2
      have o3 : OwnC (w2.alloc (.cells #[] 2)) w2.heap.size (w2.alloc (.cells #[] 2)).heap.size 2 1 (some ⟨w2.heap.size, 0, none⟩) 0 0 ((gs.take 0).flatten.map (Value.int .i64)) := (OwnC.lit (w := w2) (lo := w2.heap.size) (n := 0) 2 1 #[] (Nat.le_refl _) (Nat.zero_le _) rfl).mono (Nat.le_refl _) (by simp)
      have hb3 : Below w2.heap.size w2 (w2.alloc (.cells #[] 2)) := by (repeat (first | exact Below.refl _ _ | assumption | apply Below.drew | apply below_drewN | (refine Below.alloc ?_ (by first | omega | (simp; done) | (simp; omega)) _) | (refine Below.setCell ?_ (by first | omega | (simp; done) | (simp; omega)) _)))
      go_wp2_with (fail)
      go_loopw [11, 12] (fun av iv wr => ∃ (i : Nat) (A8 : Option Addr) (c8 : Nat), i ≤ gs.length ∧ iv = .int .i64 (i : Int) ∧ av = .slice A8 (gs.take i).flatten.length c8 ∧ OwnC wr w2.heap.size wr.heap.size 2 1 A8 (gs.take i).flatten.length c8 ((gs.take i).flatten.map (Value.int .i64)) ∧ Below w2.heap.size w2 wr) (fun _ iv _ => gs.length - (intOf iv).toNat)
      case atStart => exact ⟨0, _, 0, Nat.zero_le _, rfl, rfl, o3, hb3⟩
      case round =>
        clear o3 hb3
        obtain ⟨i, A8, c8, hi, rfl, rfl, o8, hb⟩ := hrel
        have hzr := hb.size
        have kb3 := kb2.below hb kb2.lt
        obtain ⟨s0, s1⟩ := kb3.c2
        by_cases hil : i < gs.length
        · have hx : gs[i]? = some (gs[i]'hil) := List.getElem?_eq_getElem _
          obtain ⟨g, hg⟩ : ∃ g, g = gs[i]'hil := ⟨_, rfl⟩
          rw [← hg] at hx
          clear hg
          obtain ⟨A7, c7, hcs, og⟩ := ci.2.1 i g hx
          obtain ⟨gA, hA9, _, _, hcc, _⟩ := oo.cell (j := i) (by rw [ci.1]; exact hil)
          subst hA9
          rw [(List.getElem?_eq_some_iff.1 hcs).2] at hcc
          obtain ⟨gL, gAp⟩ := HGR.out g (List.mem_of_getElem? hx)
          obtain ⟨k1, k2, k3, k4, k5⟩ := group_row gL gAp hm.1 hm.2
          have hgc := og.cap
          have hgm := og.capmax
          have ig : Ints wr A7 g := (OwnC.ints og).below hb
          have hcw := cells_below hb _ _ hcc
          have HFS := Lib.hid (flatten_snoc hx)
          have hgl40 : (gs.take i).flatten.length + g.length ≤ 40 := by
            have h1 := HFT.out (i + 1)
            rw [flatten_snoc hx, List.length_append, HFL.out] at h1
            omega
          have HK1 := Lib.hid k1; have HK2 := Lib.hid k2; have HK3 := Lib.hid k3; have HK4 := Lib.hid k4; have HK5 := Lib.hid k5
          clear k1 k2 k3 k4 k5 gL gAp hx hcs
          have j1 : (0 : Int) ≤ (i : Int) := by omega
          have j2 : (i : Int) < (gs.length : Int) := by omega
          have di : decide ((i : Int) < (gs.length : Int)) = true := decide_eq_true (by omega)
          have HIN := Lib.hid (Ints.news ig)
          generalize hFL : (gs.take i).flatten.length = FL at *
          have HFLL := Lib.hid hFL; clear hFL
          go_wp2_with (at_builtin; refine wpList_appendC wr rfl (.tmp 76) (.tmp 80) _ rfl 2 iI _ 1 8 Tryz.underlying36 hi0 hu0 hu1 hu2 rfl (by decide) rfl o8 hzr A7 g.length c7 (g.map (Value.int .i64)) rfl (by simp) HIN.out (ints_one _) (by unfold maxLen; omega) (by omega) ?_; intro A6 c6 w8 ho8 hg8 hb8)
          have o8' := ho8
          have hz8 := hb8.size
          have hzr' : w2.heap.size ≤ w8.heap.size := by omega
          have B8 : Below w2.heap.size w2 w8 := hb.trans hb8
          have kb8 := kb2.below B8 kb2.lt
          obtain ⟨s0, s1⟩ := kb8.c2
          have hcw8 : w8.cell? ⟨gA, i, none⟩ = some (.slice A7 g.length c7) := cells_below B8 _ _ hcc
          have ig8 : Ints w8 A7 g := (OwnC.ints og).below B8
          clear o8 hcw ig kb3 hb ho8 HIN
          go_cut [13, 14] (fun pv cv wx => ∃ (g13 : Nat) (A10 : Option Addr) (c10 L10 : Nat), pv = .pointer (some ⟨g13, 0, none⟩) ∧ cv = .int .i64 0 ∧ Hid (L10 = (rowFrom m g 0).length) ∧ Blk wx g13 50 #[.int .i64 1, .int .i64 1, .slice A10 L10 c10] ∧ Ints wx A10 (rowFrom m g 0) ∧ Below w8.heap.size w8 wx)
          case first =>
            have HRL : Hid ((rowFrom m g 0).length ≤ 100) := Lib.hid (by have := rowFrom_length m g m 0 (by omega); omega)
            have t5 : (50 : TypeId) ≠ 2 := by decide
            (refine wp_region_pops 1 (S := (fun W' => W'.cell? ⟨gb, 0, none⟩ = some (.int .i64 (m : Int)) ∧ W'.cell? ⟨gA, i, none⟩ = some (.slice A7 g.length c7))) (pre := ?_) (T := ?_) (n := ?_) (by kernel_rfl) (by kernel_rfl) ?_ ?_ ?_ ?_ (fun hHeld => ?_); rotate_left 3; (focus (simp only [pops, List.pop_toArray, List.dropLast_cons_cons, List.dropLast_singleton]; rfl)); (focus (simp only [tailOf, List.back?_toArray, List.getLast?_cons_cons, List.getLast?_singleton, Option.toList_some, List.nil_append]; rfl)); (focus rfl); (focus (exact ⟨s0, hcw8⟩)))
            ((refine wpAnyH_take (i := 0) (v := ?_) rfl (by kernel_rfl) (by kernel_rfl) (by kernel_rfl) (fun _ _ _ h => h) (Or.inl ⟨by rfl, ?_⟩) (by assumption) ?_; rotate_left; (focus (intro W hSw; (try dsimp only at hSw); go_simp; try (with_reducible rfl)))); (try simp only [List.getElem_toArray, List.getElem_cons_zero, Act.put, List.setIfInBounds_toArray, List.set_cons_zero, List.set_cons_succ]); (refine wpAnyH_take (i := 1) (v := ?_) rfl (by kernel_rfl) (by kernel_rfl) (by kernel_rfl) (fun _ _ _ h => h) (Or.inl ⟨by rfl, ?_⟩) (by assumption) ?_; rotate_left; (focus (intro W hSw; (try dsimp only at hSw); go_simp; try (with_reducible rfl)))); (try simp only [List.getElem_toArray, List.getElem_cons_zero, List.getElem_cons_succ, Act.put, List.setIfInBounds_toArray, List.set_cons_zero, List.set_cons_succ]); (refine wpAnyH_take (i := 2) (v := ?_) rfl (by kernel_rfl) (by kernel_rfl) (by kernel_rfl) (fun _ _ _ h => h) (Or.inl ⟨by rfl, ?_⟩) (by assumption) ?_; rotate_left; (focus (intro W hSw; (try dsimp only at hSw); go_simp; try (with_reducible rfl)))); (try simp only [List.getElem_toArray, List.getElem_cons_zero, List.getElem_cons_succ, Act.put, List.setIfInBounds_toArray, List.set_cons_zero, List.set_cons_succ]); (refine wpAnyH_take (i := 3) (v := ?_) rfl (by kernel_rfl) (by kernel_rfl) (by kernel_rfl) (fun _ _ _ h => h) (Or.inl ⟨by rfl, ?_⟩) (by assumption) ?_; rotate_left; (focus (intro W hSw; (try dsimp only at hSw); go_simp; try (with_reducible rfl)))); (try simp only [List.getElem_toArray, List.getElem_cons_zero, List.getElem_cons_succ, Act.put, List.setIfInBounds_toArray, List.set_cons_zero, List.set_cons_succ]); (refine wpAnyH_take (i := 4) (v := ?_) rfl (by kernel_rfl) (by kernel_rfl) (by kernel_rfl) (fun _ _ _ h => h) (Or.inl ⟨by rfl, ?_⟩) (by assumption) ?_; rotate_left; (focus (intro W hSw; (try dsimp only at hSw); go_simp; try (with_reducible rfl)))); (try simp only [List.getElem_toArray, List.getElem_cons_zero, List.getElem_cons_succ, Act.put, List.setIfInBounds_toArray, List.set_cons_zero, List.set_cons_succ]); (refine wpAnyH_take (i := 5) (v := ?_) rfl (by kernel_rfl) (by kernel_rfl) (by kernel_rfl) (fun _ _ _ h => h) (Or.inl ⟨by rfl, ?_⟩) (by assumption) ?_; rotate_left; (focus (intro W hSw; (try dsimp only at hSw); go_simp; try (with_reducible rfl)))); (try simp only [List.getElem_toArray, List.getElem_cons_zero, List.getElem_cons_succ, Act.put, List.setIfInBounds_toArray, List.set_cons_zero, List.set_cons_succ]))
            obtain ⟨v0, hv0⟩ : ∃ v0, v0 = World.drew w8 := ⟨_, rfl⟩
            have bc0 : Below w8.heap.size w8 v0 := by rw [hv0]; exact (Below.refl _ _).drew
            rw [← hv0] at hHeld ⊢
            clear hv0
            refine wpAnyH_ready (rs := [6, 10]) (by kernel_rfl) (by simp) ?_
            refine AllReadyH.cons rfl (fun K hK => ?_) (AllReadyH.cons rfl (fun K hK => ?_) AllReadyH.nil)
            · skip
              go_simp
              refine (impl_RowOfLetters (m : Int) g A7 c7 1 1 v0 (ig8.below bc0) (by omega) hgc).mono ?_
              rintro e v1 ⟨A10, c10, rfl, o10, b10⟩
              rw [HK1.out]
              rw [HK2.out] at o10 ⊢
              have bc1 : Below w8.heap.size w8 v1 := bc0.trans (b10.mono bc0.size)
              clear hHeld
              refine hK.out _ _ ⟨cells_below bc1 _ _ s0, cells_below bc1 _ _ hcw8⟩ (fun hHeld => ?_)
              clear hK K
              (try simp only [])
              ((refine wpAnyH_take (i := 7) (v := ?_) rfl (by kernel_rfl) (by kernel_rfl) (by kernel_rfl) (fun _ _ _ h => h) (Or.inl ⟨by rfl, ?_⟩) (by assumption) ?_; rotate_left; (focus (intro W hSw; (try dsimp only at hSw); go_simp; try (with_reducible rfl)))); (try simp only [List.getElem_toArray, List.getElem_cons_zero, List.getElem_cons_succ, Act.put, List.setIfInBounds_toArray, List.set_cons_zero, List.set_cons_succ]); (refine wpAnyH_take (i := 8) (v := ?_) rfl (by kernel_rfl) (by kernel_rfl) (by kernel_rfl) (fun _ _ _ h => h) (Or.inl ⟨by rfl, ?_⟩) (by assumption) ?_; rotate_left; (focus (intro W hSw; (try dsimp only at hSw); go_simp; try (with_reducible rfl)))); (try simp only [List.getElem_toArray, List.getElem_cons_zero, List.getElem_cons_succ, Act.put, List.setIfInBounds_toArray, List.set_cons_zero, List.set_cons_succ]); (refine wpAnyH_take (i := 9) (v := ?_) rfl (by kernel_rfl) (by kernel_rfl) (by kernel_rfl) (fun _ _ _ h => h) (Or.inl ⟨by rfl, ?_⟩) (by assumption) ?_; rotate_left; (focus (intro W hSw; (try dsimp only at hSw); go_simp; try (with_reducible rfl)))); (try simp only [List.getElem_toArray, List.getElem_cons_zero, List.getElem_cons_succ, Act.put, List.setIfInBounds_toArray, List.set_cons_zero, List.set_cons_succ]))
              (refine wpAnyH_ready (rs := [10]) (by kernel_rfl) (by simp) ?_; refine AllReadyH.cons rfl (fun K hK => ?_) AllReadyH.nil)
              go_simp
              obtain ⟨v2, hv⟩ : ∃ v, v = World.alloc v1 (.cells #[.int .i64 0, .int .i64 0, .slice none 0 0] 50) := ⟨_, rfl⟩
              have bc2 : Below w8.heap.size w8 v2 := by rw [hv]; exact Below.alloc bc1 bc1.size _
              have kz : Blk v2 v1.heap.size 50 #[.int .i64 0, .int .i64 0, .slice none 0 0] := by rw [hv]; exact Blk.new _ _ _
              have hgz := bc1.size
              replace o10 := OwnC.below o10 (show Below v1.heap.size v1 v2 by rw [hv]; exact (Below.refl _ _).alloc (Nat.le_refl _) _) (Nat.le_refl _)
              rw [← hv]
              clear hv hHeld
              refine hK.out _ _ ⟨cells_below bc2 _ _ s0, cells_below bc2 _ _ hcw8⟩ (fun hHeld => ?_)
              clear hK K
              (try simp only [List.getElem_toArray, List.getElem_cons_zero, List.getElem_cons_succ, Act.put, List.setIfInBounds_toArray, List.set_cons_zero, List.set_cons_succ])
              refine wpAnyH_last2 (i := 11) (by kernel_rfl) rfl rfl (by kernel_rfl) ?_
              have g0 := kz.frozen 0
              have g1 := kz.frozen 1
              have g2 := kz.frozen 2
              obtain ⟨r0, r1, r2⟩ := kz.c3
              have hrl := HRL.out
              go_wp2_with (fail)
              have hbE := ((bc2.setCell (p := ⟨v1.heap.size, 0, none⟩) (by show w8.heap.size ≤ v1.heap.size; omega) (.int .i64 1)).setCell (p := ⟨v1.heap.size, 1, none⟩) (by show w8.heap.size ≤ v1.heap.size; omega) (.int .i64 1)).setCell (p := ⟨v1.heap.size, 2, none⟩) (by show w8.heap.size ≤ v1.heap.size; omega) (.slice A10 (rowFrom m g 0).length c10)
              refine endQ2_mk ⟨cells_below hbE _ _ s0, cells_below hbE _ _ hcw8⟩ ?_
              change wpList _ _ _ _ _ _
              go_wp2_with (fail)
              go_meet
              exact ⟨v1.heap.size, A10, c10, _, rfl, rfl, Lib.hid rfl, ((kz.set30 _).set31 _).set32 _, (OwnC.ints (((o10.farT kz t5 0 _).farT (kz.set30 _) t5 1 _).farT ((kz.set30 _).set31 _) t5 2 _)), hbE⟩
            · skip
              go_simp
              obtain ⟨v1, hv⟩ : ∃ v, v = World.alloc v0 (.cells #[.int .i64 0, .int .i64 0, .slice none 0 0] 50) := ⟨_, rfl⟩
              have bc1 : Below w8.heap.size w8 v1 := by rw [hv]; exact Below.alloc bc0 bc0.size _
              have kz : Blk v1 v0.heap.size 50 #[.int .i64 0, .int .i64 0, .slice none 0 0] := by rw [hv]; exact Blk.new _ _ _
              have hgz := bc0.size
              rw [← hv]
              clear hv hHeld
              refine hK.out _ _ ⟨cells_below bc1 _ _ s0, cells_below bc1 _ _ hcw8⟩ (fun hHeld => ?_)
              clear hK K
              (try simp only [List.getElem_toArray, List.getElem_cons_zero, List.getElem_cons_succ, Act.put, List.setIfInBounds_toArray, List.set_cons_zero, List.set_cons_succ])
              (refine wpAnyH_ready (rs := [6]) (by kernel_rfl) (by simp) ?_; refine AllReadyH.cons rfl (fun K hK => ?_) AllReadyH.nil)
              go_simp
              refine (impl_RowOfLetters (m : Int) g A7 c7 1 1 v1 (ig8.below bc1) (by omega) hgc).mono ?_
              rintro e v2 ⟨A10, c10, rfl, o10, b10⟩
              rw [HK1.out]
              rw [HK2.out] at o10 ⊢
              have bc2 : Below w8.heap.size w8 v2 := bc1.trans (b10.mono bc1.size)
              replace kz := kz.below b10 kz.lt
              clear hHeld
              refine hK.out _ _ ⟨cells_below bc2 _ _ s0, cells_below bc2 _ _ hcw8⟩ (fun hHeld => ?_)
              clear hK K
              (try simp only [])
              ((refine wpAnyH_take (i := 7) (v := ?_) rfl (by kernel_rfl) (by kernel_rfl) (by kernel_rfl) (fun _ _ _ h => h) (Or.inl ⟨by rfl, ?_⟩) (by assumption) ?_; rotate_left; (focus (intro W hSw; (try dsimp only at hSw); go_simp; try (with_reducible rfl)))); (try simp only [List.getElem_toArray, List.getElem_cons_zero, List.getElem_cons_succ, Act.put, List.setIfInBounds_toArray, List.set_cons_zero, List.set_cons_succ]); (refine wpAnyH_take (i := 8) (v := ?_) rfl (by kernel_rfl) (by kernel_rfl) (by kernel_rfl) (fun _ _ _ h => h) (Or.inl ⟨by rfl, ?_⟩) (by assumption) ?_; rotate_left; (focus (intro W hSw; (try dsimp only at hSw); go_simp; try (with_reducible rfl)))); (try simp only [List.getElem_toArray, List.getElem_cons_zero, List.getElem_cons_succ, Act.put, List.setIfInBounds_toArray, List.set_cons_zero, List.set_cons_succ]); (refine wpAnyH_take (i := 9) (v := ?_) rfl (by kernel_rfl) (by kernel_rfl) (by kernel_rfl) (fun _ _ _ h => h) (Or.inl ⟨by rfl, ?_⟩) (by assumption) ?_; rotate_left; (focus (intro W hSw; (try dsimp only at hSw); go_simp; try (with_reducible rfl)))); (try simp only [List.getElem_toArray, List.getElem_cons_zero, List.getElem_cons_succ, Act.put, List.setIfInBounds_toArray, List.set_cons_zero, List.set_cons_succ]))
              refine wpAnyH_last2 (i := 11) (by kernel_rfl) rfl rfl (by kernel_rfl) ?_
              have g0 := kz.frozen 0
              have g1 := kz.frozen 1
              have g2 := kz.frozen 2
              obtain ⟨r0, r1, r2⟩ := kz.c3
              have hrl := HRL.out
              go_wp2_with (fail)
              have hbE := ((bc2.setCell (p := ⟨v0.heap.size, 0, none⟩) (by show w8.heap.size ≤ v0.heap.size; omega) (.int .i64 1)).setCell (p := ⟨v0.heap.size, 1, none⟩) (by show w8.heap.size ≤ v0.heap.size; omega) (.int .i64 1)).setCell (p := ⟨v0.heap.size, 2, none⟩) (by show w8.heap.size ≤ v0.heap.size; omega) (.slice A10 (rowFrom m g 0).length c10)
              refine endQ2_mk ⟨cells_below hbE _ _ s0, cells_below hbE _ _ hcw8⟩ ?_
              change wpList _ _ _ _ _ _
              go_wp2_with (fail)
              go_meet
              exact ⟨v0.heap.size, A10, c10, _, rfl, rfl, Lib.hid rfl, ((kz.set30 _).set31 _).set32 _, (OwnC.ints (((o10.farT kz t5 0 _).farT (kz.set30 _) t5 1 _).farT ((kz.set30 _).set31 _) t5 2 _)), hbE⟩
          case rest =>
          obtain ⟨g13, A10, c10, L10, rfl, rfl, HL10, kr, ir, br⟩ := hcut
          have hrl : (rowFrom m g 0).length ≤ 100 := by have := rowFrom_length m g m 0 (by omega); omega
          have hl10 := HL10.out
          subst hl10
          have BC : Below w2.heap.size w2 wc := B8.trans (br.mono hzr')
          have o8c := OwnC.below o8' br (Nat.le_refl _)
          have hcwc : wc.cell? ⟨gA, i, none⟩ = some (.slice A7 g.length c7) := cells_below BC _ _ hcc
          have igc : Ints wc A7 g := (OwnC.ints og).below BC
          have HZC := Lib.hid br.size
          generalize rowFrom m g 0 = ks at *
          obtain ⟨z0, z1, z2⟩ := kr.c3
          clear HL10 br ig8 hcw8 s0 s1 kb8 o8'
          go_wp2_with (fail)
          refine (impl_RowLetters 1 1 ks A10 c10 wc ir (by omega)).mono ?_; rintro e w3 ⟨A11, c11, rfl, o11, b11⟩
          rw [HK3.out]
          have HK45 := Lib.hid HK5.out
          have BE : Below w2.heap.size w2 w3 := BC.trans (b11.mono BC.size)
          have o8e := OwnC.below o8c b11 HZC.out
          have hcwe : w3.cell? ⟨gA, i, none⟩ = some (.slice A7 g.length c7) := cells_below BE _ _ hcc
          have ige : Ints w3 A7 g := (OwnC.ints og).below BE
          have HZE := Lib.hid (Nat.le_trans HZC.out b11.size)
          have ils := OwnC.ints o11
          have hll := HK4.out
          clear o11 b11 kr ir z0 z1 z2 o8c hcwc igc BC HK4 HK5 HK3 HK1 HK2
          generalize rowLettersP 1 1 ks = ls at *
          rw [hll]
          have HLLs := Lib.hid hll; clear hll
          have hg40 : g.length ≤ 40 := by omega
          have hee : ((g.length : Int) != (g.length : Int)) = false := by simp
          go_wp2_with (fail)
          go_loopw [17] (fun kv wr => ∃ k : Nat, k ≤ g.length ∧ kv = .int .i64 (k : Int) ∧ ∃ q, wr = w3.drewN q) (fun kv _ => g.length - (intOf kv).toNat)
          case atStart => exact ⟨0, Nat.zero_le _, rfl, 0, rfl⟩
          case round =>
            obtain ⟨k, hk, rfl, q, rfl⟩ := hrel
            by_cases hkl : k < g.length
            · have dk : decide ((k : Int) < (g.length : Int)) = true := decide_eq_true (by omega)
              obtain ⟨b3, off3, x, rfl, hcx, hx⟩ := ils k (by rw [HLLs.out]; exact hkl)
              have HB : Hid (∀ W, Ints W A7 g → Calls Tryz.prog 22 #[.slice A7 g.length c7, .int .i64 x] W fun e w' => e = .returned (.bool true) ∧ ∃ n, w' = W.drewN n) := Lib.hid (fun W hW => (laws_b10Has A7 c7 g x W hW (by omega)).mono (by
                rintro e w' ⟨rfl, rfl⟩
                rw [decide_eq_true (HK45.out x (List.mem_of_getElem? hx))]
                exact ⟨rfl, 0, rfl⟩))
              have igq : Ints (w3.drewN q) A7 g := ige.drewN q
              clear hx
              have j3 : (0 : Int) ≤ (k : Int) := by omega
              have j4 : (k : Int) < (g.length : Int) := by omega
              go_wp2_with (fail)
              (refine wp_region_pops 0 (S := (fun W' => W'.cell? ⟨gA, i, none⟩ = some (.slice A7 g.length c7) ∧ W'.cell? ⟨b3, off3 + k, none⟩ = some (.int .i64 x))) (pre := ?_) (T := ?_) (n := ?_) (by kernel_rfl) (by kernel_rfl) ?_ ?_ ?_ ?_ (fun hHeld => ?_); rotate_left 3; (focus (simp only [pops]; rfl)); (focus (simp only [tailOf]; rfl)); (focus rfl); (focus (exact ⟨hcwe, hcx⟩)))
              ((refine wpAnyH_take (i := 0) (v := ?_) rfl (by kernel_rfl) (by kernel_rfl) (by kernel_rfl) (fun _ _ _ h => h) (Or.inl ⟨by rfl, ?_⟩) (by assumption) ?_; rotate_left; (focus (intro W hSw; (try dsimp only at hSw); go_simp; try (with_reducible rfl)))); (try simp only [List.getElem_toArray, List.getElem_cons_zero, Act.put, List.setIfInBounds_toArray, List.set_cons_zero, List.set_cons_succ]); (refine wpAnyH_take (i := 1) (v := ?_) rfl (by kernel_rfl) (by kernel_rfl) (by kernel_rfl) (fun _ _ _ h => h) (Or.inl ⟨by rfl, ?_⟩) (by assumption) ?_; rotate_left; (focus (intro W hSw; (try dsimp only at hSw); go_simp; try (with_reducible rfl)))); (try simp only [List.getElem_toArray, List.getElem_cons_zero, List.getElem_cons_succ, Act.put, List.setIfInBounds_toArray, List.set_cons_zero, List.set_cons_succ]); (refine wpAnyH_take (i := 2) (v := ?_) rfl (by kernel_rfl) (by kernel_rfl) (by kernel_rfl) (fun _ _ _ h => h) (Or.inl ⟨by rfl, ?_⟩) (by assumption) ?_; rotate_left; (focus (intro W hSw; (try dsimp only at hSw); go_simp; try (with_reducible rfl)))); (try simp only [List.getElem_toArray, List.getElem_cons_zero, List.getElem_cons_succ, Act.put, List.setIfInBounds_toArray, List.set_cons_zero, List.set_cons_succ]); (refine wpAnyH_take (i := 3) (v := ?_) rfl (by kernel_rfl) (by kernel_rfl) (by kernel_rfl) (fun _ _ _ h => h) (Or.inl ⟨by rfl, ?_⟩) (by assumption) ?_; rotate_left; (focus (intro W hSw; (try dsimp only at hSw); go_simp; try (with_reducible rfl)))); (try simp only [List.getElem_toArray, List.getElem_cons_zero, List.getElem_cons_succ, Act.put, List.setIfInBounds_toArray, List.set_cons_zero, List.set_cons_succ]); (refine wpAnyH_take (i := 4) (v := ?_) rfl (by kernel_rfl) (by kernel_rfl) (by kernel_rfl) (fun _ _ _ h => h) (Or.inl ⟨by rfl, ?_⟩) (by assumption) ?_; rotate_left; (focus (intro W hSw; (try dsimp only at hSw); go_simp; try (with_reducible rfl)))); (try simp only [List.getElem_toArray, List.getElem_cons_zero, List.getElem_cons_succ, Act.put, List.setIfInBounds_toArray, List.set_cons_zero, List.set_cons_succ]); (refine wpAnyH_take (i := 5) (v := ?_) rfl (by kernel_rfl) (by kernel_rfl) (by kernel_rfl) (fun _ _ _ h => h) (Or.inl ⟨by rfl, ?_⟩) (by assumption) ?_; rotate_left; (focus (intro W hSw; (try dsimp only at hSw); go_simp; try (with_reducible rfl)))); (try simp only [List.getElem_toArray, List.getElem_cons_zero, List.getElem_cons_succ, Act.put, List.setIfInBounds_toArray, List.set_cons_zero, List.set_cons_succ]); (refine wpAnyH_take (i := 6) (v := ?_) rfl (by kernel_rfl) (by kernel_rfl) (by kernel_rfl) (fun _ _ _ h => h) (Or.inl ⟨by rfl, ?_⟩) (by assumption) ?_; rotate_left; (focus (intro W hSw; (try dsimp only at hSw); go_simp; try (with_reducible rfl)))); (try simp only [List.getElem_toArray, List.getElem_cons_zero, List.getElem_cons_succ, Act.put, List.setIfInBounds_toArray, List.set_cons_zero, List.set_cons_succ]); (refine wpAnyH_take (i := 7) (v := ?_) rfl (by kernel_rfl) (by kernel_rfl) (by kernel_rfl) (fun _ _ _ h => h) (Or.inl ⟨by rfl, ?_⟩) (by assumption) ?_; rotate_left; (focus (intro W hSw; (try dsimp only at hSw); go_simp; try (with_reducible rfl)))); (try simp only [List.getElem_toArray, List.getElem_cons_zero, List.getElem_cons_succ, Act.put, List.setIfInBounds_toArray, List.set_cons_zero, List.set_cons_succ]))
              (refine wpAnyH_ready (rs := [8]) (by kernel_rfl) (by simp) ?_; refine AllReadyH.cons rfl (fun K hK => ?_) AllReadyH.nil)
              go_simp
              refine (HB.out _ (Ints.drew1 igq)).mono ?_
              rintro e w5 ⟨rfl, q5, rfl⟩
              refine hK.out _ _ ⟨hcwe, hcx⟩ (fun hHeld => ?_)
              clear hK K
              (try simp only [List.getElem_toArray, List.getElem_cons_zero, List.getElem_cons_succ, Act.put, List.setIfInBounds_toArray, List.set_cons_zero, List.set_cons_succ])
              ((refine wpAnyH_take (i := 9) (v := ?_) rfl (by kernel_rfl) (by kernel_rfl) (by kernel_rfl) (fun _ _ _ h => h) (Or.inl ⟨by rfl, ?_⟩) (by assumption) ?_; rotate_left; (focus (intro W hSw; (try dsimp only at hSw); go_simp; try (with_reducible rfl)))); (try simp only [List.getElem_toArray, List.getElem_cons_zero, List.getElem_cons_succ, Act.put, List.setIfInBounds_toArray, List.set_cons_zero, List.set_cons_succ]))
              (refine wpAnyH_done (by kernel_rfl) ?_ _; change wpList _ _ _ _ _ _)
              clear hHeld
              go_wp2_with (fail)
              go_roundw
              case rel => exact ⟨k + 1, by omega, by go_num, q + 1 + q5, by simp [World.drewN, Nat.add_assoc]⟩
              case measure => first | (simp [intOf]; done) | (simp [intOf]; omega)
            · have dk : decide ((k : Int) < (g.length : Int)) = false := decide_eq_false (by omega)
              have HFIN : Hid ((gs.take (i + 1)).flatten.length = FL + g.length) := Lib.hid (by rw [HFS.out, List.length_append, HFLL.out])
              go_wp2_with (fail)
              refine ⟨⟨i + 1, A6, c6, by omega, by go_num, by rw [HFIN.out], ?_, below_drewN BE q⟩, by first | (simp [intOf]; done) | (simp [intOf]; omega)⟩
              rw [HFIN.out, HFS.out, List.map_append]
              exact (OwnC.drewN o8e q).mono (Nat.le_refl _) HZE.out
        · obtain rfl : i = gs.length := by omega
          have di : decide ((gs.length : Int) < (gs.length : Int)) = false := decide_eq_false (by omega)
          have hfe : (gs.take gs.length).flatten = xs := by rw [take_all (Nat.le_refl _)]; exact HFL.out
          rw [hfe] at o8 ⊢
          have kc3 := kc2.below hb kc2.lt
          have r3 := r2.below hb
          have i3 := i2.below hb
          have i8 : Ints wr A8 xs := OwnC.ints o8
          have B3 : Below w.heap.size w wr := B2.trans (hb.mono B2.size)
          obtain ⟨t0, t1'⟩ := kc3.c2
          clear hfe o8 hb
          go_wp2_with (fail)
          refine (impl_SameCable (m : Int) (m : Int) rs rs A3 A3 c3 c3 wr r3 hrl r3 hrl).mono ?_; rintro e w4 ⟨rfl, b4⟩
          rw [HSC.out, HSB.out]
          have kb4 := kb3.below b4 kb3.lt
          have i4 := i3.below b4
          have i84 := i8.below b4
          have B4 : Below w.heap.size w w4 := B3.trans (b4.mono B3.size)
          clear kb3 kc3 r3 i3 i8 B3 b4 t0 t1' s0 s1
          obtain ⟨s0, s1⟩ := kb4.c2
          go_wp2_with (fail)
          refine (laws_b10Nums A8 A1 c8 c1 xs xs w4 i84 i4 (by omega) (by omega)).mono ?_; rintro e w5 ⟨rfl, q, rfl⟩
          rw [decide_eq_true rfl]
          go_wp2_with (fail)
          go_ret
          exact ⟨rfl, below_drewN B4 q⟩
    · have hkb : (cobCode z xs car != 0) = true := by simpa using hk
      generalize cobCode z xs car = k at *
      generalize cobX z xs car = X at *
      clear hk
      go_wp2_with (fail)
      go_ret
      exact ⟨rfl, Below.alloc B3 B3.size _⟩

end Go.Proofs.YtnjgmhdmjaijgaaGreat
