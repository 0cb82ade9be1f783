/- Steps of the proof, joined from several texts: XS BA. -/
import Derived.Test.YtnjgmhdmjaijgaaGreatZ11
import Derived.Test.YtnjgmhdmjaijgaaGreatZ7
import Derived.Test.YtnjgmhdmjaijgaaGreatZ12
import Derived.Test.YtnjgmhdmjaijgaaGreatZ1

/- Cables: CableBraid. -/
namespace Go.Proofs.YtnjgmhdmjaijgaaGreat
open Go Go.RowKit

theorem rowsWord_snoc {rs : List RowD} {k : Nat} {q : RowD} (h : rs[k]? = some q) : rowsWord (rs.take (k + 1)) = rowsWord (rs.take k) ++ lettersFrom q.s 0 := by
  rw [take_snoc h, rowsWord, List.flatMap_append]
  simp [rowsWord]
theorem cbCode_1 {n : Int} {rs : List RowD} (h : chartB n rs = false) : cbCode n rs = 1 := by simp [cbCode, h]
theorem cbCode_2 {n : Int} {rs : List RowD} (h : chartB n rs = true) (hp : plainB rs = false) : cbCode n rs = 6 := by simp [cbCode, h, hp]
theorem cbCode_3 {n : Int} {rs : List RowD} (h : chartB n rs = true) (hp : plainB rs = true) : cbCode n rs = if (rowsWord rs).length ≤ 40 then 0 else 5 := by simp [cbCode, h, hp]

set_option maxHeartbeats 4000000 in
set_option maxRecDepth 10000 in
theorem spec_CableBraid (n : Int) (rs : List RowD) (A : Option Addr) (c : Nat) (w : World) (h : RowsR w A rs) (hl : rs.length ≤ 9223372036854775807) :
    Calls Tryz.prog 33 #[.agg #[.int .i64 n, .slice A rs.length c]] w fun e w' => ∃ A' c', e = .returned (.tuple #[.agg #[.int .i64 (cbX n rs).n, .slice A' (cbX n rs).xs.length c'], .int .i64 (cbCode n rs)]) ∧ OwnI w' w.heap.size w'.heap.size A' c' (cbX n rs).xs ∧ Below w.heap.size w w' := by
  have t1 : (38 : TypeId) ≠ 2 := by decide
  have t2 : (30 : TypeId) ≠ 2 := by decide
  obtain ⟨i0, hi0, hu0, hu1, hu2⟩ := info_parts info_int64
  obtain ⟨w1, hw1⟩ : ∃ w1, w1 = (w.alloc (.cells #[.int .i64 n, .slice A rs.length c] 30)).alloc (.cells #[.int .i64 0, .slice none 0 0] 38) := ⟨_, rfl⟩
  have hb1 : Below w.heap.size w w1 := by rw [hw1]; (repeat (first | exact Below.refl _ _ | assumption | apply Below.drew | apply below_drewN | (refine Below.alloc ?_ (by first | omega | (simp; done) | (simp; omega)) _) | (refine Below.setCell ?_ (by first | omega | (simp; done) | (simp; omega)) _)))
  have ka : Blk w1 w.heap.size 30 #[.int .i64 n, .slice A rs.length c] := by rw [hw1]; exact (Blk.new w _ _).alloc _
  have kz : Blk w1 (w.heap.size + 1) 38 #[.int .i64 0, .slice none 0 0] := by rw [hw1]; simpa using Blk.new (w.alloc (.cells #[.int .i64 n, .slice A rs.length c] 30)) 38 #[.int .i64 0, .slice none 0 0]
  have hz1 : w.heap.size + 2 ≤ w1.heap.size := kz.lt
  cases hv : chartB n rs
  · have HF := Lib.hid (cb_err (cbCode_1 (n := n) hv) (by decide))
    go_enter Tryz.func33, Tryz.ntmps33
    go_wp2_with (fail)
    rw [← hw1]
    refine (spec_l15Ok _ _ n rs A c _ (h.below hb1) hl ka.c2.1 ka.c2.2).mono ?_; rintro e w2 ⟨rfl, b2⟩
    have hb2 : Below w.heap.size w w2 := hb1.trans (b2.mono (by omega))
    have kz2 := kz.below b2 (by omega)
    obtain ⟨r0, r1⟩ := kz2.c2
    have g0 := kz2.frozen 0
    have g1 := kz2.frozen 1
    rw [hv]
    clear hw1
    go_wp2_with (fail)
    refine bodyPost_ret (v := .tuple #[.agg #[.int .i64 (cbX n rs).n, .slice none (cbX n rs).xs.length 0], .int .i64 (cbCode n rs)]) (by rw [HF.out.1, HF.out.2]; simp [results, Tryz.results33, go_sem, r0, r1]) rfl ⟨none, 0, rfl, ?_, ?_⟩
    · rw [HF.out.1]; exact OwnC.nil _ _ _ _ _
    · (repeat (first | exact Below.refl _ _ | assumption | apply Below.drew | apply below_drewN | (refine Below.alloc ?_ (by first | omega | (simp; done) | (simp; omega)) _) | (refine Below.setCell ?_ (by first | omega | (simp; done) | (simp; omega)) _)))
  · have HV : Hid (∀ r ∈ rs, stitchesB r.s = true) := Lib.hid (fun r hr => (rowB_of ((chartB_of hv).2.2 r hr)).2.2.1)
    have HV2 := Lib.hid hv
    obtain ⟨h8, hs8⟩ := lens_of_chart hv
    have HS8 := Lib.hid hs8; clear hs8
    go_enter Tryz.func33, Tryz.ntmps33
    go_wp2_with (fail)
    rw [← hw1]
    refine (spec_l15Ok _ _ n rs A c _ (h.below hb1) hl ka.c2.1 ka.c2.2).mono ?_; rintro e w2 ⟨rfl, b2⟩
    have hb2 : Below w.heap.size w w2 := hb1.trans (b2.mono (by omega))
    have ka2 := ka.below b2 (by omega)
    have kz2 := kz.below b2 (by omega)
    have hz2 := b2.size
    rw [hv]
    clear hw1 hv
    go_wp2_with (fail)
    refine (spec_l18Cable _ _ n rs A c _ (h.below hb2) hl HV.out ka2.c2.2).mono ?_; rintro e w3 ⟨rfl, b3⟩
    have hb3 : Below w.heap.size w w3 := hb2.trans (b3.mono (by omega))
    have ka3 := ka2.below b3 (by omega)
    have kz3 := kz2.below b3 (by omega)
    have hz3 := b3.size
    clear ka kz ka2 kz2
    cases hp : plainB rs
    · have HF := Lib.hid (cb_err (cbCode_2 HV2.out hp) (by decide))
      obtain ⟨r0, r1⟩ := kz3.c2
      have g0 := kz3.frozen 0
      have g1 := kz3.frozen 1
      clear hp
      go_wp2_with (fail)
      refine bodyPost_ret (v := .tuple #[.agg #[.int .i64 (cbX n rs).n, .slice none (cbX n rs).xs.length 0], .int .i64 (cbCode n rs)]) (by rw [HF.out.1, HF.out.2]; simp [results, Tryz.results33, go_sem, r0, r1]) rfl ⟨none, 0, rfl, ?_, ?_⟩
      · rw [HF.out.1]; exact OwnC.nil _ _ _ _ _
      · (repeat (first | exact Below.refl _ _ | assumption | apply Below.drew | apply below_drewN | (refine Below.alloc ?_ (by first | omega | (simp; done) | (simp; omega)) _) | (refine Below.setCell ?_ (by first | omega | (simp; done) | (simp; omega)) _)))
    · have HC := Lib.hid (cbCode_3 HV2.out hp)
      clear hp
      obtain ⟨p0, p1⟩ := ka3.c2
      obtain ⟨p2, p3⟩ := (ka3.alloc (.cells #[] 2)).c2
      go_wp2_with (fail)
      clear p0 p1 p2 p3
      obtain ⟨w4, hw4⟩ : ∃ w4, w4 = (w3.alloc (.cells #[] 2)).alloc (.cells #[.int .i64 n, .slice (some ⟨w3.heap.size, 0, none⟩) 0 0] 38) := ⟨_, rfl⟩
      obtain ⟨gB, hgB⟩ : ∃ gB, gB = w3.heap.size + 1 := ⟨_, rfl⟩
      have hb4 : Below w.heap.size w w4 := by rw [hw4]; (repeat (first | exact Below.refl _ _ | assumption | apply Below.drew | apply below_drewN | (refine Below.alloc ?_ (by first | omega | (simp; done) | (simp; omega)) _) | (refine Below.setCell ?_ (by first | omega | (simp; done) | (simp; omega)) _)))
      have ka4 : Blk w4 w.heap.size 30 #[.int .i64 n, .slice A rs.length c] := by rw [hw4]; exact (ka3.alloc _).alloc _
      have kz4 : Blk w4 (w.heap.size + 1) 38 #[.int .i64 0, .slice none 0 0] := by rw [hw4]; exact (kz3.alloc _).alloc _
      have kx4 : Blk w4 gB 38 #[.int .i64 n, .slice (some ⟨w3.heap.size, 0, none⟩) 0 0] := by rw [hw4, hgB]; simpa using Blk.new (w3.alloc (.cells #[] 2)) 38 #[.int .i64 n, .slice (some ⟨w3.heap.size, 0, none⟩) 0 0]
      have o4 : OwnI w4 w3.heap.size w4.heap.size (some ⟨w3.heap.size, 0, none⟩) 0 [] := by
        rw [hw4]
        exact ((OwnC.lit (w := w3) (lo := w3.heap.size) (n := 0) 2 1 #[] (Nat.le_refl _) (Nat.zero_le _) rfl).alloc _).mono (Nat.le_refl _) (by simp)
      have hgw : w3.heap.size < gB := by omega
      rw [← hgB, ← hw4]
      clear hw4 hgB
      have hz4 : gB < w4.heap.size := kx4.lt
      clear ka3 kz3 hb3 b3
      go_loopw [5] (fun iv wr => ∃ (k : Nat) (A' : Option Addr) (c' : Nat), k ≤ rs.length ∧ iv = .int .i64 k ∧ Blk wr w.heap.size 30 #[.int .i64 n, .slice A rs.length c] ∧ Blk wr (w.heap.size + 1) 38 #[.int .i64 0, .slice none 0 0] ∧ Blk wr gB 38 #[.int .i64 n, .slice A' (rowsWord (rs.take k)).length c'] ∧ OwnI wr w3.heap.size wr.heap.size A' c' (rowsWord (rs.take k)) ∧ Below w.heap.size w wr ∧ (rowsWord (rs.take k)).length ≤ 64 * k) (fun iv _ => rs.length - (intOf iv).toNat)
      case atStart => exact ⟨0, some ⟨w3.heap.size, 0, none⟩, 0, Nat.zero_le _, rfl, ka4, kz4, kx4, o4, hb4, by simp [rowsWord]⟩
      case round =>
        clear ka4 kz4 kx4 o4 hb4 hz4
        obtain ⟨k, A', c', hk, rfl, kar, kzr, kxr, oor, hbr, hln⟩ := hrel
        have hzr := hbr.size
        have hxl := kxr.lt
        by_cases hkl : k < rs.length
        · obtain ⟨b, off, A7, c7, q, rfl, hx, f0, f1, f2, hi, hil⟩ := (h.below hbr) k hkl
          have hqs := HV.out q (List.mem_of_getElem? hx)
          have hq16 := (stitchesB_of hqs).1
          have HX := Lib.hid (rowsWord_snoc hx); clear hx
          have hnl : (lettersFrom q.s 0).length ≤ 64 := by have := lettersFrom_length q.s 0; omega
          generalize rowsWord (rs.take k) = out at kxr oor hln HX ⊢
          have j1 : (0 : Int) ≤ (k : Int) := by omega
          have j2 : (k : Int) < (rs.length : Int) := by omega
          obtain ⟨x0, x1⟩ := kar.c2
          go_wp2_with (fail)
          (refine wp_region_pops 3 (S := (fun W' => W'.cell? ⟨gB, 1, none⟩ = some (.slice A' out.length c') ∧ W'.cell? ⟨w.heap.size, 1, none⟩ = some (.slice (some ⟨b, off, none⟩) rs.length c))) (pre := ?_) (T := ?_) (n := ?_) (by kernel_rfl) (by kernel_rfl) ?_ ?_ ?_ ?_ (fun hHeld => ?_); rotate_left 3; (focus (simp only [pops, List.pop_toArray, List.dropLast_cons_cons, List.dropLast_singleton]; rfl)); (focus (simp only [tailOf, List.pop_toArray, List.dropLast_cons_cons, List.dropLast_singleton, List.back?_toArray, List.getLast?_cons_cons, List.getLast?_singleton, Option.toList_some, List.nil_append, List.cons_append]; rfl)); (focus rfl); (focus (exact ⟨kxr.c2.2, kar.c2.2⟩)))
          ((refine wpAnyH_take (i := 0) (v := ?_) rfl (by kernel_rfl) (by kernel_rfl) (by kernel_rfl) (fun _ _ _ h => h) (Or.inl ⟨by rfl, ?_⟩) (by assumption) ?_; rotate_left; (focus (intro W hSw; (try dsimp only at hSw); go_simp; try (with_reducible rfl)))); (try simp only [List.getElem_toArray, List.getElem_cons_zero, Act.put, List.setIfInBounds_toArray, List.set_cons_zero, List.set_cons_succ]); (refine wpAnyH_take (i := 1) (v := ?_) rfl (by kernel_rfl) (by kernel_rfl) (by kernel_rfl) (fun _ _ _ h => h) (Or.inl ⟨by rfl, ?_⟩) (by assumption) ?_; rotate_left; (focus (intro W hSw; (try dsimp only at hSw); go_simp; try (with_reducible rfl)))); (try simp only [List.getElem_toArray, List.getElem_cons_zero, List.getElem_cons_succ, Act.put, List.setIfInBounds_toArray, List.set_cons_zero, List.set_cons_succ]); (refine wpAnyH_take (i := 2) (v := ?_) rfl (by kernel_rfl) (by kernel_rfl) (by kernel_rfl) (fun _ _ _ h => h) (Or.inl ⟨by rfl, ?_⟩) (by assumption) ?_; rotate_left; (focus (intro W hSw; (try dsimp only at hSw); go_simp; try (with_reducible rfl)))); (try simp only [List.getElem_toArray, List.getElem_cons_zero, List.getElem_cons_succ, Act.put, List.setIfInBounds_toArray, List.set_cons_zero, List.set_cons_succ]); (refine wpAnyH_take (i := 3) (v := ?_) rfl (by kernel_rfl) (by kernel_rfl) (by kernel_rfl) (fun _ _ _ h => h) (Or.inl ⟨by rfl, ?_⟩) (by assumption) ?_; rotate_left; (focus (intro W hSw; (try dsimp only at hSw); go_simp; try (with_reducible rfl)))); (try simp only [List.getElem_toArray, List.getElem_cons_zero, List.getElem_cons_succ, Act.put, List.setIfInBounds_toArray, List.set_cons_zero, List.set_cons_succ]); (refine wpAnyH_take (i := 4) (v := ?_) rfl (by kernel_rfl) (by kernel_rfl) (by kernel_rfl) (fun _ _ _ h => h) (Or.inl ⟨by rfl, ?_⟩) (by assumption) ?_; rotate_left; (focus (intro W hSw; (try dsimp only at hSw); go_simp; try (with_reducible rfl)))); (try simp only [List.getElem_toArray, List.getElem_cons_zero, List.getElem_cons_succ, Act.put, List.setIfInBounds_toArray, List.set_cons_zero, List.set_cons_succ]); (refine wpAnyH_take (i := 5) (v := ?_) rfl (by kernel_rfl) (by kernel_rfl) (by kernel_rfl) (fun _ _ _ h => h) (Or.inl ⟨by rfl, ?_⟩) (by assumption) ?_; rotate_left; (focus (intro W hSw; (try dsimp only at hSw); go_simp; try (with_reducible rfl)))); (try simp only [List.getElem_toArray, List.getElem_cons_zero, List.getElem_cons_succ, Act.put, List.setIfInBounds_toArray, List.set_cons_zero, List.set_cons_succ]))
          (refine wpAnyH_ready (rs := [6]) (by kernel_rfl) (by simp) ?_; refine AllReadyH.cons rfl (fun K hK => ?_) AllReadyH.nil)
          go_simp
          refine (spec_l18Letters b (off + k * 3) A7 c7 q.s _ (Ints.drew1 hi) hqs f2).mono ?_; rintro e w7 ⟨A8, c8, rfl, o7', b7'⟩
          have b7 := undrew b7'
          have o7 : OwnI w7 wr.heap.size w7.heap.size A8 c8 (lettersFrom q.s 0) := o7'
          have hz7 := b7.size
          refine hK.out _ _ ⟨(kxr.below b7 (by omega)).c2.2, (kar.below b7 (by omega)).c2.2⟩ (fun hHeld => ?_)
          clear hK K b7' o7'
          (try simp only [List.getElem_toArray, List.getElem_cons_zero, List.getElem_cons_succ, Act.put, List.setIfInBounds_toArray, List.set_cons_zero, List.set_cons_succ])
          (refine wpAnyH_done (by kernel_rfl) ?_ _; change wpList _ _ _ _ _ _)
          clear hHeld
          have b17 : Below wr.heap.size wr w7 := b7
          have ka7 := kar.below b17 (by omega)
          have kz7 := kzr.below b17 (by omega)
          have kx7 := kxr.below b17 (by omega)
          have oo7 := oor.below b17 (Nat.le_refl _)
          have hb7 : Below w.heap.size w w7 := hbr.trans (b17.mono (by omega))
          generalize lettersFrom q.s 0 = ms at o7 hnl HX ⊢
          have HKX : Hid (∀ w8, w7.grownBy w8 (Value.slice A' out.length c').ownBlock → Blk w8 gB 38 #[.int .i64 n, .slice A' out.length c']) := Lib.hid (fun w8 hg => kx7.grownT oo7 t1 hg)
          go_wp2_with (at_builtin; refine wpList_appendC w7 rfl (.tmp 24) (.tmp 29) _ rfl 2 i0 _ 1 8 Tryz.underlying36 hi0 hu0 hu1 hu2 rfl (by decide) rfl oo7 (by omega) A8 ms.length c8 (ms.map (Value.int .i64)) rfl (by simp) o7.news (ints_one _) (by unfold maxLen; omega) (by omega) ?_; intro A9 c9 w8 ho8 hg8 hb8; have kx8 := HKX.out w8 hg8; obtain ⟨x0', x1'⟩ := kx8.c2; have x2' := kx8.frozen 1)
          have kx8 := HKX.out w8 hg8
          have ka8 := ka7.grownT oo7 t2 hg8
          have kz8 := kz7.grownT oo7 t1 hg8
          have hz8 := hg8.size
          have hb8' : Below w.heap.size w w8 := hb7.trans (hb8.mono (by omega))
          refine ⟨⟨k + 1, A9, c9, by omega, by go_num, ka8.far (by show w.heap.size ≠ gB; omega) _, kz8.far (by show w.heap.size + 1 ≠ gB; omega) _, ?_, ?_, by (repeat (first | exact Below.refl _ _ | assumption | apply Below.drew | apply below_drewN | (refine Below.alloc ?_ (by first | omega | (simp; done) | (simp; omega)) _) | (refine Below.setCell ?_ (by first | omega | (simp; done) | (simp; omega)) _))), ?_⟩, by first | (simp [intOf]; done) | (simp [intOf]; omega)⟩
          · rw [HX.out, List.length_append]; exact kx8.set21 _
          · rw [HX.out]
            show OwnC _ _ _ _ _ _ _ _ _
            rw [List.map_append, List.length_append]
            exact (ho8.farT kx8 t1 1 _).mono (Nat.le_refl _) (by simp)
          · rw [HX.out, List.length_append]; omega
        · obtain rfl : k = rs.length := by omega
          rw [take_all (Nat.le_refl _)] at kxr oor
          clear hln
          generalize hqs : rowsWord rs = qs at kxr oor HC
          have HQ := Lib.hid hqs; clear hqs
          obtain ⟨x0, x1⟩ := kxr.c2
          obtain ⟨y0, y1⟩ := kar.c2
          obtain ⟨r0, r1⟩ := kzr.c2
          have g0 := kzr.frozen 0
          have g1 := kzr.frozen 1
          by_cases h40 : qs.length ≤ 40
          · have h40' : decide ((40 : Int) < (qs.length : Int)) = false := decide_eq_false (by omega)
            have HF : Hid (cbX n rs = ⟨n, qs⟩ ∧ cbCode n rs = 0) := Lib.hid (by
              have e : cbCode n rs = 0 := by rw [HC.out, if_pos h40]
              exact ⟨by rw [cbX, if_pos e, HQ.out], e⟩)
            clear h40
            go_wp2_with (fail)
            refine bodyPost_ret (v := .tuple #[.agg #[.int .i64 (cbX n rs).n, .slice A' (cbX n rs).xs.length c'], .int .i64 (cbCode n rs)]) (by rw [HF.out.1, HF.out.2]; simp [results, Tryz.results33, go_sem, r0, r1]) rfl ⟨A', c', rfl, ?_, ?_⟩
            · rw [HF.out.1]
              have k1 := kzr.set20 (.int .i64 n)
              exact OwnC.mono ((oor.farT kzr t1 0 _).farT k1 t1 1 _) (by omega) (by simp)
            · (repeat (first | exact Below.refl _ _ | assumption | apply Below.drew | apply below_drewN | (refine Below.alloc ?_ (by first | omega | (simp; done) | (simp; omega)) _) | (refine Below.setCell ?_ (by first | omega | (simp; done) | (simp; omega)) _)))
          · have h40' : decide ((40 : Int) < (qs.length : Int)) = true := decide_eq_true (by omega)
            have HF := Lib.hid (cb_err (k := 5) (by rw [HC.out, if_neg h40]) (by decide))
            clear h40
            go_wp2_with (fail)
            refine bodyPost_ret (v := .tuple #[.agg #[.int .i64 (cbX n rs).n, .slice none (cbX n rs).xs.length 0], .int .i64 (cbCode n rs)]) (by rw [HF.out.1, HF.out.2]; simp [results, Tryz.results33, go_sem, r0, r1]) rfl ⟨none, 0, rfl, ?_, ?_⟩
            · rw [HF.out.1]; exact OwnC.nil _ _ _ _ _
            · (repeat (first | exact Below.refl _ _ | assumption | apply Below.drew | apply below_drewN | (refine Below.alloc ?_ (by first | omega | (simp; done) | (simp; omega)) _) | (refine Below.setCell ?_ (by first | omega | (simp; done) | (simp; omega)) _)))


set_option maxHeartbeats 4000000 in
set_option maxRecDepth 10000 in
theorem impl_CableBraid (n : Int) (rs : List RowD) (A : Option Addr) (c : Nat) (w : World) (h : RowsR w A rs) (hl : rs.length ≤ 9223372036854775807) :
    Calls Tryz.prog 14 #[.agg #[.int .i64 n, .slice A rs.length c]] w fun e w' => ∃ A' c', e = .returned (.tuple #[.agg #[.int .i64 (cbX n rs).n, .slice A' (cbX n rs).xs.length c'], .int .i64 (cbCode n rs)]) ∧ OwnI w' w.heap.size w'.heap.size A' c' (cbX n rs).xs ∧ Below w.heap.size w w' := by
  have t1 : (38 : TypeId) ≠ 2 := by decide
  have t2 : (30 : TypeId) ≠ 2 := by decide
  obtain ⟨i0, hi0, hu0, hu1, hu2⟩ := info_parts info_int64
  obtain ⟨w1, hw1⟩ : ∃ w1, w1 = (w.alloc (.cells #[.int .i64 n, .slice A rs.length c] 30)).alloc (.cells #[.int .i64 0, .slice none 0 0] 38) := ⟨_, rfl⟩
  have hb1 : Below w.heap.size w w1 := by rw [hw1]; (repeat (first | exact Below.refl _ _ | assumption | apply Below.drew | apply below_drewN | (refine Below.alloc ?_ (by first | omega | (simp; done) | (simp; omega)) _) | (refine Below.setCell ?_ (by first | omega | (simp; done) | (simp; omega)) _)))
  have ka : Blk w1 w.heap.size 30 #[.int .i64 n, .slice A rs.length c] := by rw [hw1]; exact (Blk.new w _ _).alloc _
  have kz : Blk w1 (w.heap.size + 1) 38 #[.int .i64 0, .slice none 0 0] := by rw [hw1]; simpa using Blk.new (w.alloc (.cells #[.int .i64 n, .slice A rs.length c] 30)) 38 #[.int .i64 0, .slice none 0 0]
  have hz1 : w.heap.size + 2 ≤ w1.heap.size := kz.lt
  cases hv : chartB n rs
  · have HF := Lib.hid (cb_err (cbCode_1 (n := n) hv) (by decide))
    go_enter Tryz.func14, Tryz.ntmps14
    go_wp2_with (fail)
    rw [← hw1]
    refine (impl_ValidChart n rs A c _ (h.below hb1) hl).mono ?_; rintro e w2 ⟨rfl, b2⟩
    have hb2 : Below w.heap.size w w2 := hb1.trans (b2.mono (by omega))
    have kz2 := kz.below b2 (by omega)
    obtain ⟨r0, r1⟩ := kz2.c2
    have g0 := kz2.frozen 0
    have g1 := kz2.frozen 1
    rw [hv]
    clear hw1
    go_wp2_with (fail)
    refine bodyPost_ret (v := .tuple #[.agg #[.int .i64 (cbX n rs).n, .slice none (cbX n rs).xs.length 0], .int .i64 (cbCode n rs)]) (by rw [HF.out.1, HF.out.2]; simp [results, Tryz.results14, go_sem, r0, r1]) rfl ⟨none, 0, rfl, ?_, ?_⟩
    · rw [HF.out.1]; exact OwnC.nil _ _ _ _ _
    · (repeat (first | exact Below.refl _ _ | assumption | apply Below.drew | apply below_drewN | (refine Below.alloc ?_ (by first | omega | (simp; done) | (simp; omega)) _) | (refine Below.setCell ?_ (by first | omega | (simp; done) | (simp; omega)) _)))
  · have HV : Hid (∀ r ∈ rs, stitchesB r.s = true) := Lib.hid (fun r hr => (rowB_of ((chartB_of hv).2.2 r hr)).2.2.1)
    have HV2 := Lib.hid hv
    obtain ⟨h8, hs8⟩ := lens_of_chart hv
    have HS8 := Lib.hid hs8; clear hs8
    go_enter Tryz.func14, Tryz.ntmps14
    go_wp2_with (fail)
    rw [← hw1]
    refine (impl_ValidChart n rs A c _ (h.below hb1) hl).mono ?_; rintro e w2 ⟨rfl, b2⟩
    have hb2 : Below w.heap.size w w2 := hb1.trans (b2.mono (by omega))
    have ka2 := ka.below b2 (by omega)
    have kz2 := kz.below b2 (by omega)
    have hz2 := b2.size
    rw [hv]
    clear hw1 hv
    obtain ⟨q0, q1⟩ := ka2.c2
    go_wp2_with (fail)
    refine (impl_isCable n rs A c _ (h.below hb2) hl).mono ?_; rintro e w3 ⟨rfl, b3⟩
    have hb3 : Below w.heap.size w w3 := hb2.trans (b3.mono (by omega))
    have ka3 := ka2.below b3 (by omega)
    have kz3 := kz2.below b3 (by omega)
    have hz3 := b3.size
    clear ka kz ka2 kz2 q0 q1
    cases hp : plainB rs
    · have HF := Lib.hid (cb_err (cbCode_2 HV2.out hp) (by decide))
      obtain ⟨r0, r1⟩ := kz3.c2
      have g0 := kz3.frozen 0
      have g1 := kz3.frozen 1
      clear hp
      go_wp2_with (fail)
      refine bodyPost_ret (v := .tuple #[.agg #[.int .i64 (cbX n rs).n, .slice none (cbX n rs).xs.length 0], .int .i64 (cbCode n rs)]) (by rw [HF.out.1, HF.out.2]; simp [results, Tryz.results14, go_sem, r0, r1]) rfl ⟨none, 0, rfl, ?_, ?_⟩
      · rw [HF.out.1]; exact OwnC.nil _ _ _ _ _
      · (repeat (first | exact Below.refl _ _ | assumption | apply Below.drew | apply below_drewN | (refine Below.alloc ?_ (by first | omega | (simp; done) | (simp; omega)) _) | (refine Below.setCell ?_ (by first | omega | (simp; done) | (simp; omega)) _)))
    · have HC := Lib.hid (cbCode_3 HV2.out hp)
      clear hp
      obtain ⟨p0, p1⟩ := ka3.c2
      obtain ⟨p2, p3⟩ := (ka3.alloc (.cells #[.int .i64 n, .slice none 0 0] 38)).c2
      go_wp2_with (fail)
      clear p0 p1 p2 p3
      obtain ⟨w4, hw4⟩ : ∃ w4, w4 = w3.alloc (.cells #[.int .i64 n, .slice none 0 0] 38) := ⟨_, rfl⟩
      obtain ⟨gB, hgB⟩ : ∃ gB, gB = w3.heap.size := ⟨_, rfl⟩
      have hb4 : Below w.heap.size w w4 := by rw [hw4]; (repeat (first | exact Below.refl _ _ | assumption | apply Below.drew | apply below_drewN | (refine Below.alloc ?_ (by first | omega | (simp; done) | (simp; omega)) _) | (refine Below.setCell ?_ (by first | omega | (simp; done) | (simp; omega)) _)))
      have ka4 : Blk w4 w.heap.size 30 #[.int .i64 n, .slice A rs.length c] := by rw [hw4]; exact ka3.alloc _
      have kz4 : Blk w4 (w.heap.size + 1) 38 #[.int .i64 0, .slice none 0 0] := by rw [hw4]; exact kz3.alloc _
      have kx4 : Blk w4 gB 38 #[.int .i64 n, .slice none 0 0] := by rw [hw4, hgB]; exact Blk.new _ _ _
      have o4 : OwnI w4 w3.heap.size w4.heap.size none 0 [] := OwnC.nil _ _ _ _ _
      have hgw : w3.heap.size ≤ gB := by omega
      rw [← hgB, ← hw4]
      clear hw4 hgB
      have hz4 : gB < w4.heap.size := kx4.lt
      clear ka3 kz3 hb3 b3
      go_loopw [21] (fun iv wr => ∃ (k : Nat) (A' : Option Addr) (c' : Nat), k ≤ rs.length ∧ iv = .int .i64 k ∧ Blk wr w.heap.size 30 #[.int .i64 n, .slice A rs.length c] ∧ Blk wr (w.heap.size + 1) 38 #[.int .i64 0, .slice none 0 0] ∧ Blk wr gB 38 #[.int .i64 n, .slice A' (rowsWord (rs.take k)).length c'] ∧ OwnI wr w3.heap.size wr.heap.size A' c' (rowsWord (rs.take k)) ∧ Below w.heap.size w wr ∧ (rowsWord (rs.take k)).length ≤ 64 * k) (fun iv _ => rs.length - (intOf iv).toNat)
      case atStart => exact ⟨0, none, 0, Nat.zero_le _, rfl, ka4, kz4, kx4, o4, hb4, by simp [rowsWord]⟩
      case round =>
        clear ka4 kz4 kx4 o4 hb4 hz4
        obtain ⟨k, A', c', hk, rfl, kar, kzr, kxr, oor, hbr, hln⟩ := hrel
        have hzr := hbr.size
        have hxl := kxr.lt
        by_cases hkl : k < rs.length
        · obtain ⟨b, off, A7, c7, q, rfl, hx, f0, f1, f2, hi, hil⟩ := (h.below hbr) k hkl
          have hqs := HV.out q (List.mem_of_getElem? hx)
          have hq16 := (stitchesB_of hqs).1
          have HX := Lib.hid (rowsWord_snoc hx); clear hx
          have hnl : (lettersFrom q.s 0).length ≤ 64 := by have := lettersFrom_length q.s 0; omega
          generalize rowsWord (rs.take k) = out at kxr oor hln HX ⊢
          have j1 : (0 : Int) ≤ (k : Int) := by omega
          have j2 : (k : Int) < (rs.length : Int) := by omega
          obtain ⟨x0, x1⟩ := kar.c2
          have kr := Blk.new wr 50 #[.int .i64 q.d, .int .i64 q.r, .slice A7 q.s.length c7]
          have hbx : Below wr.heap.size wr (wr.alloc (.cells #[.int .i64 q.d, .int .i64 q.r, .slice A7 q.s.length c7] 50)) := by (repeat (first | exact Below.refl _ _ | assumption | apply Below.drew | apply below_drewN | (refine Below.alloc ?_ (by first | omega | (simp; done) | (simp; omega)) _) | (refine Below.setCell ?_ (by first | omega | (simp; done) | (simp; omega)) _)))
          have kxa := kxr.alloc (.cells #[.int .i64 q.d, .int .i64 q.r, .slice A7 q.s.length c7] 50)
          go_wp2_with (fail)
          (refine wp_region_pops 3 (S := (fun W' => W'.cell? ⟨gB, 1, none⟩ = some (.slice A' out.length c') ∧ (W'.cell? ⟨wr.heap.size, 0, none⟩ = some (.int .i64 q.d) ∧ W'.cell? ⟨wr.heap.size, 1, none⟩ = some (.int .i64 q.r) ∧ W'.cell? ⟨wr.heap.size, 2, none⟩ = some (.slice A7 q.s.length c7)))) (pre := ?_) (T := ?_) (n := ?_) (by kernel_rfl) (by kernel_rfl) ?_ ?_ ?_ ?_ (fun hHeld => ?_); rotate_left 3; (focus (simp only [pops, List.pop_toArray, List.dropLast_cons_cons, List.dropLast_singleton]; rfl)); (focus (simp only [tailOf, List.pop_toArray, List.dropLast_cons_cons, List.dropLast_singleton, List.back?_toArray, List.getLast?_cons_cons, List.getLast?_singleton, Option.toList_some, List.nil_append, List.cons_append]; rfl)); (focus rfl); (focus (exact ⟨kxa.c2.2, kr.c3⟩)))
          ((refine wpAnyH_take (i := 0) (v := ?_) rfl (by kernel_rfl) (by kernel_rfl) (by kernel_rfl) (fun _ _ _ h => h) (Or.inl ⟨by rfl, ?_⟩) (by assumption) ?_; rotate_left; (focus (intro W hSw; (try dsimp only at hSw); go_simp; try (with_reducible rfl)))); (try simp only [List.getElem_toArray, List.getElem_cons_zero, Act.put, List.setIfInBounds_toArray, List.set_cons_zero, List.set_cons_succ]); (refine wpAnyH_take (i := 1) (v := ?_) rfl (by kernel_rfl) (by kernel_rfl) (by kernel_rfl) (fun _ _ _ h => h) (Or.inl ⟨by rfl, ?_⟩) (by assumption) ?_; rotate_left; (focus (intro W hSw; (try dsimp only at hSw); go_simp; try (with_reducible rfl)))); (try simp only [List.getElem_toArray, List.getElem_cons_zero, List.getElem_cons_succ, Act.put, List.setIfInBounds_toArray, List.set_cons_zero, List.set_cons_succ]); (refine wpAnyH_take (i := 2) (v := ?_) rfl (by kernel_rfl) (by kernel_rfl) (by kernel_rfl) (fun _ _ _ h => h) (Or.inl ⟨by rfl, ?_⟩) (by assumption) ?_; rotate_left; (focus (intro W hSw; (try dsimp only at hSw); go_simp; try (with_reducible rfl)))); (try simp only [List.getElem_toArray, List.getElem_cons_zero, List.getElem_cons_succ, Act.put, List.setIfInBounds_toArray, List.set_cons_zero, List.set_cons_succ]))
          (refine wpAnyH_ready (rs := [3]) (by kernel_rfl) (by simp) ?_; refine AllReadyH.cons rfl (fun K hK => ?_) AllReadyH.nil)
          go_simp
          refine (impl_letters q.d q.r q.s A7 c7 _ (Ints.drew1 (hi.below hbx)) hqs).mono ?_; rintro e w7 ⟨A8, c8, rfl, o7', b7'⟩
          have b17 : Below wr.heap.size wr w7 := hbx.trans ((undrew b7').mono (by simp))
          have o7 : OwnI w7 wr.heap.size w7.heap.size A8 c8 (lettersFrom q.s 0) := o7'.mono (show wr.heap.size ≤ (wr.alloc _).heap.size by simp) (Nat.le_refl _)
          have hz7 := b17.size
          refine hK.out _ _ ⟨(kxa.below (undrew b7') (by simp; omega)).c2.2, (kr.below (undrew b7') (by simp)).c3⟩ (fun hHeld => ?_)
          clear hK K b7' o7'
          (try simp only [List.getElem_toArray, List.getElem_cons_zero, List.getElem_cons_succ, Act.put, List.setIfInBounds_toArray, List.set_cons_zero, List.set_cons_succ])
          (refine wpAnyH_done (by kernel_rfl) ?_ _; change wpList _ _ _ _ _ _)
          clear hHeld
          have ka7 := kar.below b17 (by omega)
          have kz7 := kzr.below b17 (by omega)
          have kx7 := kxr.below b17 (by omega)
          have oo7 := oor.below b17 (Nat.le_refl _)
          have hb7 : Below w.heap.size w w7 := hbr.trans (b17.mono (by omega))
          generalize lettersFrom q.s 0 = ms at o7 hnl HX ⊢
          have HKX : Hid (∀ w8, w7.grownBy w8 (Value.slice A' out.length c').ownBlock → Blk w8 gB 38 #[.int .i64 n, .slice A' out.length c']) := Lib.hid (fun w8 hg => kx7.grownT oo7 t1 hg)
          go_wp2_with (at_builtin; refine wpList_appendC w7 rfl (.tmp 26) (.tmp 28) _ rfl 2 i0 _ 1 8 Tryz.underlying36 hi0 hu0 hu1 hu2 rfl (by decide) rfl oo7 (by omega) A8 ms.length c8 (ms.map (Value.int .i64)) rfl (by simp) o7.news (ints_one _) (by unfold maxLen; omega) (by omega) ?_; intro A9 c9 w8 ho8 hg8 hb8; have kx8 := HKX.out w8 hg8; obtain ⟨x0', x1'⟩ := kx8.c2; have x2' := kx8.frozen 1)
          have kx8 := HKX.out w8 hg8
          have ka8 := ka7.grownT oo7 t2 hg8
          have kz8 := kz7.grownT oo7 t1 hg8
          have hz8 := hg8.size
          have hb8' : Below w.heap.size w w8 := hb7.trans (hb8.mono (by omega))
          refine ⟨⟨k + 1, A9, c9, by omega, by go_num, ka8.far (by show w.heap.size ≠ gB; omega) _, kz8.far (by show w.heap.size + 1 ≠ gB; omega) _, ?_, ?_, by (repeat (first | exact Below.refl _ _ | assumption | apply Below.drew | apply below_drewN | (refine Below.alloc ?_ (by first | omega | (simp; done) | (simp; omega)) _) | (refine Below.setCell ?_ (by first | omega | (simp; done) | (simp; omega)) _))), ?_⟩, by first | (simp [intOf]; done) | (simp [intOf]; omega)⟩
          · rw [HX.out, List.length_append]; exact kx8.set21 _
          · rw [HX.out]
            show OwnC _ _ _ _ _ _ _ _ _
            rw [List.map_append, List.length_append]
            exact (ho8.farT kx8 t1 1 _).mono (Nat.le_refl _) (by simp)
          · rw [HX.out, List.length_append]; omega
        · obtain rfl : k = rs.length := by omega
          rw [take_all (Nat.le_refl _)] at kxr oor
          clear hln
          generalize hqs : rowsWord rs = qs at kxr oor HC
          have HQ := Lib.hid hqs; clear hqs
          obtain ⟨x0, x1⟩ := kxr.c2
          obtain ⟨y0, y1⟩ := kar.c2
          obtain ⟨r0, r1⟩ := kzr.c2
          have g0 := kzr.frozen 0
          have g1 := kzr.frozen 1
          by_cases h40 : qs.length ≤ 40
          · have h40' : decide ((40 : Int) < (qs.length : Int)) = false := decide_eq_false (by omega)
            have HF : Hid (cbX n rs = ⟨n, qs⟩ ∧ cbCode n rs = 0) := Lib.hid (by
              have e : cbCode n rs = 0 := by rw [HC.out, if_pos h40]
              exact ⟨by rw [cbX, if_pos e, HQ.out], e⟩)
            clear h40
            go_wp2_with (fail)
            refine bodyPost_ret (v := .tuple #[.agg #[.int .i64 (cbX n rs).n, .slice A' (cbX n rs).xs.length c'], .int .i64 (cbCode n rs)]) (by rw [HF.out.1, HF.out.2]; simp [results, Tryz.results14, go_sem, r0, r1]) rfl ⟨A', c', rfl, ?_, ?_⟩
            · rw [HF.out.1]
              have k1 := kzr.set20 (.int .i64 n)
              exact OwnC.mono ((oor.farT kzr t1 0 _).farT k1 t1 1 _) (by omega) (by simp)
            · (repeat (first | exact Below.refl _ _ | assumption | apply Below.drew | apply below_drewN | (refine Below.alloc ?_ (by first | omega | (simp; done) | (simp; omega)) _) | (refine Below.setCell ?_ (by first | omega | (simp; done) | (simp; omega)) _)))
          · have h40' : decide ((40 : Int) < (qs.length : Int)) = true := decide_eq_true (by omega)
            have HF := Lib.hid (cb_err (k := 5) (by rw [HC.out, if_neg h40]) (by decide))
            clear h40
            go_wp2_with (fail)
            refine bodyPost_ret (v := .tuple #[.agg #[.int .i64 (cbX n rs).n, .slice none (cbX n rs).xs.length 0], .int .i64 (cbCode n rs)]) (by rw [HF.out.1, HF.out.2]; simp [results, Tryz.results14, go_sem, r0, r1]) rfl ⟨none, 0, rfl, ?_, ?_⟩
            · rw [HF.out.1]; exact OwnC.nil _ _ _ _ _
            · (repeat (first | exact Below.refl _ _ | assumption | apply Below.drew | apply below_drewN | (refine Below.alloc ?_ (by first | omega | (simp; done) | (simp; omega)) _) | (refine Below.setCell ?_ (by first | omega | (simp; done) | (simp; omega)) _)))


end Go.Proofs.YtnjgmhdmjaijgaaGreat

/- Positive braids, plain: words of letters up to the braid relations; two words that begin with different letters have a common remainder. -/
namespace Go.Proofs.YtnjgmhdmjaijgaaGreat.Br

/-- One use of a relation. -/
inductive St : List Nat → List Nat → Prop
  | far (a b : List Nat) {j k : Nat} (h : j + 2 ≤ k ∨ k + 2 ≤ j) : St (a ++ j :: k :: b) (a ++ k :: j :: b)
  | near (a b : List Nat) {j k : Nat} (h : j + 1 = k ∨ k + 1 = j) : St (a ++ j :: k :: j :: b) (a ++ k :: j :: k :: b)
inductive Ch : Nat → List Nat → List Nat → Prop
  | nil (a : List Nat) : Ch 0 a a
  | cons {n : Nat} {a b c : List Nat} (h : St a b) (t : Ch n b c) : Ch (n + 1) a c
/-- The same positive braid. -/
def Eqv (a b : List Nat) : Prop := ∃ n, Ch n a b
theorem St.symm {a b : List Nat} (h : St a b) : St b a := by
  cases h with
  | far a b h => exact .far a b h.symm
  | near a b h => exact .near a b h.symm
theorem St.len {a b : List Nat} (h : St a b) : a.length = b.length := by cases h <;> simp
theorem St.pre (x : List Nat) {a b : List Nat} (h : St a b) : St (x ++ a) (x ++ b) := by
  cases h with
  | far a b h => rw [← List.append_assoc, ← List.append_assoc]; exact .far (x ++ a) b h
  | near a b h => rw [← List.append_assoc, ← List.append_assoc]; exact .near (x ++ a) b h
theorem St.post (x : List Nat) {a b : List Nat} (h : St a b) : St (a ++ x) (b ++ x) := by
  cases h with
  | far a b h => simpa using St.far a (b ++ x) h
  | near a b h => simpa using St.near a (b ++ x) h
theorem St.rev {a b : List Nat} (h : St a b) : St a.reverse b.reverse := by
  cases h with
  | @far a b j k h => simpa using St.far b.reverse a.reverse (j := k) (k := j) h.symm
  | @near a b j k h => simpa using St.near b.reverse a.reverse (j := j) (k := k) h
theorem Ch.trans {n m : Nat} {a b c : List Nat} (h : Ch n a b) (t : Ch m b c) : Ch (n + m) a c := by
  induction h with
  | nil a => simpa using t
  | cons s _ ih => rw [Nat.add_right_comm]; exact .cons s (ih t)
theorem Ch.len {n : Nat} {a b : List Nat} (h : Ch n a b) : a.length = b.length := by
  induction h with
  | nil a => rfl
  | cons s _ ih => rw [s.len, ih]
theorem Eqv.refl (a : List Nat) : Eqv a a := ⟨0, .nil a⟩
theorem Eqv.of {a b : List Nat} (h : St a b) : Eqv a b := ⟨1, .cons h (.nil b)⟩
theorem Eqv.of_eq {a b : List Nat} (h : a = b) : Eqv a b := h ▸ .refl a
theorem Eqv.trans {a b c : List Nat} (h : Eqv a b) (t : Eqv b c) : Eqv a c := by
  obtain ⟨n, h⟩ := h
  obtain ⟨m, t⟩ := t
  exact ⟨_, h.trans t⟩
theorem Eqv.symm {a b : List Nat} (h : Eqv a b) : Eqv b a := by
  obtain ⟨n, h⟩ := h
  induction h with
  | nil a => exact .refl a
  | cons s _ ih => exact ih.trans (.of s.symm)
theorem Eqv.len {a b : List Nat} (h : Eqv a b) : a.length = b.length := by
  obtain ⟨n, h⟩ := h
  exact h.len
theorem Eqv.map (f : List Nat → List Nat) (hf : ∀ {a b}, St a b → St (f a) (f b)) {a b : List Nat} (h : Eqv a b) : Eqv (f a) (f b) := by
  obtain ⟨n, h⟩ := h
  induction h with
  | nil a => exact .refl _
  | cons s _ ih => exact (Eqv.of (hf s)).trans ih
theorem Eqv.pre (x : List Nat) {a b : List Nat} (h : Eqv a b) : Eqv (x ++ a) (x ++ b) := h.map (x ++ ·) fun s => s.pre x
theorem Eqv.post (x : List Nat) {a b : List Nat} (h : Eqv a b) : Eqv (a ++ x) (b ++ x) := h.map (· ++ x) fun s => s.post x
theorem Eqv.rev {a b : List Nat} (h : Eqv a b) : Eqv a.reverse b.reverse := h.map List.reverse fun s => s.rev
theorem Eqv.app {a b c d : List Nat} (h : Eqv a b) (t : Eqv c d) : Eqv (a ++ c) (b ++ d) := (h.post c).trans (t.pre b)
theorem Eqv.cons (j : Nat) {a b : List Nat} (h : Eqv a b) : Eqv (j :: a) (j :: b) := h.pre [j]
def adj (j k : Nat) : Prop := j + 1 = k ∨ k + 1 = j
def apart (j k : Nat) : Prop := j + 2 ≤ k ∨ k + 2 ≤ j
instance (j k : Nat) : Decidable (adj j k) := inferInstanceAs (Decidable (_ ∨ _))
theorem three (j k : Nat) : j = k ∨ adj j k ∨ apart j k := by unfold adj apart; omega
theorem adj.symm {j k : Nat} (h : adj j k) : adj k j := Or.symm h
theorem apart.symm {j k : Nat} (h : apart j k) : apart k j := Or.symm h
/-- Letters that do not touch change places. -/
theorem fr (x b : List Nat) {j k : Nat} (h : apart j k) : Eqv (x ++ j :: k :: b) (x ++ k :: j :: b) := .of (.far x b h)
theorem nr (x b : List Nat) {j k : Nat} (h : adj j k) : Eqv (x ++ j :: k :: j :: b) (x ++ k :: j :: k :: b) := .of (.near x b h)
/-- What k lacks behind j. -/
def comp (j k : Nat) : List Nat := if j = k then [] else if adj j k then [k, j] else [k]
theorem comp_self (j : Nat) : comp j j = [] := by rw [comp, if_pos rfl]
theorem comp_adj {j k : Nat} (h : adj j k) : comp j k = [k, j] := by
  rw [comp, if_neg (by unfold adj at h; omega), if_pos h]
theorem comp_apart {j k : Nat} (h : apart j k) : comp j k = [k] := by
  rw [comp, if_neg (by unfold apart at h; omega), if_neg (by unfold apart at h; unfold adj; omega)]
theorem comp_join (j k : Nat) : Eqv (j :: comp j k) (k :: comp k j) := by
  rcases three j k with rfl | h | h
  · exact .refl _
  · rw [comp_adj h, comp_adj h.symm]; exact nr [] [] h
  · rw [comp_apart h, comp_apart h.symm]; exact fr [] [] h
theorem St.head {j k : Nat} {A B : List Nat} (h : St (j :: A) (k :: B)) : ∃ C, Eqv A (comp j k ++ C) ∧ Eqv B (comp k j ++ C) := by
  generalize hx : j :: A = x at h
  generalize hy : k :: B = y at h
  cases h with
  | @far a b p q h =>
    cases a with
    | nil =>
      rw [List.nil_append] at hx hy
      injection hx with h1 h2
      injection hy with h3 h4
      subst h1 h2 h3 h4
      refine ⟨b, ?_, ?_⟩
      · rw [comp_apart h]; exact .refl _
      · rw [comp_apart (apart.symm h)]; exact .refl _
    | cons z a =>
      rw [List.cons_append] at hx hy
      injection hx with h1 h2
      injection hy with h3 h4
      subst h1 h2 h3 h4
      rw [comp_self]
      exact ⟨_, .refl _, fr _ _ (apart.symm h)⟩
  | @near a b p q h =>
    cases a with
    | nil =>
      rw [List.nil_append] at hx hy
      injection hx with h1 h2
      injection hy with h3 h4
      subst h1 h2 h3 h4
      refine ⟨b, ?_, ?_⟩
      · rw [comp_adj h]; exact .refl _
      · rw [comp_adj (adj.symm h)]; exact .refl _
    | cons z a =>
      rw [List.cons_append] at hx hy
      injection hx with h1 h2
      injection hy with h3 h4
      subst h1 h2 h3 h4
      rw [comp_self]
      exact ⟨_, .refl _, nr _ _ (adj.symm h)⟩
/-- Two words that begin with letters have a common remainder. -/
def Key (N : Nat) : Prop := ∀ (A B : List Nat) (j k : Nat), A.length < N → Eqv (j :: A) (k :: B) → ∃ C, Eqv A (comp j k ++ C) ∧ Eqv B (comp k j ++ C)
theorem Key.cancel1 {N : Nat} (H : Key N) {A B : List Nat} {j : Nat} (hl : A.length < N) (h : Eqv (j :: A) (j :: B)) : Eqv A B := by
  obtain ⟨C, h1, h2⟩ := H A B j j hl h
  rw [comp_self] at h1 h2
  exact h1.trans h2.symm
theorem Key.cancel {N : Nat} (H : Key N) {x A B : List Nat} (hl : (x ++ A).length ≤ N) (h : Eqv (x ++ A) (x ++ B)) : Eqv A B := by
  induction x with
  | nil => exact h
  | cons j x ih =>
    rw [List.cons_append, List.length_cons] at hl
    exact ih (by omega) (H.cancel1 (by omega) h)
theorem Key.adj {N : Nat} (H : Key N) {A B : List Nat} {j k : Nat} (hr : adj j k) (hl : A.length < N) (h : Eqv (j :: A) (k :: B)) : ∃ C, Eqv A (k :: j :: C) ∧ Eqv B (j :: k :: C) := by
  obtain ⟨C, h1, h2⟩ := H A B j k hl h
  rw [comp_adj hr] at h1
  rw [comp_adj hr.symm] at h2
  exact ⟨C, h1, h2⟩
theorem Key.apart {N : Nat} (H : Key N) {A B : List Nat} {j k : Nat} (hr : apart j k) (hl : A.length < N) (h : Eqv (j :: A) (k :: B)) : ∃ C, Eqv A (k :: C) ∧ Eqv B (j :: C) := by
  obtain ⟨C, h1, h2⟩ := H A B j k hl h
  rw [comp_apart hr] at h1
  rw [comp_apart hr.symm] at h2
  exact ⟨C, h1, h2⟩
/-- Three letters that are all apart, or of which only the outer two are near. -/
theorem cube_1 {N i j k : Nat} (H : Key N) (h1 : apart i j) (h2 : apart i k) (h3 : apart j k) {E F : List Nat} (hl : (j :: E).length = N) (h : Eqv (j :: E) (k :: F)) : ∃ C, Eqv (i :: E) (k :: C) ∧ Eqv (i :: F) (j :: C) := by
  obtain ⟨G, g1, g2⟩ := H.apart h3 (by simp at hl; omega) h
  exact ⟨i :: G, (g1.cons i).trans (fr [] G h2), (g2.cons i).trans (fr [] G h1)⟩
theorem cube_2 {N i j k : Nat} (H : Key N) (h1 : apart i j) (h2 : apart i k) (h3 : adj j k) {E F : List Nat} (hl : (j :: E).length = N) (h : Eqv (j :: E) (k :: F)) : ∃ C, Eqv (i :: E) (k :: j :: C) ∧ Eqv (i :: F) (j :: k :: C) := by
  obtain ⟨G, g1, g2⟩ := H.adj h3 (by simp at hl; omega) h
  exact ⟨i :: G, ((g1.cons i).trans (fr [] _ h2)).trans (fr [k] G h1), ((g2.cons i).trans (fr [] _ h1)).trans (fr [j] G h2)⟩
theorem cube_3 {N i j k : Nat} (H : Key N) (h1 : adj i j) (h2 : apart i k) (h3 : apart j k) {E F : List Nat} (hl : (j :: i :: E).length = N) (h : Eqv (j :: i :: E) (k :: F)) : ∃ C, Eqv (i :: j :: E) (k :: C) ∧ Eqv (i :: F) (j :: C) := by
  simp only [List.length_cons] at hl
  obtain ⟨G, g1, g2⟩ := H.apart h3 (by simp; omega) h
  obtain ⟨I, i1, i2⟩ := H.apart h2 (by omega) g1
  refine ⟨i :: j :: I, ?_, ?_⟩
  · exact (((i1.cons j).cons i).trans (fr [i] I h3)).trans (fr [] _ h2)
  · exact (((g2.trans (i2.cons j)).cons i)).trans (nr [] I h1)
theorem cube_4 {N i j k : Nat} (H : Key N) (h1 : adj i j) (h2 : adj i k) (h3 : apart j k) {E F : List Nat} (hl : (j :: i :: E).length = N) (h : Eqv (j :: i :: E) (k :: i :: F)) : ∃ C, Eqv (i :: j :: E) (k :: C) ∧ Eqv (i :: k :: F) (j :: C) := by
  simp only [List.length_cons] at hl
  have hlF : E.length = F.length := by have := h.len; simpa using this
  obtain ⟨G, g1, g2⟩ := H.apart h3 (by simp; omega) h
  have hlG := g1.len
  obtain ⟨P, p1, p2⟩ := H.adj h2 (by omega) g1
  obtain ⟨Q, q1, q2⟩ := H.adj h1 (by omega) g2
  have hlQ := q2.len
  simp only [List.length_cons] at hlG hlQ
  have e1 := H.cancel1 (by simp; have := p2.len; simp at this; omega) (p2.symm.trans q2)
  obtain ⟨I, i1, i2⟩ := H.apart h3.symm (by have := p2.len; simp at this; omega) e1
  refine ⟨i :: k :: j :: i :: I, ?_, ?_⟩
  · refine (((p1.trans ((i1.cons i).cons k)).cons j).cons i).trans ?_
    refine (fr [i] (i :: j :: I) h3).trans ?_
    refine (nr [i, k] I h1.symm).trans ?_
    refine (nr [] (j :: i :: I) h2).trans ?_
    exact .refl _
  · refine (((q1.trans ((i2.cons i).cons j)).cons k).cons i).trans ?_
    refine (fr [i] (i :: k :: I) h3.symm).trans ?_
    refine (nr [i, j] I h2.symm).trans ?_
    refine (nr [] (k :: i :: I) h1).trans ?_
    exact fr [j, i] (i :: I) h3
theorem cube_5 {N i j k : Nat} (H : Key N) (h1 : adj i j) (h2 : apart i k) (h3 : adj j k) {E F : List Nat} (hl : (j :: i :: E).length = N) (h : Eqv (j :: i :: E) (k :: F)) : ∃ C, Eqv (i :: j :: E) (k :: j :: C) ∧ Eqv (i :: F) (j :: k :: C) := by
  simp only [List.length_cons] at hl
  obtain ⟨G, g1, g2⟩ := H.adj h3 (by simp; omega) h
  have hlG := g1.len
  simp only [List.length_cons] at hlG
  obtain ⟨P, p1, p2⟩ := H.apart h2 (by omega) g1
  have hlP := p2.len
  simp only [List.length_cons] at hlP
  obtain ⟨I, i1, i2⟩ := H.adj h1.symm (by omega) p2
  refine ⟨i :: j :: k :: I, ?_, ?_⟩
  · refine (((p1.trans (i2.cons k)).cons j).cons i).trans ?_
    refine (nr [i] (i :: I) h3).trans ?_
    refine (fr [] (j :: k :: i :: I) h2).trans ?_
    refine (fr [k, i, j] I h2.symm).trans ?_
    exact nr [k] (k :: I) h1
  · refine ((g2.trans ((i1.cons k).cons j)).cons i).trans ?_
    refine (fr [i, j] (j :: I) h2.symm).trans ?_
    refine (nr [] (k :: j :: I) h1).trans ?_
    refine (nr [j, i] I h3).trans ?_
    exact fr [j] (j :: k :: I) h2
theorem cube {N i j k : Nat} (H : Key N) {E F : List Nat} (hl : (comp i j ++ E).length = N) (h : Eqv (comp i j ++ E) (comp i k ++ F)) : ∃ C, Eqv (comp j i ++ E) (comp j k ++ C) ∧ Eqv (comp k i ++ F) (comp k j ++ C) := by
  have hl2 : (comp i k ++ F).length = N := by rw [← h.len, hl]
  by_cases hij : i = j
  · subst hij
    rw [comp_self, List.nil_append] at h
    rw [comp_self, List.nil_append]
    exact ⟨F, h, .refl _⟩
  by_cases hik : i = k
  · subst hik
    rw [comp_self, List.nil_append] at h
    rw [comp_self, List.nil_append]
    exact ⟨E, .refl _, h.symm⟩
  by_cases hjk : j = k
  · subst hjk
    rw [comp_self]
    exact ⟨_, .refl _, (H.cancel (by omega) h.symm).pre _⟩
  have sw : ∀ {P Q : List Nat → Prop}, (∃ C, P C ∧ Q C) → ∃ C, Q C ∧ P C := fun ⟨C, p, q⟩ => ⟨C, q, p⟩
  rcases three i j with r1 | r1 | r1
  · exact absurd r1 hij
  · rw [comp_adj r1] at h hl
    rw [comp_adj r1.symm]
    rcases three i k with r2 | r2 | r2
    · exact absurd r2 hik
    · rw [comp_adj r2] at h hl2
      rw [comp_adj r2.symm]
      have r3 : apart j k := by unfold adj at r1 r2; unfold apart; omega
      rw [comp_apart r3, comp_apart r3.symm]
      exact cube_4 H r1 r2 r3 hl h
    · rw [comp_apart r2] at h hl2
      rw [comp_apart r2.symm]
      rcases three j k with r3 | r3 | r3
      · exact absurd r3 hjk
      · rw [comp_adj r3, comp_adj r3.symm]
        exact cube_5 H r1 r2 r3 hl h
      · rw [comp_apart r3, comp_apart r3.symm]
        exact cube_3 H r1 r2 r3 hl h
  · rw [comp_apart r1] at h hl
    rw [comp_apart r1.symm]
    rcases three i k with r2 | r2 | r2
    · exact absurd r2 hik
    · rw [comp_adj r2] at h hl2
      rw [comp_adj r2.symm]
      rcases three j k with r3 | r3 | r3
      · exact absurd r3 hjk
      · rw [comp_adj r3, comp_adj r3.symm]
        exact sw (cube_5 H r2 r1 r3.symm hl2 h.symm)
      · rw [comp_apart r3, comp_apart r3.symm]
        exact sw (cube_3 H r2 r1 r3.symm hl2 h.symm)
    · rw [comp_apart r2] at h hl2
      rw [comp_apart r2.symm]
      rcases three j k with r3 | r3 | r3
      · exact absurd r3 hjk
      · rw [comp_adj r3, comp_adj r3.symm]
        exact cube_2 H r1 r2 r3 hl h
      · rw [comp_apart r3, comp_apart r3.symm]
        exact cube_1 H r1 r2 r3 hl h
theorem key (N : Nat) : Key N := by
  induction N with
  | zero => intro A B j k h; omega
  | succ N H =>
    have main : ∀ (n : Nat) (x y A B : List Nat) (j k : Nat), A.length < N + 1 → Ch n x y → x = j :: A → y = k :: B → ∃ C, Eqv A (comp j k ++ C) ∧ Eqv B (comp k j ++ C) := by
      intro n
      induction n with
      | zero =>
        intro x y A B j k hA h hx hy
        cases h
        rw [hx] at hy
        injection hy with h1 h2
        subst h1 h2
        rw [comp_self]
        exact ⟨A, .refl _, .refl _⟩
      | succ n ih =>
        intro x y A B j k hA h hx hy
        cases h with
        | @cons _ _ m _ s t =>
          subst hx hy
          cases m with
          | nil => have := s.len; simp at this
          | cons i D =>
            have hD : A.length = D.length := by have := s.len; simpa using this
            obtain ⟨E, e1, e2⟩ := s.head
            obtain ⟨F, f1, f2⟩ := ih _ _ D B i k (by omega) t rfl rfl
            by_cases hN : D.length = N
            · obtain ⟨C, c1, c2⟩ := cube H (by rw [← e2.len, hN]) (e2.symm.trans f1)
              exact ⟨C, e1.trans c1, f2.trans c2⟩
            · exact H A B j k (by omega) ⟨_, .cons s t⟩
    intro A B j k hA ⟨n, h⟩
    exact main n _ _ A B j k hA h rfl rfl
theorem keyAll {A B : List Nat} {j k : Nat} (h : Eqv (j :: A) (k :: B)) : ∃ C, Eqv A (comp j k ++ C) ∧ Eqv B (comp k j ++ C) := key (A.length + 1) A B j k (by omega) h
theorem cancelL {x A B : List Nat} (h : Eqv (x ++ A) (x ++ B)) : Eqv A B := (key (x ++ A).length).cancel (Nat.le_refl _) h
theorem cancelR {x A B : List Nat} (h : Eqv (A ++ x) (B ++ x)) : Eqv A B := by
  have h1 := h.rev
  rw [List.reverse_append, List.reverse_append] at h1
  have h2 := (cancelL h1).rev
  rwa [List.reverse_reverse, List.reverse_reverse] at h2
/-- Divisors from the left. -/
def Dv (u w : List Nat) : Prop := ∃ x, Eqv (u ++ x) w
theorem Dv.refl (u : List Nat) : Dv u u := ⟨[], by rw [List.append_nil]; exact .refl _⟩
theorem Dv.app (u x : List Nat) : Dv u (u ++ x) := ⟨x, .refl _⟩
theorem Dv.trans {u v w : List Nat} (h : Dv u v) (t : Dv v w) : Dv u w := by
  obtain ⟨x, h⟩ := h
  obtain ⟨y, t⟩ := t
  exact ⟨x ++ y, by rw [← List.append_assoc]; exact (h.post y).trans t⟩
theorem Dv.eqv {u v w : List Nat} (h : Dv u v) (t : Eqv v w) : Dv u w := by
  obtain ⟨x, h⟩ := h
  exact ⟨x, h.trans t⟩
theorem Dv.pre {u v : List Nat} (x : List Nat) (h : Dv u v) : Dv (x ++ u) (x ++ v) := by
  obtain ⟨y, h⟩ := h
  exact ⟨y, by rw [List.append_assoc]; exact h.pre x⟩
theorem Dv.cancel {x u v : List Nat} (h : Dv (x ++ u) (x ++ v)) : Dv u v := by
  obtain ⟨y, h⟩ := h
  rw [List.append_assoc] at h
  exact ⟨y, cancelL h⟩
/-- Two words with a common multiple have a least one. -/
theorem lcm (N : Nat) : ∀ (u y m : List Nat), m.length ≤ N → Dv u m → Dv y m → ∃ v z, Eqv (u ++ v) (y ++ z) ∧ ∀ m', Dv u m' → Dv y m' → Dv (u ++ v) m' := by
  induction N with
  | zero =>
    intro u y m hm ⟨x, hx⟩ ⟨x', hx'⟩
    have h1 := hx.len
    have h2 := hx'.len
    simp only [List.length_append] at h1 h2
    obtain rfl : u = [] := List.eq_nil_of_length_eq_zero (by omega)
    obtain rfl : y = [] := List.eq_nil_of_length_eq_zero (by omega)
    exact ⟨[], [], .refl _, fun m' h _ => h⟩
  | succ N ih =>
    intro u y m hm hu hy
    cases u with
    | nil => exact ⟨y, [], by simpa using Eqv.refl y, fun m' _ h => h⟩
    | cons j u =>
      cases y with
      | nil => exact ⟨[], j :: u, by simpa using Eqv.refl (j :: u), fun m' h _ => by simpa using h⟩
      | cons k y =>
        obtain ⟨x, hx⟩ := hu
        obtain ⟨x', hx'⟩ := hy
        have hlm := hx.len
        rw [List.cons_append] at hx hx' hlm
        rw [List.length_cons] at hlm
        obtain ⟨C, c1, c2⟩ := keyAll (hx.trans hx'.symm)
        have hl1 := c1.len
        have hl2 := c2.len
        have hl3 : (u ++ x).length = (y ++ x').length := by have := (hx.trans hx'.symm).len; simpa using this
        obtain ⟨v1, z1, e1, min1⟩ := ih u (comp j k) (u ++ x) (by omega) (.app _ _) ⟨C, c1.symm⟩
        obtain ⟨v2, z2, e2, min2⟩ := ih y (comp k j) (y ++ x') (by omega) (.app _ _) ⟨C, c2.symm⟩
        have d1 : ∀ {a C : List Nat}, Eqv (u ++ a) (comp j k ++ C) → Dv z1 C := fun {a C} h => Dv.cancel (x := comp j k) (by
          obtain ⟨q, hq⟩ := min1 (u ++ a) (.app _ _) ⟨C, h.symm⟩
          exact ⟨q, ((e1.post q).symm.trans hq).trans h⟩)
        have d2 : ∀ {a C : List Nat}, Eqv (y ++ a) (comp k j ++ C) → Dv z2 C := fun {a C} h => Dv.cancel (x := comp k j) (by
          obtain ⟨q, hq⟩ := min2 (y ++ a) (.app _ _) ⟨C, h.symm⟩
          exact ⟨q, ((e2.post q).symm.trans hq).trans h⟩)
        obtain ⟨v3, v4, e3, min3⟩ := ih z1 z2 C (by simp only [List.length_append] at hl1 hlm; omega) (d1 c1) (d2 c2)
        have f1 : Eqv (j :: u ++ (v1 ++ v3)) (j :: comp j k ++ (z1 ++ v3)) := by
          have := (e1.post v3).cons j
          simpa [List.append_assoc] using this
        have f2 : Eqv (k :: y ++ (v2 ++ v4)) (k :: comp k j ++ (z2 ++ v4)) := by
          have := (e2.post v4).cons k
          simpa [List.append_assoc] using this
        have f3 : Eqv (j :: comp j k ++ (z1 ++ v3)) (k :: comp k j ++ (z2 ++ v4)) := (comp_join j k).app e3
        refine ⟨v1 ++ v3, v2 ++ v4, (f1.trans f3).trans f2.symm, ?_⟩
        intro m' ⟨a, ha⟩ ⟨b, hb⟩
        rw [List.cons_append] at ha hb
        obtain ⟨C', c1', c2'⟩ := keyAll (ha.trans hb.symm)
        obtain ⟨q, hq⟩ := min3 C' (d1 c1') (d2 c2')
        refine ⟨q, (f1.post q).trans (Eqv.trans ?_ ha)⟩
        have := ((hq.pre (comp j k)).trans c1'.symm).cons j
        simpa [List.append_assoc] using this

end Go.Proofs.YtnjgmhdmjaijgaaGreat.Br
