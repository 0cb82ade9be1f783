/- Steps of the proof, joined from several texts: CI. -/
import Derived.Test.YtnilglkiojigjaaZ20
import Derived.Test.YtnilglkiojigjaaZ13
import Derived.Deep.DeepCutAuto

/- Charts of colour charts: ChartOfColours, the given side. -/
namespace Go.Proofs.Ytnilglkiojigjaa
open Go Go.RowKit

set_option maxHeartbeats 8000000 in
set_option maxRecDepth 10000 in
theorem spec_l19Chart (g o : Nat) (n : Int) (xss : List (List Int)) (A : Option Addr) (c : Nat) (w : World) (h : Ints2 w A xss) (hv : coloursB n xss = true) (c0 : w.cell? ⟨g, o, none⟩ = some (.int .i64 n)) (c1 : w.cell? ⟨g, o + 1, none⟩ = some (.slice A xss.length c)) :
    Calls Try.prog 89 #[.pointer (some ⟨g, o, none⟩), .int .i64 0] w fun e w' => ∃ A' c', e = .returned (.tuple #[.agg #[.int .i64 (cofX n xss).n, .slice A' (cofX n xss).xs.length c'], .int .i64 (cofCode n xss)]) ∧ OwnRows w' w.heap.size w'.heap.size A' (cofX n xss).xs.length c' (cofX n xss).xs ∧ Below w.heap.size w w' := by
  have t1 : (25 : TypeId) ≠ 2 := by decide
  have t2 : (25 : TypeId) ≠ 66 := by decide
  obtain ⟨i0, hi0, hz0, hz1, hz2⟩ := info_parts info_int64
  obtain ⟨iR, hi1, hy0, hy1, hy2⟩ := info_parts info_Row
  obtain ⟨hn1, hn8, hx8, hrow⟩ := colours_small hv
  have HROW := Lib.hid hrow; clear hrow
  have HL32 := Lib.hid (cofRows_small hv)
  have HV := Lib.hid hv; clear hv
  obtain ⟨w1, hw1⟩ : ∃ w1, w1 = (w.alloc (.cells #[.int .i64 0, .slice none 0 0] 25)).alloc (.cells #[.int .i64 n, .slice none 0 0] 25) := ⟨_, rfl⟩
  have hb1 : Below w.heap.size w w1 := by rw [hw1]; (repeat (first | exact Below.refl _ _ | assumption | apply Below.drew | apply below_drewN | (refine Below.alloc ?_ (by first | omega | (simp; done) | (simp; omega)) _) | (refine Below.setCell ?_ (by first | omega | (simp; done) | (simp; omega)) _)))
  have kz1 : Blk w1 w.heap.size 25 #[.int .i64 0, .slice none 0 0] := by rw [hw1]; exact (Blk.new w _ _).alloc _
  have kx1 : Blk w1 (w.heap.size + 1) 25 #[.int .i64 n, .slice none 0 0] := by rw [hw1]; simpa using Blk.new (w.alloc (.cells #[.int .i64 0, .slice none 0 0] 25)) 25 #[.int .i64 n, .slice none 0 0]
  obtain ⟨hB, hhB⟩ : ∃ hB, hB = w.heap.size + 1 := ⟨_, rfl⟩
  rw [← hhB] at kx1
  have hzB : w.heap.size < hB := by omega
  have hzb1 := kx1.lt
  have q0 := cell_alloc c0 (.cells #[.int .i64 0, .slice none 0 0] 25)
  go_enter Try.func89, Try.ntmps89
  go_upto_region 2 with fail
  clear q0
  rw [← hw1, ← hhB]
  clear hw1 hhB
  go_wp2_with (refine wpList_make_full _ rfl _ _ _ rfl w1.heap.size 2 i0 _ 1 Try.underlying22 hi0 hz0 hz1 .i64 .i64 _ _ 4 rfl rfl rfl rfl (by rw [hz2]; omega) (by unfold maxLen; omega) (Nat.le_refl _) ?_; intro w3 hown hg)
  have hb3 : Below w1.heap.size w1 w3 := (Below.refl _ _).grown hg (Nat.le_refl _) (by simp)
  have o3 : OwnC w3 w1.heap.size w3.heap.size 2 1 (some ⟨w1.heap.size, 0, none⟩) 4 4 (([0, 0, 0, 0] : List Int).map (Value.int .i64)) := by
    have := OwnC.of_own hown (Nat.le_refl _)
    rwa [zeros4] at this
  clear hown hg
  have hz3 := hb3.size
  have kz3 := kz1.below hb3 (by omega)
  have kx3 := kx1.below hb3 hzb1
  have hbw3 : Below w.heap.size w w3 := hb1.trans (hb3.mono (by omega))
  obtain ⟨gD, hgD⟩ : ∃ gD, gD = w1.heap.size := ⟨_, rfl⟩
  obtain ⟨lo, hlo0⟩ : ∃ lo, lo = w3.heap.size := ⟨_, rfl⟩
  have HLO : lo ≤ w3.heap.size := by omega
  rw [← hgD] at o3 hzb1 hz3 ⊢
  rw [← hlo0] at o3 hz3
  clear hgD hlo0 hb1 hb3 kz1 kx1
  have LS : LInv n w.heap.size hB gD lo w3 (colAll (xss.take 0)) := ⟨kz3, o3, rfl, by omega, HLO, none, 0, [], kx3, OwnC.nil _ _ _ _ _, CellsRows.nil⟩
  clear kz3 o3 kx3
  go_loopw [8] (fun iv wr => ∃ i : Nat, i ≤ xss.length ∧ iv = .int .i64 i ∧ LInv n w.heap.size hB gD lo wr (colAll (xss.take i)) ∧ Below w.heap.size w wr) (fun iv _ => xss.length - (intOf iv).toNat)
  case atStart => exact ⟨0, Nat.zero_le _, rfl, LS, hbw3⟩
  case round =>
    clear LS hbw3
    obtain ⟨i, hi, rfl, hinv, hb⟩ := hrel
    by_cases hil : i < xss.length
    · obtain ⟨b, off, A7, c7, row, rfl, hx, hc, hir, hrl⟩ := h i hil
      have hr8 : row.length ≤ 8 := by have := HROW.out row (List.mem_of_getElem? hx); omega
      have HX := Lib.hid (colAll_snoc hx); clear hx
      have HOK := Lib.hid (ColOk.all xss i hi)
      generalize colAll (xss.take i) = st0 at hinv HX HOK
      have q1 := cells_below hb _ _ c1
      have j1 : (0 : Int) ≤ (i : Int) := by omega
      have j2 : (i : Int) < (xss.length : Int) := by omega
      go_wp2_with (fail)
      go_loopw [9] (fun kv wr => ∃ m : Nat, m ≤ 4 ∧ kv = .int .i64 ((m : Int) + 1) ∧ LInv n w.heap.size hB gD lo wr (colTo row st0 m) ∧ Below w.heap.size w wr) (fun kv _ => 5 - (intOf kv).toNat)
      case atStart => exact ⟨0, Nat.zero_le _, rfl, hinv, hb⟩
      case round =>
        clear hinv hb q1
        obtain ⟨m, hm4, rfl, hinv, hb⟩ := hrel
        have q1 := cells_below hb _ _ c1
        have q2 := cells_below hb _ _ hc
        by_cases hml : m < 4
        · have d4 : decide ((m : Int) + 1 ≤ 4) = true := decide_eq_true (by omega)
          have hokm := (HOK.out.to hm4 : ColOk (colTo row st0 m) (4 * i + m))
          obtain ⟨x, hxm, hx3⟩ := hokm.at hml
          have hsz := hokm.size
          have HOK4 := hokm.len
          have hxs : st0.rows.length ≤ 1000000 := by have := HOK.out.size; omega
          have HS := Lib.hid (colTo_succ row st0 m)
          clear hokm
          generalize colTo row st0 m = st at hinv hxm hsz HS HOK4
          have hirs : Ints wr A7 row := hir.below hb
          cases hmem : decide (((m : Int) + 1) ∈ row)
          · have HS2 : Hid (colTo row st0 (m + 1) = st) := Lib.hid (by rw [HS.out, colStep_no (of_decide_eq_false hmem)])
            go_wp2_with (go_at_call 142; refine (spec_l00Has A7 c7 row _ _ hirs (by omega)).mono ?_; rintro e _ ⟨rfl, rfl⟩; rw [hmem])
            refine ⟨⟨m + 1, by omega, by go_num, by rw [HS2.out]; exact hinv, hb⟩, by first | (simp [intOf]; done) | (simp [intOf]; omega)⟩
          · obtain ⟨kz, od, hdl, hlt, hlo, A', c', cs, kb, ho, hcr⟩ := hinv
            obtain ⟨hqc, hfc, hg1, hg2⟩ := own_at (show OwnI wr gD lo (some ⟨gD, 0, none⟩) 4 st.ds from by show OwnC _ _ _ _ _ _ _ _ _; rw [HOK4]; exact od) hxm
            have i1 : (m : Int) + 1 - 1 = (m : Int) := by omega
            have i2 : IntKind.i64.wrap ((m : Int) + 1 - 1) = (m : Int) := by rw [i1]; exact IntWalk.i64_in _ ⟨by omega, by omega⟩
            have i3 : (0 : Int) ≤ (m : Int) := by omega
            have i4 : (m : Int) < 4 := by omega
            have i5 : ((m : Int)).toNat = m := by omega
            have i7 : IntKind.i64.wrap (m : Int) = (m : Int) := IntWalk.i64_in _ ⟨by omega, by omega⟩
            have i6 : IntKind.i64.wrap (-x) = -x := IntWalk.i64_in _ ⟨by omega, by omega⟩
            have s0 := kb.c2
            have HMB := Lib.hid (of_decide_eq_true hmem)
            by_cases hx0 : x = 0
            · have hxb : (x != 0) = false := by simp [hx0]
              by_cases hL0 : st.rows.length = 0
              · have hLb : ((st.rows.length : Int) == 0) = true := by simp [hL0]
                have HD : Hid (dirOf x st.rows.length = -1) := Lib.hid (by simp [dirOf, hx0, hL0])
                have HS2 : Hid (colTo row st0 (m + 1) = ⟨st.ds.set m (-1), st.rows ++ [⟨-1, (m : Int) + 1, knitRow row ((m : Int) + 1)⟩]⟩) := Lib.hid (by rw [HS.out, colStep_yes HMB.out hxm, HD.out])
                clear HS HD
                obtain ⟨s1, s2⟩ := s0
                go_wp2_with (go_at_call 142; refine (spec_l00Has A7 c7 row _ _ hirs (by omega)).mono ?_; rintro e _ ⟨rfl, rfl⟩; rw [hmem])
                obtain ⟨wS, hwS⟩ : ∃ wS, wS = wr.setCell ⟨gD, m, none⟩ (.int .i64 (-1)) := ⟨_, rfl⟩
                have kzS : Blk wS w.heap.size 25 #[.int .i64 0, .slice none 0 0] := by rw [hwS]; exact kz.far (by show w.heap.size ≠ gD; omega) _
                have kbS : Blk wS hB 25 #[.int .i64 n, .slice A' st.rows.length c'] := by rw [hwS]; exact kb.far (by show hB ≠ gD; omega) _
                have odS : OwnC wS gD lo 2 1 (some ⟨gD, 0, none⟩) 4 4 ((st.ds.set m (-1)).map (Value.int .i64)) := by rw [hwS, List.map_set]; exact (od.store _).1
                have hoS : OwnC wS lo wr.heap.size 66 3 A' st.rows.length c' cs := by rw [hwS]; exact ho.far (.inl (by show gD < lo; omega)) _
                have hcrS : CellsRows wS lo wr.heap.size cs st.rows := by rw [hwS]; exact hcr.keep (fun q h1 _ _ => Below.heap_setCell wr _ _ q (by show q ≠ gD; omega))
                have hbS : Below w.heap.size w wS := by rw [hwS]; exact hb.setCell (by show w.heap.size ≤ gD; omega) _
                have hzS : wr.heap.size ≤ wS.heap.size := by rw [hwS]; simp
                have hqS : wS.cell? ⟨gD, m, none⟩ = some (.int .i64 (-1)) := by rw [hwS]; exact (own_at (show OwnI (wr.setCell ⟨gD, m, none⟩ (.int .i64 (-1))) gD lo (some ⟨gD, 0, none⟩) 4 (st.ds.set m (-1)) from by show OwnC _ _ _ _ _ _ _ _ _; rw [List.length_set, HOK4, List.map_set]; exact (od.store _).1) (by rw [List.getElem?_set_self (by rw [HOK4]; exact hml)])).1
                rw [← hwS]
                clear hwS kz kb od ho hcr hb q1 q2 hirs hqc hfc s1 s2
                have q1 := cells_below hbS _ _ c1
                have q2 := cells_below hbS _ _ hc
                have hirS : Ints wS A7 row := hir.below hbS
                have hL32 : st.rows.length ≤ 1000 := by omega
                obtain ⟨hW, hhW⟩ : ∃ hW, hW = wr.heap.size := ⟨_, rfl⟩
                rw [← hhW] at hoS hcrS hzS hlo
                clear hhW
                have s2 := kbS.c2.2
                generalize hLL : st.rows.length = L at *
                subst hL0
                have HLL := Lib.hid hLL; clear hLL
                (refine wp_region_pops 3 (S := (fun W' => W'.cell? ⟨hB, 1, none⟩ = some (.slice A' 0 c') ∧ W'.cell? ⟨gD, m, none⟩ = some (.int .i64 (-1)) ∧ W'.cell? ⟨g, o + 1, none⟩ = some (.slice (some ⟨b, off, none⟩) xss.length c) ∧ W'.cell? ⟨b, off + i, none⟩ = some (.slice A7 row.length c7))) (pre := ?_) (T := ?_) (n := ?_) (by kernel_rfl) (by kernel_rfl) ?_ ?_ ?_ ?_ (fun hHeld => ?_); rotate_left 3; (focus (simp only [pops, List.pop_toArray, List.dropLast_cons_cons, List.dropLast_singleton]; rfl)); (focus (simp only [tailOf, List.pop_toArray, List.dropLast_cons_cons, List.dropLast_singleton, List.back?_toArray, List.getLast?_cons_cons, List.getLast?_singleton, Option.toList_some, List.nil_append, List.cons_append]; rfl)); (focus rfl); (focus (exact ⟨s2, hqS, q1, q2⟩)))
                ((refine wpAnyH_take (i := 0) (v := ?_) rfl (by kernel_rfl) (by kernel_rfl) (by kernel_rfl) (fun _ _ _ h => h) (Or.inl ⟨by rfl, ?_⟩) (by assumption) ?_; rotate_left; (focus (intro W hSw; (try dsimp only at hSw); go_simp; try (with_reducible rfl)))); (try simp only [List.getElem_toArray, List.getElem_cons_zero, Act.put, List.setIfInBounds_toArray, List.set_cons_zero, List.set_cons_succ]); (refine wpAnyH_take (i := 1) (v := ?_) rfl (by kernel_rfl) (by kernel_rfl) (by kernel_rfl) (fun _ _ _ h => h) (Or.inl ⟨by rfl, ?_⟩) (by assumption) ?_; rotate_left; (focus (intro W hSw; (try dsimp only at hSw); go_simp; try (with_reducible rfl)))); (try simp only [List.getElem_toArray, List.getElem_cons_zero, List.getElem_cons_succ, Act.put, List.setIfInBounds_toArray, List.set_cons_zero, List.set_cons_succ]); (refine wpAnyH_take (i := 2) (v := ?_) rfl (by kernel_rfl) (by kernel_rfl) (by kernel_rfl) (fun _ _ _ h => h) (Or.inl ⟨by rfl, ?_⟩) (by assumption) ?_; rotate_left; (focus (intro W hSw; (try dsimp only at hSw); go_simp; try (with_reducible rfl)))); (try simp only [List.getElem_toArray, List.getElem_cons_zero, List.getElem_cons_succ, Act.put, List.setIfInBounds_toArray, List.set_cons_zero, List.set_cons_succ]); (refine wpAnyH_take (i := 3) (v := ?_) rfl (by kernel_rfl) (by kernel_rfl) (by kernel_rfl) (fun _ _ _ h => h) (Or.inl ⟨by rfl, ?_⟩) (by assumption) ?_; rotate_left; (focus (intro W hSw; (try dsimp only at hSw); go_simp; try (with_reducible rfl)))); (try simp only [List.getElem_toArray, List.getElem_cons_zero, List.getElem_cons_succ, Act.put, List.setIfInBounds_toArray, List.set_cons_zero, List.set_cons_succ]); (refine wpAnyH_take (i := 4) (v := ?_) rfl (by kernel_rfl) (by kernel_rfl) (by kernel_rfl) (fun _ _ _ h => h) (Or.inl ⟨by rfl, ?_⟩) (by assumption) ?_; rotate_left; (focus (intro W hSw; (try dsimp only at hSw); go_simp; try (with_reducible rfl)))); (try simp only [List.getElem_toArray, List.getElem_cons_zero, List.getElem_cons_succ, Act.put, List.setIfInBounds_toArray, List.set_cons_zero, List.set_cons_succ]); (refine wpAnyH_take (i := 5) (v := ?_) rfl (by kernel_rfl) (by kernel_rfl) (by kernel_rfl) (fun _ _ _ h => h) (Or.inl ⟨by rfl, ?_⟩) (by assumption) ?_; rotate_left; (focus (intro W hSw; (try dsimp only at hSw); go_simp; try (with_reducible rfl)))); (try simp only [List.getElem_toArray, List.getElem_cons_zero, List.getElem_cons_succ, Act.put, List.setIfInBounds_toArray, List.set_cons_zero, List.set_cons_succ]); (refine wpAnyH_take (i := 6) (v := ?_) rfl (by kernel_rfl) (by kernel_rfl) (by kernel_rfl) (fun _ _ _ h => h) (Or.inl ⟨by rfl, ?_⟩) (by assumption) ?_; rotate_left; (focus (intro W hSw; (try dsimp only at hSw); go_simp; try (with_reducible rfl)))); (try simp only [List.getElem_toArray, List.getElem_cons_zero, List.getElem_cons_succ, Act.put, List.setIfInBounds_toArray, List.set_cons_zero, List.set_cons_succ]); (refine wpAnyH_take (i := 7) (v := ?_) rfl (by kernel_rfl) (by kernel_rfl) (by kernel_rfl) (fun _ _ _ h => h) (Or.inl ⟨by rfl, ?_⟩) (by assumption) ?_; rotate_left; (focus (intro W hSw; (try dsimp only at hSw); go_simp; try (with_reducible rfl)))); (try simp only [List.getElem_toArray, List.getElem_cons_zero, List.getElem_cons_succ, Act.put, List.setIfInBounds_toArray, List.set_cons_zero, List.set_cons_succ]); (refine wpAnyH_take (i := 8) (v := ?_) rfl (by kernel_rfl) (by kernel_rfl) (by kernel_rfl) (fun _ _ _ h => h) (Or.inl ⟨by rfl, ?_⟩) (by assumption) ?_; rotate_left; (focus (intro W hSw; (try dsimp only at hSw); go_simp; try (with_reducible rfl)))); (try simp only [List.getElem_toArray, List.getElem_cons_zero, List.getElem_cons_succ, Act.put, List.setIfInBounds_toArray, List.set_cons_zero, List.set_cons_succ]); (refine wpAnyH_take (i := 9) (v := ?_) rfl (by kernel_rfl) (by kernel_rfl) (by kernel_rfl) (fun _ _ _ h => h) (Or.inl ⟨by rfl, ?_⟩) (by assumption) ?_; rotate_left; (focus (intro W hSw; (try dsimp only at hSw); go_simp; try (with_reducible rfl)))); (try simp only [List.getElem_toArray, List.getElem_cons_zero, List.getElem_cons_succ, Act.put, List.setIfInBounds_toArray, List.set_cons_zero, List.set_cons_succ]); (refine wpAnyH_take (i := 10) (v := ?_) rfl (by kernel_rfl) (by kernel_rfl) (by kernel_rfl) (fun _ _ _ h => h) (Or.inl ⟨by rfl, ?_⟩) (by assumption) ?_; rotate_left; (focus (intro W hSw; (try dsimp only at hSw); go_simp; try (with_reducible rfl)))); (try simp only [List.getElem_toArray, List.getElem_cons_zero, List.getElem_cons_succ, Act.put, List.setIfInBounds_toArray, List.set_cons_zero, List.set_cons_succ]); (refine wpAnyH_take (i := 11) (v := ?_) rfl (by kernel_rfl) (by kernel_rfl) (by kernel_rfl) (fun _ _ _ h => h) (Or.inl ⟨by rfl, ?_⟩) (by assumption) ?_; rotate_left; (focus (intro W hSw; (try dsimp only at hSw); go_simp; try (with_reducible rfl)))); (try simp only [List.getElem_toArray, List.getElem_cons_zero, List.getElem_cons_succ, Act.put, List.setIfInBounds_toArray, List.set_cons_zero, List.set_cons_succ]); (refine wpAnyH_take (i := 12) (v := ?_) rfl (by kernel_rfl) (by kernel_rfl) (by kernel_rfl) (fun _ _ _ h => h) (Or.inl ⟨by rfl, ?_⟩) (by assumption) ?_; rotate_left; (focus (intro W hSw; (try dsimp only at hSw); go_simp; try (with_reducible rfl)))); (try simp only [List.getElem_toArray, List.getElem_cons_zero, List.getElem_cons_succ, Act.put, List.setIfInBounds_toArray, List.set_cons_zero, List.set_cons_succ]); (refine wpAnyH_take (i := 13) (v := ?_) rfl (by kernel_rfl) (by kernel_rfl) (by kernel_rfl) (fun _ _ _ h => h) (Or.inl ⟨by rfl, ?_⟩) (by assumption) ?_; rotate_left; (focus (intro W hSw; (try dsimp only at hSw); go_simp; try (with_reducible rfl)))); (try simp only [List.getElem_toArray, List.getElem_cons_zero, List.getElem_cons_succ, Act.put, List.setIfInBounds_toArray, List.set_cons_zero, List.set_cons_succ]); (refine wpAnyH_take (i := 14) (v := ?_) rfl (by kernel_rfl) (by kernel_rfl) (by kernel_rfl) (fun _ _ _ h => h) (Or.inl ⟨by rfl, ?_⟩) (by assumption) ?_; rotate_left; (focus (intro W hSw; (try dsimp only at hSw); go_simp; try (with_reducible rfl)))); (try simp only [List.getElem_toArray, List.getElem_cons_zero, List.getElem_cons_succ, Act.put, List.setIfInBounds_toArray, List.set_cons_zero, List.set_cons_succ]); (refine wpAnyH_take (i := 15) (v := ?_) rfl (by kernel_rfl) (by kernel_rfl) (by kernel_rfl) (fun _ _ _ h => h) (Or.inl ⟨by rfl, ?_⟩) (by assumption) ?_; rotate_left; (focus (intro W hSw; (try dsimp only at hSw); go_simp; try (with_reducible rfl)))); (try simp only [List.getElem_toArray, List.getElem_cons_zero, List.getElem_cons_succ, Act.put, List.setIfInBounds_toArray, List.set_cons_zero, List.set_cons_succ]); (refine wpAnyH_take (i := 16) (v := ?_) rfl (by kernel_rfl) (by kernel_rfl) (by kernel_rfl) (fun _ _ _ h => h) (Or.inl ⟨by rfl, ?_⟩) (by assumption) ?_; rotate_left; (focus (intro W hSw; (try dsimp only at hSw); go_simp; try (with_reducible rfl)))); (try simp only [List.getElem_toArray, List.getElem_cons_zero, List.getElem_cons_succ, Act.put, List.setIfInBounds_toArray, List.set_cons_zero, List.set_cons_succ]))
                (refine wpAnyH_ready (rs := [17]) (by kernel_rfl) (by simp) ?_; refine AllReadyH.cons rfl (fun K hK => ?_) AllReadyH.nil)
                go_simp
                refine (spec_l19Stitches A7 c7 row ((m : Int) + 1) _ (Ints.drew1 hirS) (by omega)).mono ?_; rintro e w7 ⟨A8, c8, rfl, o7', b7'⟩
                have b7 := undrew b7'
                have o7 : OwnI w7 wS.heap.size w7.heap.size A8 c8 (knitRow row ((m : Int) + 1)) := o7'
                have hz7 := b7.size
                refine hK.out _ _ ⟨cells_below b7 _ _ s2, cells_below b7 _ _ hqS, cells_below b7 _ _ q1, cells_below b7 _ _ q2⟩ (fun hHeld => ?_)
                clear hK K b7' o7'
                (try simp only [List.getElem_toArray, List.getElem_cons_zero, List.getElem_cons_succ, Act.put, List.setIfInBounds_toArray, List.set_cons_zero, List.set_cons_succ])
                ((refine wpAnyH_take (i := 18) (v := ?_) rfl (by kernel_rfl) (by kernel_rfl) (by kernel_rfl) (fun _ _ _ h => h) (Or.inl ⟨by rfl, ?_⟩) (by assumption) ?_; rotate_left; (focus (intro W hSw; (try dsimp only at hSw); go_simp; try (with_reducible rfl)))); (try simp only [List.getElem_toArray, List.getElem_cons_zero, List.getElem_cons_succ, Act.put, List.setIfInBounds_toArray, List.set_cons_zero, List.set_cons_succ]))
                (refine wpAnyH_ready (rs := [19]) (by kernel_rfl) (by simp) ?_; refine AllReadyH.cons rfl (fun K hK => ?_) AllReadyH.nil)
                go_simp
                refine hK.out _ _ ⟨cell_alloc (cells_below b7 _ _ s2) _, cell_alloc (cells_below b7 _ _ hqS) _, cell_alloc (cells_below b7 _ _ q1) _, cell_alloc (cells_below b7 _ _ q2) _⟩ (fun hHeld => ?_)
                clear hK K
                (try simp only [List.getElem_toArray, List.getElem_cons_zero, List.getElem_cons_succ, Act.put, List.setIfInBounds_toArray, List.set_cons_zero, List.set_cons_succ])
                (refine wpAnyH_done (by kernel_rfl) ?_ _; change wpList _ _ _ _ _ _)
                clear hHeld
                have kz7 := kzS.below b7 (by omega)
                have kb7 := kbS.below b7 (by omega)
                have od7 := odS.below b7 (by omega)
                have ho7 := hoS.below b7 hzS
                have hcr7 : CellsRows w7 lo hW cs st.rows := hcrS.keep (fun q _ h2 _ => b7.block q (by omega))
                have hb7 : Below w.heap.size w w7 := hbS.trans (b7.mono (by omega))
                clear kzS kbS odS hoS hcrS hbS hqS q1 q2 hirS s2 b7
                generalize hkr : knitRow row ((m : Int) + 1) = ks at o7 HS2 ⊢
                clear hkr
                have HKX : Hid (∀ w8, (w7.alloc (.cells #[.int .i64 (-1), .int .i64 ((m : Int) + 1), .slice A8 ks.length c8] 66)).grownBy w8 (Value.slice A' 0 c').ownBlock → Blk w8 hB 25 #[.int .i64 n, .slice A' 0 c']) := Lib.hid (fun w8 hg => (kb7.alloc _).grownT (ho7.alloc (.cells #[.int .i64 (-1), .int .i64 ((m : Int) + 1), .slice A8 ks.length c8] 66)) t2 hg)
                go_wp2_with (at_builtin; refine wpList_append1 w7 [.int .i64 (-1), .int .i64 ((m : Int) + 1), .slice A8 ks.length c8] _ rfl (.tmp 70) (.tmp 88) _ rfl 66 iR _ 3 40 Try.underlying23 hi1 hy0 hy1 hy2 rfl (by decide) rfl ho7 (by omega) 1 rfl rfl (by simp [Value.oneCell']) (by omega) (by decide) ?_; intro A9 c9 w8 ho8 hg8 hb8 hz8; have kb8 := HKX.out w8 hg8; obtain ⟨x0', x1'⟩ := kb8.c2; have x2' := kb8.frozen 1)
                have kb8 := HKX.out w8 hg8
                have kz8 := (kz7.alloc (.cells #[.int .i64 (-1), .int .i64 ((m : Int) + 1), .slice A8 ks.length c8] 66)).grownT (ho7.alloc (.cells #[.int .i64 (-1), .int .i64 ((m : Int) + 1), .slice A8 ks.length c8] 66)) t2 hg8
                have od8 := od7.below hb8 (Nat.le_refl _)
                have hb8' : Below w.heap.size w w8 := hb7.trans (hb8.mono (by omega))
                have gi' := GrowInv.step ⟨-1, (m : Int) + 1, ks⟩ HLL.out hlt hlo (by omega) kb7 ho7 hcr7 (o7.mono hzS (Nat.le_refl _)) ho8 hg8 hz8
                refine ⟨⟨m + 1, by omega, by go_num, ?_, hb8'.setCell (by show w.heap.size ≤ hB; omega) _⟩, by first | (simp [intOf]; done) | (simp [intOf]; omega)⟩
                rw [HS2.out]
                refine ⟨kz8.far (by show w.heap.size ≠ hB; omega) _, od8.farT kb8 t1 1 _, ?_⟩
                show GrowInv n hB lo _ (st.rows ++ [_]).length (st.rows ++ [_])
                rw [List.length_append, HLL.out]
                exact gi'
              · have hLb : ((st.rows.length : Int) == 0) = false := by simp [hL0]
                have HD : Hid (dirOf x st.rows.length = 1) := Lib.hid (by simp [dirOf, hx0, hL0])
                have HS2 : Hid (colTo row st0 (m + 1) = ⟨st.ds.set m (1), st.rows ++ [⟨1, (m : Int) + 1, knitRow row ((m : Int) + 1)⟩]⟩) := Lib.hid (by rw [HS.out, colStep_yes HMB.out hxm, HD.out])
                clear HS HD
                obtain ⟨s1, s2⟩ := s0
                go_wp2_with (go_at_call 142; refine (spec_l00Has A7 c7 row _ _ hirs (by omega)).mono ?_; rintro e _ ⟨rfl, rfl⟩; rw [hmem])
                obtain ⟨wS, hwS⟩ : ∃ wS, wS = wr.setCell ⟨gD, m, none⟩ (.int .i64 (1)) := ⟨_, rfl⟩
                have kzS : Blk wS w.heap.size 25 #[.int .i64 0, .slice none 0 0] := by rw [hwS]; exact kz.far (by show w.heap.size ≠ gD; omega) _
                have kbS : Blk wS hB 25 #[.int .i64 n, .slice A' st.rows.length c'] := by rw [hwS]; exact kb.far (by show hB ≠ gD; omega) _
                have odS : OwnC wS gD lo 2 1 (some ⟨gD, 0, none⟩) 4 4 ((st.ds.set m (1)).map (Value.int .i64)) := by rw [hwS, List.map_set]; exact (od.store _).1
                have hoS : OwnC wS lo wr.heap.size 66 3 A' st.rows.length c' cs := by rw [hwS]; exact ho.far (.inl (by show gD < lo; omega)) _
                have hcrS : CellsRows wS lo wr.heap.size cs st.rows := by rw [hwS]; exact hcr.keep (fun q h1 _ _ => Below.heap_setCell wr _ _ q (by show q ≠ gD; omega))
                have hbS : Below w.heap.size w wS := by rw [hwS]; exact hb.setCell (by show w.heap.size ≤ gD; omega) _
                have hzS : wr.heap.size ≤ wS.heap.size := by rw [hwS]; simp
                have hqS : wS.cell? ⟨gD, m, none⟩ = some (.int .i64 (1)) := by rw [hwS]; exact (own_at (show OwnI (wr.setCell ⟨gD, m, none⟩ (.int .i64 (1))) gD lo (some ⟨gD, 0, none⟩) 4 (st.ds.set m (1)) from by show OwnC _ _ _ _ _ _ _ _ _; rw [List.length_set, HOK4, List.map_set]; exact (od.store _).1) (by rw [List.getElem?_set_self (by rw [HOK4]; exact hml)])).1
                rw [← hwS]
                clear hwS kz kb od ho hcr hb q1 q2 hirs hqc hfc s1 s2
                have q1 := cells_below hbS _ _ c1
                have q2 := cells_below hbS _ _ hc
                have hirS : Ints wS A7 row := hir.below hbS
                have hL32 : st.rows.length ≤ 1000 := by omega
                obtain ⟨hW, hhW⟩ : ∃ hW, hW = wr.heap.size := ⟨_, rfl⟩
                rw [← hhW] at hoS hcrS hzS hlo
                clear hhW
                have s2 := kbS.c2.2
                generalize hLL : st.rows.length = L at *
                have HLL := Lib.hid hLL; clear hLL
                (refine wp_region_pops 3 (S := (fun W' => W'.cell? ⟨hB, 1, none⟩ = some (.slice A' L c') ∧ W'.cell? ⟨gD, m, none⟩ = some (.int .i64 (1)) ∧ W'.cell? ⟨g, o + 1, none⟩ = some (.slice (some ⟨b, off, none⟩) xss.length c) ∧ W'.cell? ⟨b, off + i, none⟩ = some (.slice A7 row.length c7))) (pre := ?_) (T := ?_) (n := ?_) (by kernel_rfl) (by kernel_rfl) ?_ ?_ ?_ ?_ (fun hHeld => ?_); rotate_left 3; (focus (simp only [pops, List.pop_toArray, List.dropLast_cons_cons, List.dropLast_singleton]; rfl)); (focus (simp only [tailOf, List.pop_toArray, List.dropLast_cons_cons, List.dropLast_singleton, List.back?_toArray, List.getLast?_cons_cons, List.getLast?_singleton, Option.toList_some, List.nil_append, List.cons_append]; rfl)); (focus rfl); (focus (exact ⟨s2, hqS, q1, q2⟩)))
                ((refine wpAnyH_take (i := 0) (v := ?_) rfl (by kernel_rfl) (by kernel_rfl) (by kernel_rfl) (fun _ _ _ h => h) (Or.inl ⟨by rfl, ?_⟩) (by assumption) ?_; rotate_left; (focus (intro W hSw; (try dsimp only at hSw); go_simp; try (with_reducible rfl)))); (try simp only [List.getElem_toArray, List.getElem_cons_zero, Act.put, List.setIfInBounds_toArray, List.set_cons_zero, List.set_cons_succ]); (refine wpAnyH_take (i := 1) (v := ?_) rfl (by kernel_rfl) (by kernel_rfl) (by kernel_rfl) (fun _ _ _ h => h) (Or.inl ⟨by rfl, ?_⟩) (by assumption) ?_; rotate_left; (focus (intro W hSw; (try dsimp only at hSw); go_simp; try (with_reducible rfl)))); (try simp only [List.getElem_toArray, List.getElem_cons_zero, List.getElem_cons_succ, Act.put, List.setIfInBounds_toArray, List.set_cons_zero, List.set_cons_succ]); (refine wpAnyH_take (i := 2) (v := ?_) rfl (by kernel_rfl) (by kernel_rfl) (by kernel_rfl) (fun _ _ _ h => h) (Or.inl ⟨by rfl, ?_⟩) (by assumption) ?_; rotate_left; (focus (intro W hSw; (try dsimp only at hSw); go_simp; try (with_reducible rfl)))); (try simp only [List.getElem_toArray, List.getElem_cons_zero, List.getElem_cons_succ, Act.put, List.setIfInBounds_toArray, List.set_cons_zero, List.set_cons_succ]); (refine wpAnyH_take (i := 3) (v := ?_) rfl (by kernel_rfl) (by kernel_rfl) (by kernel_rfl) (fun _ _ _ h => h) (Or.inl ⟨by rfl, ?_⟩) (by assumption) ?_; rotate_left; (focus (intro W hSw; (try dsimp only at hSw); go_simp; try (with_reducible rfl)))); (try simp only [List.getElem_toArray, List.getElem_cons_zero, List.getElem_cons_succ, Act.put, List.setIfInBounds_toArray, List.set_cons_zero, List.set_cons_succ]); (refine wpAnyH_take (i := 4) (v := ?_) rfl (by kernel_rfl) (by kernel_rfl) (by kernel_rfl) (fun _ _ _ h => h) (Or.inl ⟨by rfl, ?_⟩) (by assumption) ?_; rotate_left; (focus (intro W hSw; (try dsimp only at hSw); go_simp; try (with_reducible rfl)))); (try simp only [List.getElem_toArray, List.getElem_cons_zero, List.getElem_cons_succ, Act.put, List.setIfInBounds_toArray, List.set_cons_zero, List.set_cons_succ]); (refine wpAnyH_take (i := 5) (v := ?_) rfl (by kernel_rfl) (by kernel_rfl) (by kernel_rfl) (fun _ _ _ h => h) (Or.inl ⟨by rfl, ?_⟩) (by assumption) ?_; rotate_left; (focus (intro W hSw; (try dsimp only at hSw); go_simp; try (with_reducible rfl)))); (try simp only [List.getElem_toArray, List.getElem_cons_zero, List.getElem_cons_succ, Act.put, List.setIfInBounds_toArray, List.set_cons_zero, List.set_cons_succ]); (refine wpAnyH_take (i := 6) (v := ?_) rfl (by kernel_rfl) (by kernel_rfl) (by kernel_rfl) (fun _ _ _ h => h) (Or.inl ⟨by rfl, ?_⟩) (by assumption) ?_; rotate_left; (focus (intro W hSw; (try dsimp only at hSw); go_simp; try (with_reducible rfl)))); (try simp only [List.getElem_toArray, List.getElem_cons_zero, List.getElem_cons_succ, Act.put, List.setIfInBounds_toArray, List.set_cons_zero, List.set_cons_succ]); (refine wpAnyH_take (i := 7) (v := ?_) rfl (by kernel_rfl) (by kernel_rfl) (by kernel_rfl) (fun _ _ _ h => h) (Or.inl ⟨by rfl, ?_⟩) (by assumption) ?_; rotate_left; (focus (intro W hSw; (try dsimp only at hSw); go_simp; try (with_reducible rfl)))); (try simp only [List.getElem_toArray, List.getElem_cons_zero, List.getElem_cons_succ, Act.put, List.setIfInBounds_toArray, List.set_cons_zero, List.set_cons_succ]); (refine wpAnyH_take (i := 8) (v := ?_) rfl (by kernel_rfl) (by kernel_rfl) (by kernel_rfl) (fun _ _ _ h => h) (Or.inl ⟨by rfl, ?_⟩) (by assumption) ?_; rotate_left; (focus (intro W hSw; (try dsimp only at hSw); go_simp; try (with_reducible rfl)))); (try simp only [List.getElem_toArray, List.getElem_cons_zero, List.getElem_cons_succ, Act.put, List.setIfInBounds_toArray, List.set_cons_zero, List.set_cons_succ]); (refine wpAnyH_take (i := 9) (v := ?_) rfl (by kernel_rfl) (by kernel_rfl) (by kernel_rfl) (fun _ _ _ h => h) (Or.inl ⟨by rfl, ?_⟩) (by assumption) ?_; rotate_left; (focus (intro W hSw; (try dsimp only at hSw); go_simp; try (with_reducible rfl)))); (try simp only [List.getElem_toArray, List.getElem_cons_zero, List.getElem_cons_succ, Act.put, List.setIfInBounds_toArray, List.set_cons_zero, List.set_cons_succ]); (refine wpAnyH_take (i := 10) (v := ?_) rfl (by kernel_rfl) (by kernel_rfl) (by kernel_rfl) (fun _ _ _ h => h) (Or.inl ⟨by rfl, ?_⟩) (by assumption) ?_; rotate_left; (focus (intro W hSw; (try dsimp only at hSw); go_simp; try (with_reducible rfl)))); (try simp only [List.getElem_toArray, List.getElem_cons_zero, List.getElem_cons_succ, Act.put, List.setIfInBounds_toArray, List.set_cons_zero, List.set_cons_succ]); (refine wpAnyH_take (i := 11) (v := ?_) rfl (by kernel_rfl) (by kernel_rfl) (by kernel_rfl) (fun _ _ _ h => h) (Or.inl ⟨by rfl, ?_⟩) (by assumption) ?_; rotate_left; (focus (intro W hSw; (try dsimp only at hSw); go_simp; try (with_reducible rfl)))); (try simp only [List.getElem_toArray, List.getElem_cons_zero, List.getElem_cons_succ, Act.put, List.setIfInBounds_toArray, List.set_cons_zero, List.set_cons_succ]); (refine wpAnyH_take (i := 12) (v := ?_) rfl (by kernel_rfl) (by kernel_rfl) (by kernel_rfl) (fun _ _ _ h => h) (Or.inl ⟨by rfl, ?_⟩) (by assumption) ?_; rotate_left; (focus (intro W hSw; (try dsimp only at hSw); go_simp; try (with_reducible rfl)))); (try simp only [List.getElem_toArray, List.getElem_cons_zero, List.getElem_cons_succ, Act.put, List.setIfInBounds_toArray, List.set_cons_zero, List.set_cons_succ]); (refine wpAnyH_take (i := 13) (v := ?_) rfl (by kernel_rfl) (by kernel_rfl) (by kernel_rfl) (fun _ _ _ h => h) (Or.inl ⟨by rfl, ?_⟩) (by assumption) ?_; rotate_left; (focus (intro W hSw; (try dsimp only at hSw); go_simp; try (with_reducible rfl)))); (try simp only [List.getElem_toArray, List.getElem_cons_zero, List.getElem_cons_succ, Act.put, List.setIfInBounds_toArray, List.set_cons_zero, List.set_cons_succ]); (refine wpAnyH_take (i := 14) (v := ?_) rfl (by kernel_rfl) (by kernel_rfl) (by kernel_rfl) (fun _ _ _ h => h) (Or.inl ⟨by rfl, ?_⟩) (by assumption) ?_; rotate_left; (focus (intro W hSw; (try dsimp only at hSw); go_simp; try (with_reducible rfl)))); (try simp only [List.getElem_toArray, List.getElem_cons_zero, List.getElem_cons_succ, Act.put, List.setIfInBounds_toArray, List.set_cons_zero, List.set_cons_succ]); (refine wpAnyH_take (i := 15) (v := ?_) rfl (by kernel_rfl) (by kernel_rfl) (by kernel_rfl) (fun _ _ _ h => h) (Or.inl ⟨by rfl, ?_⟩) (by assumption) ?_; rotate_left; (focus (intro W hSw; (try dsimp only at hSw); go_simp; try (with_reducible rfl)))); (try simp only [List.getElem_toArray, List.getElem_cons_zero, List.getElem_cons_succ, Act.put, List.setIfInBounds_toArray, List.set_cons_zero, List.set_cons_succ]); (refine wpAnyH_take (i := 16) (v := ?_) rfl (by kernel_rfl) (by kernel_rfl) (by kernel_rfl) (fun _ _ _ h => h) (Or.inl ⟨by rfl, ?_⟩) (by assumption) ?_; rotate_left; (focus (intro W hSw; (try dsimp only at hSw); go_simp; try (with_reducible rfl)))); (try simp only [List.getElem_toArray, List.getElem_cons_zero, List.getElem_cons_succ, Act.put, List.setIfInBounds_toArray, List.set_cons_zero, List.set_cons_succ]))
                (refine wpAnyH_ready (rs := [17]) (by kernel_rfl) (by simp) ?_; refine AllReadyH.cons rfl (fun K hK => ?_) AllReadyH.nil)
                go_simp
                refine (spec_l19Stitches A7 c7 row ((m : Int) + 1) _ (Ints.drew1 hirS) (by omega)).mono ?_; rintro e w7 ⟨A8, c8, rfl, o7', b7'⟩
                have b7 := undrew b7'
                have o7 : OwnI w7 wS.heap.size w7.heap.size A8 c8 (knitRow row ((m : Int) + 1)) := o7'
                have hz7 := b7.size
                refine hK.out _ _ ⟨cells_below b7 _ _ s2, cells_below b7 _ _ hqS, cells_below b7 _ _ q1, cells_below b7 _ _ q2⟩ (fun hHeld => ?_)
                clear hK K b7' o7'
                (try simp only [List.getElem_toArray, List.getElem_cons_zero, List.getElem_cons_succ, Act.put, List.setIfInBounds_toArray, List.set_cons_zero, List.set_cons_succ])
                ((refine wpAnyH_take (i := 18) (v := ?_) rfl (by kernel_rfl) (by kernel_rfl) (by kernel_rfl) (fun _ _ _ h => h) (Or.inl ⟨by rfl, ?_⟩) (by assumption) ?_; rotate_left; (focus (intro W hSw; (try dsimp only at hSw); go_simp; try (with_reducible rfl)))); (try simp only [List.getElem_toArray, List.getElem_cons_zero, List.getElem_cons_succ, Act.put, List.setIfInBounds_toArray, List.set_cons_zero, List.set_cons_succ]))
                (refine wpAnyH_ready (rs := [19]) (by kernel_rfl) (by simp) ?_; refine AllReadyH.cons rfl (fun K hK => ?_) AllReadyH.nil)
                go_simp
                refine hK.out _ _ ⟨cell_alloc (cells_below b7 _ _ s2) _, cell_alloc (cells_below b7 _ _ hqS) _, cell_alloc (cells_below b7 _ _ q1) _, cell_alloc (cells_below b7 _ _ q2) _⟩ (fun hHeld => ?_)
                clear hK K
                (try simp only [List.getElem_toArray, List.getElem_cons_zero, List.getElem_cons_succ, Act.put, List.setIfInBounds_toArray, List.set_cons_zero, List.set_cons_succ])
                (refine wpAnyH_done (by kernel_rfl) ?_ _; change wpList _ _ _ _ _ _)
                clear hHeld
                have kz7 := kzS.below b7 (by omega)
                have kb7 := kbS.below b7 (by omega)
                have od7 := odS.below b7 (by omega)
                have ho7 := hoS.below b7 hzS
                have hcr7 : CellsRows w7 lo hW cs st.rows := hcrS.keep (fun q _ h2 _ => b7.block q (by omega))
                have hb7 : Below w.heap.size w w7 := hbS.trans (b7.mono (by omega))
                clear kzS kbS odS hoS hcrS hbS hqS q1 q2 hirS s2 b7
                generalize hkr : knitRow row ((m : Int) + 1) = ks at o7 HS2 ⊢
                clear hkr
                have HKX : Hid (∀ w8, (w7.alloc (.cells #[.int .i64 (1), .int .i64 ((m : Int) + 1), .slice A8 ks.length c8] 66)).grownBy w8 (Value.slice A' L c').ownBlock → Blk w8 hB 25 #[.int .i64 n, .slice A' L c']) := Lib.hid (fun w8 hg => (kb7.alloc _).grownT (ho7.alloc (.cells #[.int .i64 (1), .int .i64 ((m : Int) + 1), .slice A8 ks.length c8] 66)) t2 hg)
                go_wp2_with (at_builtin; refine wpList_append1 w7 [.int .i64 (1), .int .i64 ((m : Int) + 1), .slice A8 ks.length c8] _ rfl (.tmp 70) (.tmp 88) _ rfl 66 iR _ 3 40 Try.underlying23 hi1 hy0 hy1 hy2 rfl (by decide) rfl ho7 (by omega) 1 rfl rfl (by simp [Value.oneCell']) (by omega) (by decide) ?_; intro A9 c9 w8 ho8 hg8 hb8 hz8; have kb8 := HKX.out w8 hg8; obtain ⟨x0', x1'⟩ := kb8.c2; have x2' := kb8.frozen 1)
                have kb8 := HKX.out w8 hg8
                have kz8 := (kz7.alloc (.cells #[.int .i64 (1), .int .i64 ((m : Int) + 1), .slice A8 ks.length c8] 66)).grownT (ho7.alloc (.cells #[.int .i64 (1), .int .i64 ((m : Int) + 1), .slice A8 ks.length c8] 66)) t2 hg8
                have od8 := od7.below hb8 (Nat.le_refl _)
                have hb8' : Below w.heap.size w w8 := hb7.trans (hb8.mono (by omega))
                have gi' := GrowInv.step ⟨1, (m : Int) + 1, ks⟩ HLL.out hlt hlo (by omega) kb7 ho7 hcr7 (o7.mono hzS (Nat.le_refl _)) ho8 hg8 hz8
                refine ⟨⟨m + 1, by omega, by go_num, ?_, hb8'.setCell (by show w.heap.size ≤ hB; omega) _⟩, by first | (simp [intOf]; done) | (simp [intOf]; omega)⟩
                rw [HS2.out]
                refine ⟨kz8.far (by show w.heap.size ≠ hB; omega) _, od8.farT kb8 t1 1 _, ?_⟩
                show GrowInv n hB lo _ (st.rows ++ [_]).length (st.rows ++ [_])
                rw [List.length_append, HLL.out]
                exact gi'
            · have hxb : (x != 0) = true := by simp [hx0]
              have HD : Hid (dirOf x st.rows.length = -x) := Lib.hid (by simp [dirOf, hx0])
              have HS2 : Hid (colTo row st0 (m + 1) = ⟨st.ds.set m (-x), st.rows ++ [⟨-x, (m : Int) + 1, knitRow row ((m : Int) + 1)⟩]⟩) := Lib.hid (by rw [HS.out, colStep_yes HMB.out hxm, HD.out])
              clear HS HD
              obtain ⟨s1, s2⟩ := s0
              go_wp2_with (go_at_call 142; refine (spec_l00Has A7 c7 row _ _ hirs (by omega)).mono ?_; rintro e _ ⟨rfl, rfl⟩; rw [hmem])
              obtain ⟨wS, hwS⟩ : ∃ wS, wS = wr.setCell ⟨gD, m, none⟩ (.int .i64 (-x)) := ⟨_, rfl⟩
              have kzS : Blk wS w.heap.size 25 #[.int .i64 0, .slice none 0 0] := by rw [hwS]; exact kz.far (by show w.heap.size ≠ gD; omega) _
              have kbS : Blk wS hB 25 #[.int .i64 n, .slice A' st.rows.length c'] := by rw [hwS]; exact kb.far (by show hB ≠ gD; omega) _
              have odS : OwnC wS gD lo 2 1 (some ⟨gD, 0, none⟩) 4 4 ((st.ds.set m (-x)).map (Value.int .i64)) := by rw [hwS, List.map_set]; exact (od.store _).1
              have hoS : OwnC wS lo wr.heap.size 66 3 A' st.rows.length c' cs := by rw [hwS]; exact ho.far (.inl (by show gD < lo; omega)) _
              have hcrS : CellsRows wS lo wr.heap.size cs st.rows := by rw [hwS]; exact hcr.keep (fun q h1 _ _ => Below.heap_setCell wr _ _ q (by show q ≠ gD; omega))
              have hbS : Below w.heap.size w wS := by rw [hwS]; exact hb.setCell (by show w.heap.size ≤ gD; omega) _
              have hzS : wr.heap.size ≤ wS.heap.size := by rw [hwS]; simp
              have hqS : wS.cell? ⟨gD, m, none⟩ = some (.int .i64 (-x)) := by rw [hwS]; exact (own_at (show OwnI (wr.setCell ⟨gD, m, none⟩ (.int .i64 (-x))) gD lo (some ⟨gD, 0, none⟩) 4 (st.ds.set m (-x)) from by show OwnC _ _ _ _ _ _ _ _ _; rw [List.length_set, HOK4, List.map_set]; exact (od.store _).1) (by rw [List.getElem?_set_self (by rw [HOK4]; exact hml)])).1
              rw [← hwS]
              clear hwS kz kb od ho hcr hb q1 q2 hirs hqc hfc s1 s2
              have q1 := cells_below hbS _ _ c1
              have q2 := cells_below hbS _ _ hc
              have hirS : Ints wS A7 row := hir.below hbS
              have hL32 : st.rows.length ≤ 1000 := by omega
              obtain ⟨hW, hhW⟩ : ∃ hW, hW = wr.heap.size := ⟨_, rfl⟩
              rw [← hhW] at hoS hcrS hzS hlo
              clear hhW
              have s2 := kbS.c2.2
              generalize hLL : st.rows.length = L at *
              have HLL := Lib.hid hLL; clear hLL
              (refine wp_region_pops 3 (S := (fun W' => W'.cell? ⟨hB, 1, none⟩ = some (.slice A' L c') ∧ W'.cell? ⟨gD, m, none⟩ = some (.int .i64 (-x)) ∧ W'.cell? ⟨g, o + 1, none⟩ = some (.slice (some ⟨b, off, none⟩) xss.length c) ∧ W'.cell? ⟨b, off + i, none⟩ = some (.slice A7 row.length c7))) (pre := ?_) (T := ?_) (n := ?_) (by kernel_rfl) (by kernel_rfl) ?_ ?_ ?_ ?_ (fun hHeld => ?_); rotate_left 3; (focus (simp only [pops, List.pop_toArray, List.dropLast_cons_cons, List.dropLast_singleton]; rfl)); (focus (simp only [tailOf, List.pop_toArray, List.dropLast_cons_cons, List.dropLast_singleton, List.back?_toArray, List.getLast?_cons_cons, List.getLast?_singleton, Option.toList_some, List.nil_append, List.cons_append]; rfl)); (focus rfl); (focus (exact ⟨s2, hqS, q1, q2⟩)))
              ((refine wpAnyH_take (i := 0) (v := ?_) rfl (by kernel_rfl) (by kernel_rfl) (by kernel_rfl) (fun _ _ _ h => h) (Or.inl ⟨by rfl, ?_⟩) (by assumption) ?_; rotate_left; (focus (intro W hSw; (try dsimp only at hSw); go_simp; try (with_reducible rfl)))); (try simp only [List.getElem_toArray, List.getElem_cons_zero, Act.put, List.setIfInBounds_toArray, List.set_cons_zero, List.set_cons_succ]); (refine wpAnyH_take (i := 1) (v := ?_) rfl (by kernel_rfl) (by kernel_rfl) (by kernel_rfl) (fun _ _ _ h => h) (Or.inl ⟨by rfl, ?_⟩) (by assumption) ?_; rotate_left; (focus (intro W hSw; (try dsimp only at hSw); go_simp; try (with_reducible rfl)))); (try simp only [List.getElem_toArray, List.getElem_cons_zero, List.getElem_cons_succ, Act.put, List.setIfInBounds_toArray, List.set_cons_zero, List.set_cons_succ]); (refine wpAnyH_take (i := 2) (v := ?_) rfl (by kernel_rfl) (by kernel_rfl) (by kernel_rfl) (fun _ _ _ h => h) (Or.inl ⟨by rfl, ?_⟩) (by assumption) ?_; rotate_left; (focus (intro W hSw; (try dsimp only at hSw); go_simp; try (with_reducible rfl)))); (try simp only [List.getElem_toArray, List.getElem_cons_zero, List.getElem_cons_succ, Act.put, List.setIfInBounds_toArray, List.set_cons_zero, List.set_cons_succ]); (refine wpAnyH_take (i := 3) (v := ?_) rfl (by kernel_rfl) (by kernel_rfl) (by kernel_rfl) (fun _ _ _ h => h) (Or.inl ⟨by rfl, ?_⟩) (by assumption) ?_; rotate_left; (focus (intro W hSw; (try dsimp only at hSw); go_simp; try (with_reducible rfl)))); (try simp only [List.getElem_toArray, List.getElem_cons_zero, List.getElem_cons_succ, Act.put, List.setIfInBounds_toArray, List.set_cons_zero, List.set_cons_succ]); (refine wpAnyH_take (i := 4) (v := ?_) rfl (by kernel_rfl) (by kernel_rfl) (by kernel_rfl) (fun _ _ _ h => h) (Or.inl ⟨by rfl, ?_⟩) (by assumption) ?_; rotate_left; (focus (intro W hSw; (try dsimp only at hSw); go_simp; try (with_reducible rfl)))); (try simp only [List.getElem_toArray, List.getElem_cons_zero, List.getElem_cons_succ, Act.put, List.setIfInBounds_toArray, List.set_cons_zero, List.set_cons_succ]); (refine wpAnyH_take (i := 5) (v := ?_) rfl (by kernel_rfl) (by kernel_rfl) (by kernel_rfl) (fun _ _ _ h => h) (Or.inl ⟨by rfl, ?_⟩) (by assumption) ?_; rotate_left; (focus (intro W hSw; (try dsimp only at hSw); go_simp; try (with_reducible rfl)))); (try simp only [List.getElem_toArray, List.getElem_cons_zero, List.getElem_cons_succ, Act.put, List.setIfInBounds_toArray, List.set_cons_zero, List.set_cons_succ]); (refine wpAnyH_take (i := 6) (v := ?_) rfl (by kernel_rfl) (by kernel_rfl) (by kernel_rfl) (fun _ _ _ h => h) (Or.inl ⟨by rfl, ?_⟩) (by assumption) ?_; rotate_left; (focus (intro W hSw; (try dsimp only at hSw); go_simp; try (with_reducible rfl)))); (try simp only [List.getElem_toArray, List.getElem_cons_zero, List.getElem_cons_succ, Act.put, List.setIfInBounds_toArray, List.set_cons_zero, List.set_cons_succ]); (refine wpAnyH_take (i := 7) (v := ?_) rfl (by kernel_rfl) (by kernel_rfl) (by kernel_rfl) (fun _ _ _ h => h) (Or.inl ⟨by rfl, ?_⟩) (by assumption) ?_; rotate_left; (focus (intro W hSw; (try dsimp only at hSw); go_simp; try (with_reducible rfl)))); (try simp only [List.getElem_toArray, List.getElem_cons_zero, List.getElem_cons_succ, Act.put, List.setIfInBounds_toArray, List.set_cons_zero, List.set_cons_succ]); (refine wpAnyH_take (i := 8) (v := ?_) rfl (by kernel_rfl) (by kernel_rfl) (by kernel_rfl) (fun _ _ _ h => h) (Or.inl ⟨by rfl, ?_⟩) (by assumption) ?_; rotate_left; (focus (intro W hSw; (try dsimp only at hSw); go_simp; try (with_reducible rfl)))); (try simp only [List.getElem_toArray, List.getElem_cons_zero, List.getElem_cons_succ, Act.put, List.setIfInBounds_toArray, List.set_cons_zero, List.set_cons_succ]); (refine wpAnyH_take (i := 9) (v := ?_) rfl (by kernel_rfl) (by kernel_rfl) (by kernel_rfl) (fun _ _ _ h => h) (Or.inl ⟨by rfl, ?_⟩) (by assumption) ?_; rotate_left; (focus (intro W hSw; (try dsimp only at hSw); go_simp; try (with_reducible rfl)))); (try simp only [List.getElem_toArray, List.getElem_cons_zero, List.getElem_cons_succ, Act.put, List.setIfInBounds_toArray, List.set_cons_zero, List.set_cons_succ]); (refine wpAnyH_take (i := 10) (v := ?_) rfl (by kernel_rfl) (by kernel_rfl) (by kernel_rfl) (fun _ _ _ h => h) (Or.inl ⟨by rfl, ?_⟩) (by assumption) ?_; rotate_left; (focus (intro W hSw; (try dsimp only at hSw); go_simp; try (with_reducible rfl)))); (try simp only [List.getElem_toArray, List.getElem_cons_zero, List.getElem_cons_succ, Act.put, List.setIfInBounds_toArray, List.set_cons_zero, List.set_cons_succ]); (refine wpAnyH_take (i := 11) (v := ?_) rfl (by kernel_rfl) (by kernel_rfl) (by kernel_rfl) (fun _ _ _ h => h) (Or.inl ⟨by rfl, ?_⟩) (by assumption) ?_; rotate_left; (focus (intro W hSw; (try dsimp only at hSw); go_simp; try (with_reducible rfl)))); (try simp only [List.getElem_toArray, List.getElem_cons_zero, List.getElem_cons_succ, Act.put, List.setIfInBounds_toArray, List.set_cons_zero, List.set_cons_succ]); (refine wpAnyH_take (i := 12) (v := ?_) rfl (by kernel_rfl) (by kernel_rfl) (by kernel_rfl) (fun _ _ _ h => h) (Or.inl ⟨by rfl, ?_⟩) (by assumption) ?_; rotate_left; (focus (intro W hSw; (try dsimp only at hSw); go_simp; try (with_reducible rfl)))); (try simp only [List.getElem_toArray, List.getElem_cons_zero, List.getElem_cons_succ, Act.put, List.setIfInBounds_toArray, List.set_cons_zero, List.set_cons_succ]); (refine wpAnyH_take (i := 13) (v := ?_) rfl (by kernel_rfl) (by kernel_rfl) (by kernel_rfl) (fun _ _ _ h => h) (Or.inl ⟨by rfl, ?_⟩) (by assumption) ?_; rotate_left; (focus (intro W hSw; (try dsimp only at hSw); go_simp; try (with_reducible rfl)))); (try simp only [List.getElem_toArray, List.getElem_cons_zero, List.getElem_cons_succ, Act.put, List.setIfInBounds_toArray, List.set_cons_zero, List.set_cons_succ]); (refine wpAnyH_take (i := 14) (v := ?_) rfl (by kernel_rfl) (by kernel_rfl) (by kernel_rfl) (fun _ _ _ h => h) (Or.inl ⟨by rfl, ?_⟩) (by assumption) ?_; rotate_left; (focus (intro W hSw; (try dsimp only at hSw); go_simp; try (with_reducible rfl)))); (try simp only [List.getElem_toArray, List.getElem_cons_zero, List.getElem_cons_succ, Act.put, List.setIfInBounds_toArray, List.set_cons_zero, List.set_cons_succ]); (refine wpAnyH_take (i := 15) (v := ?_) rfl (by kernel_rfl) (by kernel_rfl) (by kernel_rfl) (fun _ _ _ h => h) (Or.inl ⟨by rfl, ?_⟩) (by assumption) ?_; rotate_left; (focus (intro W hSw; (try dsimp only at hSw); go_simp; try (with_reducible rfl)))); (try simp only [List.getElem_toArray, List.getElem_cons_zero, List.getElem_cons_succ, Act.put, List.setIfInBounds_toArray, List.set_cons_zero, List.set_cons_succ]); (refine wpAnyH_take (i := 16) (v := ?_) rfl (by kernel_rfl) (by kernel_rfl) (by kernel_rfl) (fun _ _ _ h => h) (Or.inl ⟨by rfl, ?_⟩) (by assumption) ?_; rotate_left; (focus (intro W hSw; (try dsimp only at hSw); go_simp; try (with_reducible rfl)))); (try simp only [List.getElem_toArray, List.getElem_cons_zero, List.getElem_cons_succ, Act.put, List.setIfInBounds_toArray, List.set_cons_zero, List.set_cons_succ]))
              (refine wpAnyH_ready (rs := [17]) (by kernel_rfl) (by simp) ?_; refine AllReadyH.cons rfl (fun K hK => ?_) AllReadyH.nil)
              go_simp
              refine (spec_l19Stitches A7 c7 row ((m : Int) + 1) _ (Ints.drew1 hirS) (by omega)).mono ?_; rintro e w7 ⟨A8, c8, rfl, o7', b7'⟩
              have b7 := undrew b7'
              have o7 : OwnI w7 wS.heap.size w7.heap.size A8 c8 (knitRow row ((m : Int) + 1)) := o7'
              have hz7 := b7.size
              refine hK.out _ _ ⟨cells_below b7 _ _ s2, cells_below b7 _ _ hqS, cells_below b7 _ _ q1, cells_below b7 _ _ q2⟩ (fun hHeld => ?_)
              clear hK K b7' o7'
              (try simp only [List.getElem_toArray, List.getElem_cons_zero, List.getElem_cons_succ, Act.put, List.setIfInBounds_toArray, List.set_cons_zero, List.set_cons_succ])
              ((refine wpAnyH_take (i := 18) (v := ?_) rfl (by kernel_rfl) (by kernel_rfl) (by kernel_rfl) (fun _ _ _ h => h) (Or.inl ⟨by rfl, ?_⟩) (by assumption) ?_; rotate_left; (focus (intro W hSw; (try dsimp only at hSw); go_simp; try (with_reducible rfl)))); (try simp only [List.getElem_toArray, List.getElem_cons_zero, List.getElem_cons_succ, Act.put, List.setIfInBounds_toArray, List.set_cons_zero, List.set_cons_succ]))
              (refine wpAnyH_ready (rs := [19]) (by kernel_rfl) (by simp) ?_; refine AllReadyH.cons rfl (fun K hK => ?_) AllReadyH.nil)
              go_simp
              refine hK.out _ _ ⟨cell_alloc (cells_below b7 _ _ s2) _, cell_alloc (cells_below b7 _ _ hqS) _, cell_alloc (cells_below b7 _ _ q1) _, cell_alloc (cells_below b7 _ _ q2) _⟩ (fun hHeld => ?_)
              clear hK K
              (try simp only [List.getElem_toArray, List.getElem_cons_zero, List.getElem_cons_succ, Act.put, List.setIfInBounds_toArray, List.set_cons_zero, List.set_cons_succ])
              (refine wpAnyH_done (by kernel_rfl) ?_ _; change wpList _ _ _ _ _ _)
              clear hHeld
              have kz7 := kzS.below b7 (by omega)
              have kb7 := kbS.below b7 (by omega)
              have od7 := odS.below b7 (by omega)
              have ho7 := hoS.below b7 hzS
              have hcr7 : CellsRows w7 lo hW cs st.rows := hcrS.keep (fun q _ h2 _ => b7.block q (by omega))
              have hb7 : Below w.heap.size w w7 := hbS.trans (b7.mono (by omega))
              clear kzS kbS odS hoS hcrS hbS hqS q1 q2 hirS s2 b7
              generalize hkr : knitRow row ((m : Int) + 1) = ks at o7 HS2 ⊢
              clear hkr
              have HKX : Hid (∀ w8, (w7.alloc (.cells #[.int .i64 (-x), .int .i64 ((m : Int) + 1), .slice A8 ks.length c8] 66)).grownBy w8 (Value.slice A' L c').ownBlock → Blk w8 hB 25 #[.int .i64 n, .slice A' L c']) := Lib.hid (fun w8 hg => (kb7.alloc _).grownT (ho7.alloc (.cells #[.int .i64 (-x), .int .i64 ((m : Int) + 1), .slice A8 ks.length c8] 66)) t2 hg)
              go_wp2_with (at_builtin; refine wpList_append1 w7 [.int .i64 (-x), .int .i64 ((m : Int) + 1), .slice A8 ks.length c8] _ rfl (.tmp 70) (.tmp 88) _ rfl 66 iR _ 3 40 Try.underlying23 hi1 hy0 hy1 hy2 rfl (by decide) rfl ho7 (by omega) 1 rfl rfl (by simp [Value.oneCell']) (by omega) (by decide) ?_; intro A9 c9 w8 ho8 hg8 hb8 hz8; have kb8 := HKX.out w8 hg8; obtain ⟨x0', x1'⟩ := kb8.c2; have x2' := kb8.frozen 1)
              have kb8 := HKX.out w8 hg8
              have kz8 := (kz7.alloc (.cells #[.int .i64 (-x), .int .i64 ((m : Int) + 1), .slice A8 ks.length c8] 66)).grownT (ho7.alloc (.cells #[.int .i64 (-x), .int .i64 ((m : Int) + 1), .slice A8 ks.length c8] 66)) t2 hg8
              have od8 := od7.below hb8 (Nat.le_refl _)
              have hb8' : Below w.heap.size w w8 := hb7.trans (hb8.mono (by omega))
              have gi' := GrowInv.step ⟨-x, (m : Int) + 1, ks⟩ HLL.out hlt hlo (by omega) kb7 ho7 hcr7 (o7.mono hzS (Nat.le_refl _)) ho8 hg8 hz8
              refine ⟨⟨m + 1, by omega, by go_num, ?_, hb8'.setCell (by show w.heap.size ≤ hB; omega) _⟩, by first | (simp [intOf]; done) | (simp [intOf]; omega)⟩
              rw [HS2.out]
              refine ⟨kz8.far (by show w.heap.size ≠ hB; omega) _, od8.farT kb8 t1 1 _, ?_⟩
              show GrowInv n hB lo _ (st.rows ++ [_]).length (st.rows ++ [_])
              rw [List.length_append, HLL.out]
              exact gi'
        · obtain rfl : m = 4 := by omega
          have d4 : decide (((4 : Nat) : Int) + 1 ≤ 4) = false := by decide
          go_wp2_with (fail)
          refine ⟨⟨i + 1, by omega, by go_num, by rw [HX.out]; exact hinv, hb⟩, by first | (simp [intOf]; done) | (simp [intOf]; omega)⟩
    · obtain rfl : i = xss.length := by omega
      have q1 := cells_below hb _ _ c1
      rw [take_all (Nat.le_refl _)] at hinv
      obtain ⟨kz, _, gi⟩ := hinv
      obtain ⟨A8, c8, kc, oo⟩ := gi.rows
      have hlo := gi.2.2.1
      have hlt := gi.2.1
      clear gi
      have HCR : Hid (cofRows xss = (colAll xss).rows) := Lib.hid rfl
      have H32 : (colAll xss).rows.length ≤ 32 := HL32.out
      rw [← HCR.out] at kc oo H32
      generalize hrs : cofRows xss = rs at kc oo H32
      have HRS := Lib.hid hrs; clear hrs HCR HL32
      obtain ⟨p0, p1⟩ := kc.c2
      have hzr := kc.lt
      cases hcb : chartB n rs
      · have HF := Lib.hid (cof_full HV.out (by rw [HRS.out]; exact hcb))
        go_wp2_with (fail)
        refine (spec_l15Ok _ _ n rs A8 c8 _ oo.rowsR (by omega) p0 p1).mono ?_; rintro e w6 ⟨rfl, b6⟩
        have hb6 : Below w.heap.size w w6 := hb.trans (b6.mono (by omega))
        have kz6 := kz.below b6 (by omega)
        obtain ⟨r0, r1⟩ := kz6.c2
        have g0 := kz6.frozen 0
        have g1 := kz6.frozen 1
        rw [hcb]
        clear p0 p1
        go_wp2_with (fail)
        refine bodyPost_ret (v := .tuple #[.agg #[.int .i64 (cofX n xss).n, .slice none (cofX n xss).xs.length 0], .int .i64 (cofCode n xss)]) (by rw [HF.out.1, HF.out.2]; simp [results, Try.results89, go_sem, r0, r1]) rfl ⟨none, 0, rfl, ?_, ?_⟩
        · rw [HF.out.1]; exact OwnRows.nil _ _ _
        · (repeat (first | exact Below.refl _ _ | assumption | apply Below.drew | apply below_drewN | (refine Below.alloc ?_ (by first | omega | (simp; done) | (simp; omega)) _) | (refine Below.setCell ?_ (by first | omega | (simp; done) | (simp; omega)) _)))
      · have HF : Hid (cofX n xss = ⟨n, rs⟩ ∧ cofCode n xss = 0) := Lib.hid (by have := cof_ok HV.out (by rw [HRS.out]; exact hcb); rwa [HRS.out] at this)
        go_wp2_with (fail)
        refine (spec_l15Ok _ _ n rs A8 c8 _ oo.rowsR (by omega) p0 p1).mono ?_; rintro e w6 ⟨rfl, b6⟩
        have hb6 : Below w.heap.size w w6 := hb.trans (b6.mono (by omega))
        have kz6 := kz.below b6 (by omega)
        have kc6 := kc.below b6 (by omega)
        have oo6 := oo.below b6 (Nat.le_refl _)
        have hz6 := b6.size
        obtain ⟨r0, r1⟩ := kz6.c2
        have g0 := kz6.frozen 0
        have g1 := kz6.frozen 1
        rw [hcb]
        clear p0 p1
        obtain ⟨p0, p1⟩ := kc6.c2
        go_wp2_with (fail)
        refine bodyPost_ret (v := .tuple #[.agg #[.int .i64 (cofX n xss).n, .slice A8 (cofX n xss).xs.length c8], .int .i64 (cofCode n xss)]) (by rw [HF.out.1, HF.out.2]; simp [results, Try.results89, go_sem, r0, r1]) rfl ⟨A8, c8, rfl, ?_, ?_⟩
        · rw [HF.out.1]
          have k1 := kz6.set20 (.int .i64 n)
          exact ((oo6.farT kz6 t1 t2 0 _).farT k1 t1 t2 1 _).mono (by omega) (by simp; omega)
        · (repeat (first | exact Below.refl _ _ | assumption | apply Below.drew | apply below_drewN | (refine Below.alloc ?_ (by first | omega | (simp; done) | (simp; omega)) _) | (refine Below.setCell ?_ (by first | omega | (simp; done) | (simp; omega)) _)))

set_option maxHeartbeats 1000000 in
theorem spec_ChartOfColours (n : Int) (xss : List (List Int)) (A : Option Addr) (c : Nat) (w : World) (h : Ints2 w A xss) (hl : xss.length ≤ 9223372036854775807) :
    Calls Try.prog 33 #[.agg #[.int .i64 n, .slice A xss.length c]] w fun e w' => ∃ A' c', e = .returned (.tuple #[.agg #[.int .i64 (cofX n xss).n, .slice A' (cofX n xss).xs.length c'], .int .i64 (cofCode n xss)]) ∧ OwnRows w' w.heap.size w'.heap.size A' (cofX n xss).xs.length c' (cofX n xss).xs ∧ Below w.heap.size w w' := by
  have t1 : (25 : TypeId) ≠ 2 := by decide
  have t2 : (25 : TypeId) ≠ 66 := by decide
  have hb1 : Below w.heap.size w ((w.alloc (.cells #[.int .i64 n, .slice A xss.length c] 56)).alloc (.cells #[.int .i64 0, .slice none 0 0] 25)) := by (repeat (first | exact Below.refl _ _ | assumption | apply Below.drew | apply below_drewN | (refine Below.alloc ?_ (by first | omega | (simp; done) | (simp; omega)) _) | (refine Below.setCell ?_ (by first | omega | (simp; done) | (simp; omega)) _)))
  have ka := (Blk.new w 56 #[.int .i64 n, .slice A xss.length c]).alloc (.cells #[.int .i64 0, .slice none 0 0] 25)
  have kz : Blk ((w.alloc (.cells #[.int .i64 n, .slice A xss.length c] 56)).alloc (.cells #[.int .i64 0, .slice none 0 0] 25)) (w.heap.size + 1) 25 #[.int .i64 0, .slice none 0 0] := by simpa using Blk.new (w.alloc (.cells #[.int .i64 n, .slice A xss.length c] 56)) 25 #[.int .i64 0, .slice none 0 0]
  cases hv : coloursB n xss
  · have HF := Lib.hid (cof_bad hv)
    go_enter Try.func33, Try.ntmps33
    go_wp2_with (fail)
    refine (spec_l19Ok _ _ n A c xss _ (h.below hb1) hl ka.c2.1 ka.c2.2).mono ?_; rintro e w2 ⟨rfl, hdr⟩
    have hb2 : Below w.heap.size w w2 := by obtain ⟨q, rfl⟩ := hdr; exact below_drewN hb1 q
    have kz2 : Blk w2 (w.heap.size + 1) 25 #[.int .i64 0, .slice none 0 0] := by obtain ⟨q, rfl⟩ := hdr; exact kz.drewN q
    obtain ⟨r0, r1⟩ := kz2.c2
    have g0 := kz2.frozen 0
    have g1 := kz2.frozen 1
    rw [hv]
    clear hdr
    go_wp2_with (fail)
    refine bodyPost_ret (v := .tuple #[.agg #[.int .i64 (cofX n xss).n, .slice none (cofX n xss).xs.length 0], .int .i64 (cofCode n xss)]) (by rw [HF.out.1, HF.out.2]; simp [results, Try.results33, go_sem, r0, r1]) rfl ⟨none, 0, rfl, ?_, ?_⟩
    · rw [HF.out.1]; exact OwnRows.nil _ _ _
    · (repeat (first | exact Below.refl _ _ | assumption | apply Below.drew | apply below_drewN | (refine Below.alloc ?_ (by first | omega | (simp; done) | (simp; omega)) _) | (refine Below.setCell ?_ (by first | omega | (simp; done) | (simp; omega)) _)))
  · have HV := Lib.hid hv
    go_enter Try.func33, Try.ntmps33
    go_wp2_with (fail)
    refine (spec_l19Ok _ _ n A c xss _ (h.below hb1) hl ka.c2.1 ka.c2.2).mono ?_; rintro e w2 ⟨rfl, hdr⟩
    have hb2 : Below w.heap.size w w2 := by obtain ⟨q, rfl⟩ := hdr; exact below_drewN hb1 q
    have kz2 : Blk w2 (w.heap.size + 1) 25 #[.int .i64 0, .slice none 0 0] := by obtain ⟨q, rfl⟩ := hdr; exact kz.drewN q
    have ka2 : Blk w2 w.heap.size 56 #[.int .i64 n, .slice A xss.length c] := by obtain ⟨q, rfl⟩ := hdr; exact ka.drewN q
    have hz2 := kz2.lt
    rw [hv]
    clear hdr hv
    go_wp2_with (fail)
    refine (spec_l19Chart _ _ n xss A c _ (h.below hb2) HV.out ka2.c2.1 ka2.c2.2).mono ?_; rintro e w4 ⟨A4, c4, rfl, o4, b4⟩
    have hb4 : Below w.heap.size w w4 := hb2.trans (b4.mono (by omega))
    have kz4 := kz2.below b4 hz2
    have hz4 := b4.size
    obtain ⟨r0, r1⟩ := kz4.c2
    have g0 := kz4.frozen 0
    have g1 := kz4.frozen 1
    obtain ⟨X, hX⟩ : ∃ X, X = cofX n xss := ⟨_, rfl⟩
    obtain ⟨Y, hY⟩ : ∃ Y, Y = cofCode n xss := ⟨_, rfl⟩
    rw [← hX] at o4 ⊢
    rw [← hY]
    have HX := Lib.hid hX; clear hX
    have HY := Lib.hid hY; clear hY
    go_wp2_with (fail)
    refine bodyPost_ret (v := .tuple #[.agg #[.int .i64 (cofX n xss).n, .slice A4 (cofX n xss).xs.length c4], .int .i64 (cofCode n xss)]) (by rw [← HX.out, ← HY.out]; simp [results, Try.results33, go_sem, r0, r1]) rfl ⟨A4, c4, rfl, ?_, ?_⟩
    · rw [← HX.out]
      have k1 := kz4.set20 (.int .i64 X.n)
      exact ((o4.farT kz4 t1 t2 0 _).farT k1 t1 t2 1 _).mono (by omega) (by simp)
    · (repeat (first | exact Below.refl _ _ | assumption | apply Below.drew | apply below_drewN | (refine Below.alloc ?_ (by first | omega | (simp; done) | (simp; omega)) _) | (refine Below.setCell ?_ (by first | omega | (simp; done) | (simp; omega)) _)))

end Go.Proofs.Ytnilglkiojigjaa
