/- Steps of the proof, joined from several texts: PKi PKt CB TH. -/
import Derived.Test.YtnjgmhdmjaijgaaGreatZ4
import Derived.Test.YtnjgmhdmjaijgaaGreatZ7
import Derived.Test.YtnjgmhdmjaijgaaGreatZ6

/- packed. -/
namespace Go.Proofs.YtnjgmhdmjaijgaaGreat
open Go.RowKit

theorem Below.drew' {B : Nat} {w w' : World} (h : Below B w w') : Below B w (World.drew w') := h.trans ⟨rfl, rfl, rfl, Nat.le_refl _, fun _ _ => rfl⟩

set_option maxHeartbeats 4000000 in
set_option maxRecDepth 10000 in
theorem impl_packed (A : Option Addr) (c : Nat) (xs : List Int) (w : World) (h : Ints w A xs) (hl : xs.length ≤ 1000) (hs : smallB xs) :
    Calls Tryz.prog 49 #[.slice A xs.length c] w fun e w' => ∃ A' c', e = .returned (.slice A' (pack xs).length c') ∧ OwnII w' w.heap.size w'.heap.size A' (pack xs).length c' (pack xs) ∧ Below w.heap.size w w' := by
  have hmf : ∀ (fn : Fn) (first cap : Array Value) (w : World), (Instr.makeFunc fn first cap).run Tryz.prog w = .ok (.func fn first cap) w := fun _ _ _ _ => rfl
  obtain ⟨i0, hi0, hz0, hz1, hz2⟩ := info_parts info_ints
  obtain ⟨i1, hi1, hy0, hy1, hy2⟩ := info_parts info_int64
  go_enter Tryz.func49, Tryz.ntmps49
  go_wp2_with (fail)
  go_loopw [3, 9] (fun ov iv wr => ∃ (k : Nat), k ≤ xs.length ∧ iv = .int .i64 k ∧ Below w.heap.size w wr ∧
      ((packS (xs.take k) = none ∧ ∃ A' c', ov = .slice A' 0 c' ∧ OwnC wr w.heap.size wr.heap.size 36 1 A' 0 c' []) ∨
       (∃ xss l A' c' A2 c2 m cs, packS (xs.take k) = some (xss, l) ∧ ov = .slice A' (xss.length + 1) c' ∧ OwnL wr w.heap.size wr.heap.size A' c' xss l A2 c2 m cs))) (fun _ iv _ => xs.length - (intOf iv).toNat)
  case atStart =>
    exact ⟨0, Nat.zero_le _, rfl, by (repeat (first | exact Below.refl _ _ | assumption | apply Below.drew | apply below_drewN | (refine Below.alloc ?_ (by first | omega | (simp; done) | (simp; omega)) _) | (refine Below.setCell ?_ (by first | omega | (simp; done) | (simp; omega)) _))), .inl ⟨rfl, some ⟨w.heap.size, 0, none⟩, 0, rfl, (OwnC.lit _ 1 #[] (Nat.le_refl _) (Nat.zero_le _) rfl).mono (Nat.le_refl _) (by simp)⟩⟩
  case round =>
    obtain ⟨k, hk, rfl, hb, hrel⟩ := hrel
    have hzs := hb.size
    by_cases hlt : k < xs.length
    · obtain ⟨b, off, x, rfl, hc, hx⟩ := h k hlt
      replace hc := cells_below hb _ _ hc
      have hxs := smallB_at hs hx
      have HT : Hid (xs.take (k + 1) = xs.take k ++ [x]) := Lib.hid (take_snoc hx)
      clear hx
      rcases hrel with ⟨hp, A', c', rfl, ho⟩ | ⟨xss, l, A', c', A2, c2, m, cs, hp, rfl, ho⟩
      · have HP : Hid (packS (xs.take (k + 1)) = some ([], [] ++ [x])) := Lib.hid (by rw [HT.out, packS_none hp]; rfl)
        clear hp
        have ho' := ho.alloc (.cells #[.int .i64 x] 2)
        go_wp2_with (at_builtin; refine wpList_append1q (wr.alloc (.cells #[.int .i64 x] 2)) (wr.heap.size + 1) (by simp) [.slice none 0 0] _ rfl (.tmp 26) (.tmp 27) _ rfl 36 i0 _ 1 24 Tryz.underlying46 hi0 hz0 hz1 hz2 rfl (by decide) rfl ho' (by simp; omega) 1 rfl rfl (by simp [Value.oneCell']) (by omega) (by decide) ?_; intro A3 c3 w3 ho3 hg3 hb3' hz3)
        have hb3 : Below w.heap.size w w3 := Below.trans (by (repeat (first | exact Below.refl _ _ | assumption | apply Below.drew | apply below_drewN | (refine Below.alloc ?_ (by first | omega | (simp; done) | (simp; omega)) _) | (refine Below.setCell ?_ (by first | omega | (simp; done) | (simp; omega)) _)))) hb3'
        have p5 : w3.cell? ⟨wr.heap.size, 0, none⟩ = some (.int .i64 x) := by
          have k5 : Blk w3 wr.heap.size 2 #[.int .i64 x] := by
            have := ((Blk.new wr 2 #[.int .i64 x]).alloc (.cells #[.slice none 0 0] 36))
            refine (hg3.block _ (by simp only [World.size_alloc]; omega) fun e => ?_).trans this
            have := (ho.own.lt _ e.symm).2
            omega
          exact k5.c1
        have o6 : OwnL w3 w.heap.size w3.heap.size A3 c3 [] [] none 0 w3.heap.size [] := OwnL.one w3.heap.size ho3 (OwnC.nil _ _ _ _ _) (by have := hb3.size; omega) (Nat.le_refl _)
        obtain ⟨g3, rfl, hg1, hg2, s0, f0⟩ := o6.cell
        have HO6 := Lib.hid o6; clear o6
        simp only [List.length_nil] at s0 f0
        have j0 : IntKind.i64.wrap 0 = 0 := rfl
        have q3 : (World.drew (w3.alloc (.cells #[.int .i64 x] 2))).cell? ⟨g3, 0, none⟩ = some (.slice none 0 0) := cell_alloc (w := w3) s0 _
        have q5 : (World.drew (w3.alloc (.cells #[.int .i64 x] 2))).cell? ⟨wr.heap.size, 0, none⟩ = some (.int .i64 x) := cell_alloc (w := w3) p5 _
        go_region_law (refine step_append1d [.int .i64 x] _ rfl (.tmp 38) (.tmp 40) _ rfl 2 i1 _ 1 8 Tryz.underlying36 hi1 hy0 hy1 hy2 rfl (by decide) (by simp [Act.eval]) (OwnC.keep HO6.out.last fun _ _ _ _ => rfl) (show w3.heap.size ≤ w3.heap.size from HO6.out.mhi) 1 (by simp [Act.eval]) rfl (by simp [Value.oneCell']) (by first | omega | simp) (by decide) ?_; intro A4 c4 w4 ho4 hg4 hb4 hz4; have ho5 : OwnI w4 w3.heap.size w4.heap.size A4 c4 ([] ++ [x]) := (by show OwnC _ _ _ _ _ _ _ _ _; rw [List.map_append, List.length_append]; exact ho4); obtain ⟨hput, s0, s1⟩ := OwnL.put (l2 := [] ++ [x]) (A2 := A4) (c2 := c4) ((HO6.out.alloc (.cells #[.int .i64 x] 2)).keep (w' := World.drew (w3.alloc (.cells #[.int .i64 x] 2))) fun _ _ _ _ => rfl) (show w3.heap.size ≤ (w3.alloc (.cells #[.int .i64 x] 2)).heap.size by simp only [World.size_alloc]; exact Nat.le_succ _) hg4 ho5; try simp only [List.length_nil] at s0 s1)
        all_goals go_wp2_with (fail)
        all_goals
          have hbw : Below w.heap.size w w4 := hb3.trans (hb4.mono HO6.out.lom)
          refine ⟨⟨k + 1, by omega, by go_num, by (repeat (first | exact Below.refl _ _ | assumption | apply Below.drew | apply below_drewN | (refine Below.alloc ?_ (by first | omega | (simp; done) | (simp; omega)) _) | (refine Below.setCell ?_ (by first | omega | (simp; done) | (simp; omega)) _))), .inr ⟨[], [] ++ [x], some ⟨g3, 0, none⟩, c3, A4, c4, w3.heap.size, [], HP.out, by simp, by simpa using hput⟩⟩, by simp [intOf]; omega⟩
      · obtain ⟨hl1, hl2⟩ := packS_len hp
        have hls : smallB l := packS_mem (P := fun y => -1000 ≤ y ∧ y ≤ 1000) hp fun y hy => hs y (List.mem_of_mem_take hy)
        have htk : (xs.take k).length ≤ 1000 := by rw [List.length_take]; omega
        obtain ⟨g, rfl, hg1, hg2, q0, f0⟩ := ho.cell
        have j3 : (0 : Int) ≤ (xss.length : Int) := by omega
        have j7 : IntKind.i64.wrap (xss.length : Int) = (xss.length : Int) := IntWalk.i64_in _ (by omega)
        have j5 : (xss.length : Int) < (xss.length : Int) + 1 := by omega
        have j6 : ((xss.length : Int) + 1 == 0) = false := by simp; omega
        have q1 := cell_alloc q0 (.cells #[.int .i64 x] 2)
        have HI := Lib.hid (ho.last.ints)
        have hll : l.length ≤ 1000 := by omega
        cases ht : touchAny l x
        · have HP : Hid (packS (xs.take (k + 1)) = some (xss, l ++ [x])) := Lib.hid (by rw [HT.out, packS_some hp]; simp [packStep, ht])
          clear hp
          have HO := Lib.hid ho; clear ho
          go_wp2_with (go_at_call 54; refine (containsFunc_impl_packed_1 x wr.heap.size A2 c2 l _ (HI.out.below (by (repeat (first | exact Below.refl _ _ | assumption | apply Below.drew | apply below_drewN | (refine Below.alloc ?_ (by first | omega | (simp; done) | (simp; omega)) _) | (refine Below.setCell ?_ (by first | omega | (simp; done) | (simp; omega)) _))))) (by omega) hls hxs (by simp)).mono ?_; rintro e _ ⟨rfl, rfl⟩)
          have p5 : (wr.alloc (.cells #[.int .i64 x] 2)).cell? ⟨wr.heap.size, 0, none⟩ = some (.int .i64 x) := (Blk.new wr 2 #[.int .i64 x]).c1
          have hb3 : Below w.heap.size w (wr.alloc (.cells #[.int .i64 x] 2)) := by (repeat (first | exact Below.refl _ _ | assumption | apply Below.drew | apply below_drewN | (refine Below.alloc ?_ (by first | omega | (simp; done) | (simp; omega)) _) | (refine Below.setCell ?_ (by first | omega | (simp; done) | (simp; omega)) _)))
          have o6 : OwnL (wr.alloc (.cells #[.int .i64 x] 2)) w.heap.size (wr.alloc (.cells #[.int .i64 x] 2)).heap.size (some ⟨g, 0, none⟩) c' xss l A2 c2 m cs := (HO.out.alloc _).mono' (by simp)
          have s0 := q1
          generalize wr.alloc (.cells #[.int .i64 x] 2) = w3 at p5 hb3 o6 s0 q1 ⊢
          have HO6 := Lib.hid o6; clear o6
          have q3 : (World.drew (w3.alloc (.cells #[.int .i64 x] 2))).cell? ⟨g, xss.length, none⟩ = some (.slice A2 l.length c2) := cell_alloc (w := w3) s0 _
          have q5 : (World.drew (w3.alloc (.cells #[.int .i64 x] 2))).cell? ⟨wr.heap.size, 0, none⟩ = some (.int .i64 x) := cell_alloc (w := w3) p5 _
          go_region_law (refine step_append1d [.int .i64 x] _ rfl (.tmp 38) (.tmp 40) _ rfl 2 i1 _ 1 8 Tryz.underlying36 hi1 hy0 hy1 hy2 rfl (by decide) (by simp [Act.eval]) (OwnC.keep HO6.out.last fun _ _ _ _ => rfl) (show m ≤ w3.heap.size from HO6.out.mhi) 1 (by simp [Act.eval]) rfl (by simp [Value.oneCell']) (by first | omega | simp) (by decide) ?_; intro A4 c4 w4 ho4 hg4 hb4 hz4; have ho5 : OwnI w4 m w4.heap.size A4 c4 (l ++ [x]) := (by show OwnC _ _ _ _ _ _ _ _ _; rw [List.map_append, List.length_append]; exact ho4); obtain ⟨hput, s0, s1⟩ := OwnL.put (l2 := l ++ [x]) (A2 := A4) (c2 := c4) ((HO6.out.alloc (.cells #[.int .i64 x] 2)).keep (w' := World.drew (w3.alloc (.cells #[.int .i64 x] 2))) fun _ _ _ _ => rfl) (show w3.heap.size ≤ (w3.alloc (.cells #[.int .i64 x] 2)).heap.size by simp only [World.size_alloc]; exact Nat.le_succ _) hg4 ho5; try simp only [List.length_append, List.length_cons, List.length_nil, Nat.zero_add, Nat.add_zero] at s0 s1)
          all_goals go_wp2_with (fail)
          all_goals
            have hbw : Below w.heap.size w w4 := hb3.trans (hb4.mono HO6.out.lom)
            refine ⟨⟨k + 1, by omega, by go_num, by (repeat (first | exact Below.refl _ _ | assumption | apply Below.drew | apply below_drewN | (refine Below.alloc ?_ (by first | omega | (simp; done) | (simp; omega)) _) | (refine Below.setCell ?_ (by first | omega | (simp; done) | (simp; omega)) _))), .inr ⟨xss, l ++ [x], some ⟨g, 0, none⟩, c', A4, c4, m, cs, HP.out, by simp, by simpa using hput⟩⟩, by simp [intOf]; omega⟩
        · have HP : Hid (packS (xs.take (k + 1)) = some (xss ++ [l], [] ++ [x])) := Lib.hid (by rw [HT.out, packS_some hp]; simp [packStep, ht])
          clear hp
          have ho' := ho.out.alloc (.cells #[.int .i64 x] 2)
          have HO := Lib.hid ho; clear ho
          go_wp2_with (first | (go_at_call 54; refine (containsFunc_impl_packed_1 x wr.heap.size A2 c2 l _ (HI.out.below (by (repeat (first | exact Below.refl _ _ | assumption | apply Below.drew | apply below_drewN | (refine Below.alloc ?_ (by first | omega | (simp; done) | (simp; omega)) _) | (refine Below.setCell ?_ (by first | omega | (simp; done) | (simp; omega)) _))))) (by omega) hls hxs (by simp)).mono ?_; rintro e _ ⟨rfl, rfl⟩) | (at_builtin; refine wpList_append1q (wr.alloc (.cells #[.int .i64 x] 2)) (wr.heap.size + 1) (by simp) [.slice none 0 0] _ rfl (.tmp 26) (.tmp 27) _ rfl 36 i0 _ 1 24 Tryz.underlying46 hi0 hz0 hz1 hz2 rfl (by decide) rfl ho' (by simp; omega) 1 rfl rfl (by simp [Value.oneCell']) (by omega) (by decide) ?_; intro A3 c3 w3 ho3 hg3 hb3' hz3))
          have hb3 : Below w.heap.size w w3 := Below.trans (by (repeat (first | exact Below.refl _ _ | assumption | apply Below.drew | apply below_drewN | (refine Below.alloc ?_ (by first | omega | (simp; done) | (simp; omega)) _) | (refine Below.setCell ?_ (by first | omega | (simp; done) | (simp; omega)) _)))) hb3'
          have p5 : w3.cell? ⟨wr.heap.size, 0, none⟩ = some (.int .i64 x) := by
            have k5 : Blk w3 wr.heap.size 2 #[.int .i64 x] := by
              have := ((Blk.new wr 2 #[.int .i64 x]).alloc (.cells #[.slice none 0 0] 36))
              refine (hg3.block _ (by simp only [World.size_alloc]; omega) fun e => ?_).trans this
              injection e with e
              have e2 : wr.heap.size = g := e
              omega
            exact k5.c1
          have o6 : OwnL w3 w.heap.size w3.heap.size A3 c3 (xss ++ [l]) [] none 0 wr.heap.size (cs ++ [.slice A2 l.length c2]) := by
            refine OwnL.next HO.out (fun q cur h1 h2 h3 => ?_) (by have := hb3'.size; simp at hz3; omega) ho3 (OwnC.nil _ _ _ _ _)
            have hq : q < wr.heap.size := (Array.getElem?_eq_some_iff.1 h3).1
            rw [hg3.block q (by simp only [World.size_alloc]; omega) (fun e => by injection e with e; exact HO.out.ne q cur h3 e), Below.heap_alloc _ _ _ (by simp only [World.size_alloc]; omega), Below.heap_alloc _ _ _ (by omega)]
          obtain ⟨g3, rfl, hg1, hg2, s0, f0⟩ := o6.cell
          have HO6 := Lib.hid o6; clear o6
          simp only [List.length_append, List.length_cons, List.length_nil, Nat.zero_add] at s0 f0
          have j8 : ((xss.length : Int) + 1).toNat = xss.length + 1 := by omega
          have j9 : IntKind.i64.wrap ((xss.length : Int) + 1) = (xss.length : Int) + 1 := IntWalk.i64_in _ (by omega)
          have j10 : (0 : Int) ≤ (xss.length : Int) + 1 := by omega
          have q3 : (World.drew (w3.alloc (.cells #[.int .i64 x] 2))).cell? ⟨g3, xss.length + 1, none⟩ = some (.slice none 0 0) := cell_alloc (w := w3) s0 _
          have q5 : (World.drew (w3.alloc (.cells #[.int .i64 x] 2))).cell? ⟨wr.heap.size, 0, none⟩ = some (.int .i64 x) := cell_alloc (w := w3) p5 _
          go_region_law (refine step_append1d [.int .i64 x] _ rfl (.tmp 38) (.tmp 40) _ rfl 2 i1 _ 1 8 Tryz.underlying36 hi1 hy0 hy1 hy2 rfl (by decide) (by simp [Act.eval]) (OwnC.keep HO6.out.last fun _ _ _ _ => rfl) (show wr.heap.size ≤ w3.heap.size from HO6.out.mhi) 1 (by simp [Act.eval]) rfl (by simp [Value.oneCell']) (by first | omega | simp) (by decide) ?_; intro A4 c4 w4 ho4 hg4 hb4 hz4; have ho5 : OwnI w4 wr.heap.size w4.heap.size A4 c4 ([] ++ [x]) := (by show OwnC _ _ _ _ _ _ _ _ _; rw [List.map_append, List.length_append]; exact ho4); obtain ⟨hput, s0, s1⟩ := OwnL.put (l2 := [] ++ [x]) (A2 := A4) (c2 := c4) ((HO6.out.alloc (.cells #[.int .i64 x] 2)).keep (w' := World.drew (w3.alloc (.cells #[.int .i64 x] 2))) fun _ _ _ _ => rfl) (show w3.heap.size ≤ (w3.alloc (.cells #[.int .i64 x] 2)).heap.size by simp only [World.size_alloc]; exact Nat.le_succ _) hg4 ho5; try simp only [List.length_append, List.length_cons, List.length_nil, Nat.zero_add] at s0 s1)
          all_goals go_wp2_with (fail)
          all_goals
            have hbw : Below w.heap.size w w4 := hb3.trans (hb4.mono HO6.out.lom)
            refine ⟨⟨k + 1, by omega, by go_num, by (repeat (first | exact Below.refl _ _ | assumption | apply Below.drew | apply below_drewN | (refine Below.alloc ?_ (by first | omega | (simp; done) | (simp; omega)) _) | (refine Below.setCell ?_ (by first | omega | (simp; done) | (simp; omega)) _))), .inr ⟨(xss ++ [l]), [] ++ [x], some ⟨g3, 0, none⟩, c3, A4, c4, wr.heap.size, (cs ++ [.slice A2 l.length c2]), HP.out, by simp, by simpa using hput⟩⟩, by simp [intOf]; omega⟩
    · go_wp2_with (fail)
      go_ret
      rw [take_all (by omega)] at hrel
      rcases hrel with ⟨hp, A', c', rfl, ho⟩ | ⟨xss, l, A', c', A2, c2, m, cs, hp, rfl, ho⟩
      · rw [pack_of_none hp]
        exact ⟨_, _, rfl, ⟨[], ho, ⟨rfl, fun k xs hx => by simp at hx, fun i j v v' g hi' => by simp at hi'⟩⟩, hb⟩
      · rw [pack_of_some hp]
        exact ⟨_, _, by rw [List.length_append]; rfl, ho.toII, hb⟩



end Go.Proofs.YtnjgmhdmjaijgaaGreat

/- PackLetters. -/
namespace Go.Proofs.YtnjgmhdmjaijgaaGreat
open Go.RowKit

theorem impl_PackLetters (n : Int) (xs : List Int) (A : Option Addr) (c : Nat) (w : World) (h : Ints w A xs) (hl : xs.length ≤ 9223372036854775807) :
    Calls Tryz.prog 19 #[.agg #[.int .i64 n, .slice A xs.length c]] w fun e w' => ∃ A' c', e = .returned (.tuple #[.slice A' (packP n xs).length c', .bool (braidB n xs)]) ∧ OwnII w' w.heap.size w'.heap.size A' (packP n xs).length c' (packP n xs) ∧ Below w.heap.size w w' := by
  by_cases hv : braidB n xs = true
  · have HF : Hid (packP n xs = pack xs ∧ braidB n xs = true) := Lib.hid ⟨by rw [packP, if_pos hv], hv⟩
    have hv4 := (braidB_of hv).2.2.1
    have HV := Lib.hid hv
    go_enter Tryz.func19, Tryz.ntmps19
    go_wp2_with (fail)
    refine (impl_ValidBraid n xs A c _ (h.below (by (repeat (first | exact Below.refl _ _ | assumption | apply Below.drew | apply below_drewN | (refine Below.alloc ?_ (by first | omega | (simp; done) | (simp; omega)) _) | (refine Below.setCell ?_ (by first | omega | (simp; done) | (simp; omega)) _))))) hl).mono ?_; rintro e w2 ⟨rfl, b2'⟩
    have b2 : Below w.heap.size w w2 := Below.trans (by (repeat (first | exact Below.refl _ _ | assumption | apply Below.drew | apply below_drewN | (refine Below.alloc ?_ (by first | omega | (simp; done) | (simp; omega)) _) | (refine Below.setCell ?_ (by first | omega | (simp; done) | (simp; omega)) _)))) (b2'.mono (by first | omega | (simp; done) | (simp; omega)))
    have k2 : Blk w2 w.heap.size 38 #[.int .i64 n, .slice A xs.length c] := (Blk.new _ _ _).below b2' (by first | omega | (simp; done) | (simp; omega))
    have z2 := b2'.size
    simp only [World.size_alloc] at z2
    clear b2'
    obtain ⟨s0, s1⟩ := k2.c2
    go_wp2_with (fail)
    refine (impl_packed A c xs _ (h.below b2) (by omega) (smallB_of HV.out)).mono ?_; rintro e w3 ⟨A3, c3, rfl, o3, b3⟩
    go_wp2_with (fail)
    go_ret2
    rw [HF.out.1, HF.out.2]
    exact ⟨_, _, rfl, o3.mono (by omega) (Nat.le_refl _), b2.trans (b3.mono (by omega))⟩
  · have hv' : braidB n xs = false := by simpa using hv
    have HF : Hid (packP n xs = [] ∧ braidB n xs = false) := Lib.hid ⟨by rw [packP, if_neg hv], hv'⟩
    clear hv
    go_enter Tryz.func19, Tryz.ntmps19
    go_wp2_with (fail)
    refine (impl_ValidBraid n xs A c _ (h.below (by (repeat (first | exact Below.refl _ _ | assumption | apply Below.drew | apply below_drewN | (refine Below.alloc ?_ (by first | omega | (simp; done) | (simp; omega)) _) | (refine Below.setCell ?_ (by first | omega | (simp; done) | (simp; omega)) _))))) hl).mono ?_; rintro e w2 ⟨rfl, b2'⟩
    have b2 : Below w.heap.size w w2 := Below.trans (by (repeat (first | exact Below.refl _ _ | assumption | apply Below.drew | apply below_drewN | (refine Below.alloc ?_ (by first | omega | (simp; done) | (simp; omega)) _) | (refine Below.setCell ?_ (by first | omega | (simp; done) | (simp; omega)) _)))) (b2'.mono (by first | omega | (simp; done) | (simp; omega)))
    go_wp2_with (fail)
    go_ret2
    rw [HF.out.1, HF.out.2]
    exact ⟨_, _, rfl, ⟨[], OwnC.nil _ _ _ _ _, ⟨rfl, fun k xs hx => by simp at hx, fun i j v v' g hi' => by simp at hi'⟩⟩, b2⟩

end Go.Proofs.YtnjgmhdmjaijgaaGreat

/- ChartOfBraid: the plain function; slices of rows that grow. -/
namespace Go.Proofs.YtnjgmhdmjaijgaaGreat
open Go.RowKit

structure ChX where
  n : Int
  xs : List RowD
def rowsFrom (n : Nat) (car : Int) : List (List Int) → Int → List RowD
  | [], _ => []
  | g :: gs, d => ⟨d, car, rowFrom n g 0⟩ :: rowsFrom n car gs (-d)
def groupsOf (xs : List Int) : List (List Int) := if pack xs = [] then [[]] else pack xs
def cobCode (n : Int) (xs : List Int) (car : Int) : Int := if braidB n xs then (if inR n 1 8 && carrierB car then (if (pack xs).length ≤ 8 then 0 else 5) else 2) else 1
def cobX (n : Int) (xs : List Int) (car : Int) : ChX := if cobCode n xs car = 0 then ⟨n, rowsFrom n.toNat car (groupsOf xs) (-1)⟩ else ⟨0, []⟩
theorem rowsFrom_length (n : Nat) (car : Int) (gs : List (List Int)) (d : Int) : (rowsFrom n car gs d).length = gs.length := by
  induction gs generalizing d with
  | nil => rfl
  | cons g gs ih => simp [rowsFrom, ih]
theorem rowsFrom_len (n : Nat) (car : Int) (gs : List (List Int)) (d : Int) : lenRows (rowsFrom n car gs d) ≤ gs.length * n := by
  induction gs generalizing d with
  | nil => simp [rowsFrom, lenRows]
  | cons g gs ih =>
    have h1 := ih (-d)
    have h2 := rowFrom_length n g n 0 (by omega)
    simp only [rowsFrom, lenRows, List.length_cons, Nat.succ_mul]
    omega
theorem cobX_size (n : Int) (xs : List Int) (car : Int) : (cobX n xs car).xs.length ≤ 9 ∧ cntRows (cobX n xs car).xs ≤ 1000 := by
  unfold cobX
  split
  · rename_i h
    have hp : (pack xs).length ≤ 8 ∧ n ≤ 8 := by
      unfold cobCode at h
      split at h
      · split at h
        · rename_i h2
          simp only [Bool.and_eq_true] at h2
          have := inR_iff.1 h2.1
          split at h
          · exact ⟨by assumption, this.2⟩
          · simp at h
        · simp at h
      · simp at h
    have hg : (groupsOf xs).length ≤ 8 := by
      unfold groupsOf
      split
      · simp
      · exact hp.1
    have h1 := rowsFrom_length n.toNat car (groupsOf xs) (-1)
    have h2 := rowsFrom_len n.toNat car (groupsOf xs) (-1)
    have h3 : (groupsOf xs).length * n.toNat ≤ 8 * 8 := Nat.mul_le_mul hg (by omega)
    refine ⟨by simp only []; omega, ?_⟩
    unfold cntRows
    simp only []
    omega
  · simp [cntRows, lenRows]
theorem cob_err {n : Int} {xs : List Int} {car k : Int} (e : cobCode n xs car = k) (hk : k ≠ 0) : cobX n xs car = ⟨0, []⟩ ∧ cobCode n xs car = k := ⟨by rw [cobX, if_neg (by rw [e]; exact hk)], e⟩
theorem rowsFrom_drop {n : Nat} {car : Int} {gs : List (List Int)} {i : Nat} {g : List Int} {d : Int} (h : gs[i]? = some g) : rowsFrom n car (gs.drop i) d = ⟨d, car, rowFrom n g 0⟩ :: rowsFrom n car (gs.drop (i + 1)) (-d) := by rw [drop_cons h, rowsFrom]

theorem CellsRows.keepT {w w' : World} {lo hi : Nat} {cs : List Value} {rs : List RowD} (h : CellsRows w lo hi cs rs) (hk : ∀ k cur, lo ≤ k → k < hi → w.heap[k]? = some (.cells cur 2 (0, 0)) → w'.heap[k]? = w.heap[k]?) : CellsRows w' lo hi cs rs :=
  ⟨h.1, fun k r hx => by obtain ⟨A', c', h0, h1, h2, h3⟩ := h.2.1 k r hx; exact ⟨A', c', h0, h1, h2, h3.keepT hk⟩, h.2.2⟩
theorem CellsRows.grownT {w w' : World} {lo hi : Nat} {cs : List Value} {rs : List RowD} {lo2 hi2 : Nat} {e2 : TypeId} {sz2 : Nat} {B : Option Addr} {n2 c2 : Nat} {cs2 : List Value}
    (h : CellsRows w lo hi cs rs) (h2 : OwnC w lo2 hi2 e2 sz2 B n2 c2 cs2) (ht : (2 : TypeId) ≠ e2) (hg : w.grownBy w' (Value.slice B n2 c2).ownBlock) : CellsRows w' lo hi cs rs :=
  ⟨h.1, fun k r hx => by obtain ⟨A', c', h0, h1, h3, h4⟩ := h.2.1 k r hx; exact ⟨A', c', h0, h1, h3, h4.grownT h2 ht hg⟩, h.2.2⟩
theorem CellsRows.farT {w : World} {lo hi : Nat} {cs : List Value} {rs : List RowD} {g : Nat} {t : TypeId} {bs : Array Value} (h : CellsRows w lo hi cs rs) (hb : Blk w g t bs) (ht : t ≠ 2) (j : Nat) (u : Value) : CellsRows (w.setCell ⟨g, j, none⟩ u) lo hi cs rs :=
  ⟨h.1, fun k r hx => by obtain ⟨A', c', h0, h1, h3, h4⟩ := h.2.1 k r hx; exact ⟨A', c', h0, h1, h3, h4.farT hb ht j u⟩, h.2.2⟩
/-- One more row, its stitches in blocks behind those of the others. -/
theorem CellsRows.snoc {w : World} {lo m hi : Nat} {cs : List Value} {rs : List RowD} {A' : Option Addr} {c' : Nat} {r : RowD}
    (h : CellsRows w lo m cs rs) (ho : OwnI w m hi A' c' r.s) (h1 : lo ≤ m) (h2 : m ≤ hi) : CellsRows w lo hi (cs ++ [.int .i64 r.d, .int .i64 r.r, .slice A' r.s.length c']) (rs ++ [r]) := by
  have hB : ∀ {i : Nat} {v : Value} {g : Nat}, cs[i]? = some v → v.ownBlock = some g → lo ≤ g ∧ g < m := fun hi' hv => by have := h.block hi' hv; exact ⟨this.1, this.2.1⟩
  obtain ⟨ha, hb, hc⟩ := h
  have at2 : ∀ i v, ¬ i < cs.length → (cs ++ [.int .i64 r.d, .int .i64 r.r, .slice A' r.s.length c'])[i]? = some v → (i = cs.length ∧ v = .int .i64 r.d) ∨ (i = cs.length + 1 ∧ v = .int .i64 r.r) ∨ (i = cs.length + 2 ∧ v = .slice A' r.s.length c') := by
    intro i v hn hv
    have hil := (List.getElem?_eq_some_iff.1 hv).1
    simp at hil
    rw [List.getElem?_append_right (by omega)] at hv
    have : i - cs.length = 0 ∨ i - cs.length = 1 ∨ i - cs.length = 2 := by omega
    rcases this with e | e | e
    · rw [e] at hv; simp at hv; exact .inl ⟨by omega, hv.symm⟩
    · rw [e] at hv; simp at hv; exact .inr (.inl ⟨by omega, hv.symm⟩)
    · rw [e] at hv; simp at hv; exact .inr (.inr ⟨by omega, hv.symm⟩)
  refine ⟨by simp [ha]; omega, fun k q hq => ?_, fun i j v v' g hi' hj hv hv' => ?_⟩
  · rcases Nat.lt_or_ge k rs.length with hk | hk
    · rw [List.getElem?_append_left hk] at hq
      obtain ⟨A2, c2, e0, e1, e2, e3⟩ := hb k q hq
      exact ⟨A2, c2, by rw [List.getElem?_append_left (by omega)]; exact e0, by rw [List.getElem?_append_left (by omega)]; exact e1, by rw [List.getElem?_append_left (by omega)]; exact e2, e3.mono (Nat.le_refl _) h2⟩
    · have hkl := (List.getElem?_eq_some_iff.1 hq).1
      simp at hkl
      obtain rfl : k = rs.length := by omega
      simp at hq
      subst hq
      refine ⟨A', c', ?_, ?_, ?_, ho.mono h1 (Nat.le_refl _)⟩
      · rw [List.getElem?_append_right (by omega), ha, Nat.sub_self]; rfl
      · rw [List.getElem?_append_right (by omega), ha, show rs.length * 3 + 1 - rs.length * 3 = 1 by omega]; rfl
      · rw [List.getElem?_append_right (by omega), ha, show rs.length * 3 + 2 - rs.length * 3 = 2 by omega]; rfl
  · have new : (Value.slice A' r.s.length c').ownBlock = some g → m ≤ g := fun e => (ho.own.lt g e).1
    by_cases ei : i < cs.length
    · have bi := hB (by rw [List.getElem?_append_left ei] at hi'; exact hi') hv
      by_cases ej : j < cs.length
      · rw [List.getElem?_append_left ei] at hi'
        rw [List.getElem?_append_left ej] at hj
        exact hc i j v v' g hi' hj hv hv'
      · rcases at2 j v' ej hj with ⟨_, rfl⟩ | ⟨_, rfl⟩ | ⟨_, rfl⟩
        · simp [Value.ownBlock] at hv'
        · simp [Value.ownBlock] at hv'
        · have := new hv'; omega
    · rcases at2 i v ei hi' with ⟨_, rfl⟩ | ⟨_, rfl⟩ | ⟨e1, rfl⟩
      · simp [Value.ownBlock] at hv
      · simp [Value.ownBlock] at hv
      · by_cases ej : j < cs.length
        · have bj := hB (by rw [List.getElem?_append_left ej] at hj; exact hj) hv'
          have := new hv
          omega
        · rcases at2 j v' ej hj with ⟨_, rfl⟩ | ⟨_, rfl⟩ | ⟨e2, rfl⟩
          · simp [Value.ownBlock] at hv'
          · simp [Value.ownBlock] at hv'
          · omega
theorem CellsRows.nil {w : World} {lo hi : Nat} : CellsRows w lo hi [] [] := ⟨rfl, fun k r hx => by simp at hx, fun i j v v' g hi' => by simp at hi'⟩
theorem Ints.drew1 {w : World} {A : Option Addr} {xs : List Int} (h : Ints w A xs) : Ints (World.drew w) A xs := h
/-- A box (columns, rows) whose slice of rows has grown to k rows. -/
def ChartInv (n : Int) (hB : Nat) (wB wr : World) (k : Nat) (done : List RowD) : Prop :=
  done.length = k ∧ Below hB wB wr ∧ hB < wr.heap.size ∧ ∃ A' c' cs, Blk wr hB 30 #[.int .i64 n, .slice A' k c'] ∧ OwnC wr (hB + 1) wr.heap.size 50 3 A' k c' cs ∧ CellsRows wr (hB + 1) wr.heap.size cs done
theorem ChartInv.start (n : Int) (wB : World) : ChartInv n wB.heap.size wB (wB.alloc (.cells #[.int .i64 n, .slice none 0 0] 30)) 0 [] :=
  ⟨rfl, by (repeat (first | exact Below.refl _ _ | assumption | apply Below.drew | apply below_drewN | (refine Below.alloc ?_ (by first | omega | (simp; done) | (simp; omega)) _) | (refine Below.setCell ?_ (by first | omega | (simp; done) | (simp; omega)) _))), by simp, none, 0, [], Blk.new _ _ _, OwnC.nil _ _ _ _ _, CellsRows.nil⟩
theorem ChartInv.step {n : Int} {hB k : Nat} {wB wr w4 w5 : World} {done : List RowD} {A' : Option Addr} {c' : Nat} {cs : List Value} {A4 A5 : Option Addr} {c4 c5 : Nat} (r : RowD)
    (hl : done.length = k) (hb : Below hB wB wr) (hlt : hB < wr.heap.size) (kb : Blk wr hB 30 #[.int .i64 n, .slice A' k c']) (ho : OwnC wr (hB + 1) wr.heap.size 50 3 A' k c' cs) (hc : CellsRows wr (hB + 1) wr.heap.size cs done)
    (b4 : Below wr.heap.size wr w4) (o4 : OwnI w4 wr.heap.size w4.heap.size A4 c4 r.s) (ho5 : OwnC w5 (hB + 1) w5.heap.size 50 3 A5 (k + 1) c5 (cs ++ [.int .i64 r.d, .int .i64 r.r, .slice A4 r.s.length c4]))
    (hg : (w4.alloc (.cells #[.int .i64 r.d, .int .i64 r.r, .slice A4 r.s.length c4] 50)).grownBy w5 (Value.slice A' k c').ownBlock) (hb5 : Below (hB + 1) w4 w5) (hz5 : w4.heap.size < w5.heap.size) :
    ChartInv n hB wB (w5.setCell ⟨hB, 1, none⟩ (.slice A5 (k + 1) c5)) (k + 1) (done ++ [r]) := by
  have z4 := b4.size
  have t1 : (30 : TypeId) ≠ 2 := by decide
  have t2 : (30 : TypeId) ≠ 50 := by decide
  have t3 : (2 : TypeId) ≠ 50 := by decide
  have ho4 := (ho.below b4 (Nat.le_refl _)).alloc (.cells #[.int .i64 r.d, .int .i64 r.r, .slice A4 r.s.length c4] 50)
  have kb5 := ((kb.below b4 hlt).alloc (.cells #[.int .i64 r.d, .int .i64 r.r, .slice A4 r.s.length c4] 50)).grownT ho4 t2 hg
  have hc4 : CellsRows w4 (hB + 1) wr.heap.size cs done := hc.keep fun q _ h2 _ => b4.block q h2
  have hc4' : CellsRows (w4.alloc (.cells #[.int .i64 r.d, .int .i64 r.r, .slice A4 r.s.length c4] 50)) (hB + 1) wr.heap.size cs done := hc4.keep fun q _ _ h3 => Below.heap_alloc w4 _ q h3
  have hc5 := hc4'.grownT ho4 t3 hg
  have o5 := (o4.alloc (.cells #[.int .i64 r.d, .int .i64 r.r, .slice A4 r.s.length c4] 50)).grownT ho4 t3 hg
  have b5 : Below hB wB w5 := (hb.trans (b4.mono (by omega))).trans (hb5.mono (by omega))
  refine ⟨by simp [hl], by (repeat (first | exact Below.refl _ _ | assumption | apply Below.drew | apply below_drewN | (refine Below.alloc ?_ (by first | omega | (simp; done) | (simp; omega)) _) | (refine Below.setCell ?_ (by first | omega | (simp; done) | (simp; omega)) _))), by simp; omega, A5, c5, cs ++ [.int .i64 r.d, .int .i64 r.r, .slice A4 r.s.length c4], by simpa using kb5.set21 (.slice A5 (k + 1) c5), ?_, ?_⟩
  · exact (ho5.farT kb5 t2 1 _).mono (Nat.le_refl _) (by simp)
  · exact ((hc5.snoc o5 (by omega) (by omega)).farT kb5 t1 1 _).mono (Nat.le_refl _) (by simp; omega)
theorem ChartInv.rows {n : Int} {hB k : Nat} {wB wr : World} {done : List RowD} (h : ChartInv n hB wB wr k done) : ∃ A' c', Blk wr hB 30 #[.int .i64 n, .slice A' k c'] ∧ OwnRows wr (hB + 1) wr.heap.size A' k c' done := by
  obtain ⟨_, _, _, A', c', cs, hk, ho, hc⟩ := h
  exact ⟨A', c', hk, ⟨cs, ho, hc⟩⟩
theorem OwnRows.farT {w : World} {lo hi n : Nat} {A : Option Addr} {c : Nat} {rs : List RowD} {g : Nat} {t : TypeId} {bs : Array Value} (h : OwnRows w lo hi A n c rs) (hb : Blk w g t bs) (t1 : t ≠ 2) (t2 : t ≠ 50) (j : Nat) (u : Value) : OwnRows (w.setCell ⟨g, j, none⟩ u) lo hi A n c rs := by
  obtain ⟨cs, ho, hc⟩ := h.ex
  exact ⟨cs, ho.farT hb t2 j u, hc.farT hb t1 j u⟩
theorem OwnRows.nil (w : World) (lo hi : Nat) : OwnRows w lo hi none 0 0 [] := ⟨[], OwnC.nil _ _ _ _ _, CellsRows.nil⟩

end Go.Proofs.YtnjgmhdmjaijgaaGreat

/- Charts: the plain functions of a chart's stacks and of the limit on strands. -/
namespace Go.Proofs.YtnjgmhdmjaijgaaGreat
open Go.RowKit

def sumI : List Int → Int
  | [] => 0
  | x :: xs => x + sumI xs
theorem sumI_append (a b : List Int) : sumI (a ++ b) = sumI a + sumI b := by
  induction a with
  | nil => simp [sumI]
  | cons x r ih => simp [sumI, ih]; omega
theorem sumI_snoc {xs : List Int} {i : Nat} {x : Int} (h : xs[i]? = some x) : sumI (xs.take (i + 1)) = sumI (xs.take i) + x := by
  rw [take_snoc h, sumI_append]; simp [sumI]
def tinyB (xs : List Int) : Prop := ∀ x ∈ xs, 0 ≤ x ∧ x ≤ 5
theorem sumI_le {xs : List Int} (h : tinyB xs) : 0 ≤ sumI xs ∧ sumI xs ≤ 5 * xs.length := by
  induction xs with
  | nil => simp [sumI]
  | cons x r ih =>
    have h1 := h x (by simp)
    have h2 := ih fun y hy => h y (by simp [hy])
    simp only [sumI, List.length_cons]
    omega
theorem tinyB_take {xs : List Int} (h : tinyB xs) (k : Nat) : tinyB (xs.take k) := fun y hy => h y (List.mem_of_mem_take hy)
theorem tinyB_drop {xs : List Int} (h : tinyB xs) (k : Nat) : tinyB (xs.drop k) := fun y hy => h y (List.mem_of_mem_drop hy)
theorem tinyB_of {st : List Int} (h : ∀ x ∈ st, inR x 1 4 = true) : tinyB st := fun y hy => by have := inR_iff.1 (h y hy); omega
theorem tinyB_made (k : Int) {st : List Int} (h : ∀ x ∈ st, inR x 1 4 = true) : tinyB (stepMade k st) := by
  have h0 : 0 ≤ st0 st ∧ st0 st ≤ 4 := by
    unfold st0
    cases e : st[0]? with
    | none => simp
    | some x => have := inR_iff.1 (h x (List.mem_of_getElem? e)); simp; omega
  intro y hy
  unfold stepMade at hy
  split at hy
  · simp at hy
    have hw : wrap64 (st0 st + 1) = st0 st + 1 := IntWalk.wrap64_in _ ⟨by omega, by omega⟩
    omega
  · split at hy
    · simp at hy; omega
    · have := (List.mem_replicate.1 hy).2; omega
theorem stepMade_madeN {k : Int} (hk : isStitchB k = true) (st : List Int) : (stepMade k st).length = madeN k := by
  unfold stepMade
  rcases stitch_cases hk with rfl | rfl | rfl | rfl | rfl | rfl | rfl | rfl | rfl | rfl | rfl <;> simp <;> rfl
def changeI (k : Int) (st : List Int) : Int := sumI (stepMade k st) - sumI (st.take (takenN k))
def changesP : List Int → List Int → List Int
  | [], _ => []
  | k :: ks, st => changeI k st :: changesP ks (st.drop (takenN k))
theorem changesP_length (ks st : List Int) : (changesP ks st).length = ks.length := by
  induction ks generalizing st with
  | nil => rfl
  | cons k ks ih => simp [changesP, ih]
theorem changesP_append (a b st : List Int) : changesP (a ++ b) st = changesP a st ++ changesP b (st.drop (takenS a)) := by
  induction a generalizing st with
  | nil => simp [changesP, takenS]
  | cons k a ih => simp [changesP, takenS, ih, List.drop_drop]
theorem changesP_take {ks st : List Int} {j : Nat} {k : Int} (h : ks[j]? = some k) : changesP (ks.take (j + 1)) st = changesP (ks.take j) st ++ [changeI k (st.drop (takenS (ks.take j)))] := by
  rw [take_snoc h, changesP_append]; rfl
theorem changesP_at {ks st : List Int} {j : Nat} {k : Int} (h : ks[j]? = some k) : (changesP ks st)[j]? = some (changeI k (st.drop (takenS (ks.take j)))) := by
  have hj := (List.getElem?_eq_some_iff.1 h).1
  have e : ks = ks.take j ++ k :: ks.drop (j + 1) := by rw [← drop_cons h, List.take_append_drop]
  have hl : (changesP (ks.take j) st).length = j := by rw [changesP_length, List.length_take]; omega
  conv => lhs; rw [e, changesP_append]
  rw [List.getElem?_append_right (by omega), hl, Nat.sub_self]
  rfl
theorem changeI_le {k : Int} (hk : isStitchB k = true) {st : List Int} (h : ∀ x ∈ st, inR x 1 4 = true) : -20 ≤ changeI k st ∧ changeI k st ≤ 20 := by
  have h1 := sumI_le (tinyB_made k h)
  have h2 := sumI_le (tinyB_take (tinyB_of h) (takenN k))
  have h3 := stepMade_length hk st
  have h4 := (takenN_le k hk).1
  have h5 : (st.take (takenN k)).length ≤ takenN k := by rw [List.length_take]; omega
  unfold changeI
  omega
def limB : Int → List Int → Bool
  | _, [] => true
  | s, c :: cs => decide (s + c ≤ 12) && limB (s + c) cs
theorem limB_drop {s : Int} {cs : List Int} {i : Nat} {c : Int} (h : cs[i]? = some c) : limB s (cs.drop i) = (decide (s + c ≤ 12) && limB (s + c) (cs.drop (i + 1))) := by rw [drop_cons h, limB]
def ordL (d : Int) (cs : List Int) : List Int := if d = -1 then cs.reverse else cs
def keepB (d : Int) (st ks : List Int) : Bool := limB (sumI st) (ordL d (changesP ks st))
theorem ordL_length (d : Int) (cs : List Int) : (ordL d cs).length = cs.length := by unfold ordL; split <;> simp
theorem ordL_rev {cs : List Int} {i : Nat} (h : i < cs.length) : (ordL (-1) cs)[i]? = cs[cs.length - 1 - i]? := by
  unfold ordL
  rw [if_pos rfl, List.getElem?_reverse h]
theorem ordL_fwd (cs : List Int) : ordL 1 cs = cs := by unfold ordL; rw [if_neg (by decide)]
theorem afterP_seg {ks st : List Int} (hs : ∀ k ∈ ks, isStitchB k = true) {j : Nat} {k : Int} (h : ks[j]? = some k) : ∃ rest, (afterP ks st).drop (madeS (ks.take j)) = stepMade k (st.drop (takenS (ks.take j))) ++ rest := by
  induction ks generalizing st j with
  | nil => simp at h
  | cons q ks ih =>
    cases j with
    | zero =>
      simp at h
      subst h
      exact ⟨afterP ks (st.drop (takenN q)), by simp [madeS, takenS, afterP]⟩
    | succ j =>
      obtain ⟨rest, hr⟩ := ih (st := st.drop (takenN q)) (fun x hx => hs x (by simp [hx])) (by simpa using h)
      refine ⟨rest, ?_⟩
      simp only [List.take_succ_cons, madeS, takenS, afterP]
      rw [List.drop_append, List.drop_eq_nil_of_le (by rw [stepMade_madeN (hs q (by simp))]; omega), stepMade_madeN (hs q (by simp)), show madeN q + madeS (ks.take j) - madeN q = madeS (ks.take j) by omega, hr, List.drop_drop]
      simp
def stepCode (st ks : List Int) : Bool := decide ((stacksAfterP st ks).2 = 0)
/-- The stacks behind each row, and whether each row is knittable. -/
def rowOkB (st : List Int) (r : RowD) : Bool := rowB r.d r.r r.s && stepCode st r.s && keepB r.d st r.s
def stacksFrom : List Int → List RowD → List (List Int)
  | _, [] => []
  | st, r :: rs => (stacksAfterP st r.s).1 :: stacksFrom (stacksAfterP st r.s).1 rs
def rowsOkB : List Int → List RowD → Bool
  | _, [] => true
  | st, r :: rs => rowOkB st r && rowsOkB (stacksAfterP st r.s).1 rs
def chartB (n : Int) (rs : List RowD) : Bool := inR n 1 8 && inR rs.length 1 8 && rowsOkB (List.replicate n.toNat 1) rs
def chartStacks (n : Int) (rs : List RowD) : List (List Int) := if chartB n rs then stacksFrom (List.replicate n.toNat 1) rs else []
theorem stepCode_of {st ks : List Int} (h : stepCode st ks = true) : stacksB st = true ∧ stitchesB ks = true ∧ takenS ks = st.length ∧ (stacksAfterP st ks).1 = afterP ks st ∧ stacksB (afterP ks st) = true := by
  have h := of_decide_eq_true h
  by_cases h1 : stacksB st = true
  · by_cases h2 : stitchesB ks = true
    · by_cases h3 : takenS ks = st.length
      · rw [stacksAfterP_spec h1 h2 h3] at h ⊢
        by_cases h4 : (stacksB (afterP ks st) && !thickP ks st) = true
        · rw [if_pos h4]
          simp only [Bool.and_eq_true] at h4
          exact ⟨h1, h2, h3, rfl, h4.1⟩
        · rw [if_neg h4] at h
          simp at h
      · simp [stacksAfterP, h1, h2, h3] at h
    · simp [stacksAfterP, h2] at h
  · simp [stacksAfterP, h1] at h
theorem stacksFrom_length (st : List Int) (rs : List RowD) : (stacksFrom st rs).length = rs.length := by
  induction rs generalizing st with
  | nil => rfl
  | cons r rs ih => simp [stacksFrom, ih]
theorem stacksFrom_cnt (st : List Int) (rs : List RowD) : cntII (stacksFrom st rs) ≤ 8 * rs.length := by
  induction rs generalizing st with
  | nil => simp [stacksFrom, cntII]
  | cons r rs ih =>
    have h1 := ih (stacksAfterP st r.s).1
    have h2 := stacksAfterP_length st r.s
    simp only [stacksFrom, cntII, List.length_cons]
    omega
theorem chartStacks_size (n : Int) (rs : List RowD) : (chartStacks n rs).length ≤ 8 ∧ cntII (chartStacks n rs) ≤ 64 := by
  unfold chartStacks
  split
  · rename_i h
    unfold chartB at h
    simp only [Bool.and_eq_true] at h
    have h1 := inR_iff.1 h.1.2
    have h2 := stacksFrom_length (List.replicate n.toNat 1) rs
    have h3 := stacksFrom_cnt (List.replicate n.toNat 1) rs
    omega
  · simp [cntII]

end Go.Proofs.YtnjgmhdmjaijgaaGreat
