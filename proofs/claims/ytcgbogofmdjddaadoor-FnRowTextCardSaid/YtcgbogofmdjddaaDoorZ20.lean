/- Steps of the proof, joined from several texts: WJ GH. -/
import Derived.Test.YtcgbogofmdjddaaDoorZ19
import Derived.Test.YtcgbogofmdjddaaDoorZ8
import Derived.Test.YtcgbogofmdjddaaDoorZ18

/- The draws: stitches with repetitions. -/
namespace Go.Proofs.YtcgbogofmdjddaaDoor
open Go Go.RowKit

theorem own_row {w : World} {lo hi n c : Nat} {A : Option Addr} {cs : List Value} {t : TypeId} {z : Nat} (h : OwnC w lo hi t z A n c cs) : ∀ q, (Value.slice A n c).ownBlock = some q → lo ≤ q := by
  intro q hq
  rcases OwnC.form h with ⟨rfl, _⟩ | ⟨g3, _, rfl, h1, _⟩
  · cases hq
  · injection hq with hq
    exact hq ▸ h1
theorem lit1 (t : TypeId) (u0 : Value) (W : World) (j : Nat) (u : Value) (hj : ([u0] : List Value)[j]? = some u) : ∃ b off, (some ⟨W.heap.size, 0, none⟩ : Option Addr) = some ⟨b, off, none⟩ ∧ (W.alloc (.cells #[u0] t)).cell? ⟨b, off + j, none⟩ = some u := by
  refine ⟨W.heap.size, 0, rfl, ?_⟩
  rw [Nat.zero_add, (Blk.new W t #[u0]).cell j]
  simpa using hj

set_option maxHeartbeats 2000000 in
set_option maxRecDepth 10000 in
theorem spec_l16DrawList (w : World) (g : Nat) (AB : Option Addr) (cB : Nat) (bs : List Int) (b : Nat) (hsv : Sv w g AB cB bs b) (hb : b ≤ 1152921504606000000) :
    Calls Tryd.prog 70 #[.pointer (some ⟨g, 0, none⟩)] w fun e w' => ∃ (A' : Option Addr) (c' : Nat) (out : List Int), e = .returned (.slice A' out.length c') ∧ OwnI w' w.heap.size w'.heap.size A' c' out ∧ out.length ≤ 40 ∧ Sv w' g AB cB bs (b + 100) ∧ w.grownBy w' (some g) := by
  obtain ⟨iI, hi0, hu0, hu1, hu2⟩ := info_parts info_int64
  have hgw := hsv.lt
  have o1 := OwnC.lit (w := w) (lo := w.heap.size) (n := 0) 2 1 #[] (Nat.le_refl _) (Nat.zero_le _) rfl
  obtain ⟨w1, hw1⟩ : ∃ w1, w1 = w.alloc (.cells #[] 2) := ⟨_, rfl⟩
  rw [← hw1] at o1
  have hs1 : Sv w1 g AB cB bs b := by rw [hw1]; exact hsv.alloc _
  have hg1 : w.grownBy w1 (some g) := by rw [hw1]; exact World.grownBy_alloc _ _ _
  have hz1 : w1.heap.size = w.heap.size + 1 := by rw [hw1]; simp
  have o2 := OwnC.lit (w := w1) (lo := w.heap.size + 1) (n := 0) 2 1 #[] (by omega) (Nat.zero_le _) rfl
  obtain ⟨w2, hw2⟩ : ∃ w2, w2 = w1.alloc (.cells #[] 2) := ⟨_, rfl⟩
  rw [← hw2] at o2
  have o12 : OwnC w2 w.heap.size (w.heap.size + 1) 2 1 (some ⟨w.heap.size, 0, none⟩) 0 0 [] := by rw [hw2]; exact OwnC.alloc o1 _
  have hs2 : Sv w2 g AB cB bs b := by rw [hw2]; exact hs1.alloc _
  have hg2 : w.grownBy w2 (some g) := by rw [hw2]; exact gb_al hg1 _
  have hz2 : w2.heap.size = w1.heap.size + 1 := by rw [hw2]; simp
  have o22 : OwnC w2 (w.heap.size + 1) w2.heap.size 2 1 (some ⟨w1.heap.size, 0, none⟩) 0 0 [] := o2.mono (Nat.le_refl _) (by omega)
  have HZ1 := Lib.hid hz1; clear hz1
  have HZ2 := Lib.hid hz2; clear hz2
  go_enter Tryd.func70, Tryd.ntmps70
  go_upto_region 3 with fail
  rw [← hw1, ← hw2]
  clear hw1 hw2 o1 o2 hs1 hg1
  go_wp2_with (fail)
  refine (sv_pick 3 (by decide) hs2 (by omega)).mono ?_
  rintro e w3 ⟨x, rfl, hx0, hx8, hs3, hg3, hz3⟩
  have hgr3 := hg2.trans hg3
  have o13 := OwnC.grownG o12 hg3 (.inl (by omega))
  have o23 := OwnC.grownG o22 hg3 (.inl (by omega))
  rw [← hz3] at o23
  have hlo3 : w.heap.size + 2 ≤ w3.heap.size := by have := HZ1.out; have := HZ2.out; omega
  clear hs2 hg2 hg3 hz3 HZ2 o12 o22
  obtain ⟨m, hm⟩ : ∃ m : Nat, 1 + x = (m : Int) := ⟨(1 + x).toNat, by omega⟩
  have hm1 : 1 ≤ m ∧ m ≤ 3 := by omega
  have hwm : IntKind.i64.wrap (1 + x) = (m : Int) := by rw [hm]; exact IntWalk.i64_in _ ⟨by omega, by omega⟩
  clear hm hx0 hx8
  generalize w1.heap.size = g1 at *
  go_upto_region 4 with fail
  go_wp2_with (fail)
  go_loopw [4, 5] (fun pv kv wr => ∃ (A4 : Option Addr) (c4 : Nat) (pt : List Int) (k : Nat), pv = .slice A4 pt.length c4 ∧ kv = .int .i64 (k : Int) ∧ pt.length + k = m ∧ OwnC wr w.heap.size (w.heap.size + 1) 2 1 (some ⟨w.heap.size, 0, none⟩) 0 0 [] ∧ OwnI wr (w.heap.size + 1) wr.heap.size A4 c4 pt ∧ Sv wr g AB cB bs (b + 1 + pt.length) ∧ w.grownBy wr (some g) ∧ w.heap.size + 2 ≤ wr.heap.size) (fun _ kv _ => (intOf kv).toNat)
  case atStart =>
    have e1 := HZ1.out
    subst e1
    exact ⟨_, 0, [], m, rfl, rfl, by simp, o13, o23, by simpa using hs3, hgr3, hlo3⟩
  case round =>
    clear o13 o23 hs3 hgr3 hlo3
    obtain ⟨A4, c4, pt, k, rfl, rfl, hpk, o1, o2, hs, hgr, hlo⟩ := hrel
    by_cases hk0 : 0 < k
    · have dk : decide ((k : Int) > 0) = true := decide_eq_true (by omega)
      go_wp2_with (fail)
      refine (sv_pick 3 (by decide) hs (by omega)).mono ?_
      rintro e w4 ⟨y, rfl, -, -, hs4, hg4, hz4⟩
      have o14 := OwnC.grownG o1 hg4 (.inl (by omega))
      have o24 := OwnC.grownG o2 hg4 (.inl (by omega))
      have hgr4 := hgr.trans hg4
      obtain ⟨z, hz⟩ : ∃ z, IntKind.i64.wrap (1 + y) = z := ⟨_, rfl⟩
      have hlo4 : w.heap.size + 2 ≤ w4.heap.size := by omega
      have hlo5 : w.heap.size + 1 ≤ w4.heap.size := by omega
      have hhi4 : wr.heap.size ≤ w4.heap.size := by omega
      clear hz4 hg4 o1 o2 hs hgr hlo
      have e1 : (k : Int) - 1 = ((k - 1 : Nat) : Int) := by omega
      have wk : IntKind.i64.wrap ((k : Int) - 1) = ((k - 1 : Nat) : Int) := by rw [e1]; exact IntWalk.i64_in _ ⟨by omega, by omega⟩
      clear e1
      have hpt : pt.length ≤ 3 := by omega
      go_wp2_with (at_builtin; refine wpList_append1 w4 [.int .i64 z] _ rfl (.tmp 18) (.tmp 22) _ rfl 2 iI _ 1 8 Tryd.underlying35 hi0 hu0 hu1 hu2 rfl (by decide) rfl o24 hlo5 1 rfl rfl (by simp [Value.oneCell']) (by omega) (by decide) ?_; intro A9 c9 w8 ho8 hg8 hb8 hz8)
      have hrow := own_row o24
      refine ⟨⟨A9, c9, pt ++ [z], k - 1, by simp, rfl, by simp; omega, ?_, ?_, ?_, ?_, by omega⟩, by simp [intOf]; omega⟩
      · exact (OwnC.alloc o14 (.cells #[.int .i64 z] 2)).keep fun q h1 h2 h3 => hg8.block q (by simp; omega) (fun e => by have := hrow q e.symm; omega)
      · show OwnC _ _ _ _ _ _ _ _ _
        rw [List.map_append, List.length_append]
        exact ho8
      · have h1 : Sv w8 g AB cB bs (b + 1 + pt.length + 1) := (hs4.alloc (.cells #[.int .i64 z] 2)).grown hg8 (fun q hq => by have := hrow q hq; omega)
        exact h1.mono (by simp; omega)
      · exact gb_app (gb_al hgr4 (.cells #[.int .i64 z] 2)) hg8 (fun q hq => by have := hrow q hq; omega)
    · have dk : decide ((k : Int) > 0) = false := decide_eq_false (by omega)
      have hpt : pt.length ≤ 3 := by omega
      clear hpk hm1 hwm
      have hap : Apart (some ⟨w.heap.size, 0, none⟩) A4 := Apart.of o1 o2 (Nat.le_refl _)
      go_wp2_with (fail)
      refine (sv_pick 3 (by decide) hs (by omega)).mono ?_
      rintro e w3 ⟨x, rfl, hx0, hx8, hs3, hg3, hz3⟩
      have hgr3 := hgr.trans hg3
      have o13 := OwnC.grownG o1 hg3 (.inl (by omega))
      have o23 := OwnC.grownG o2 hg3 (.inl (by omega))
      rw [← hz3] at o23
      obtain ⟨hi, hhi⟩ : ∃ hi, hi = w3.heap.size := ⟨_, rfl⟩
      have hloh : w.heap.size + 2 ≤ hi := by omega
      have hih : hi ≤ w3.heap.size := by omega
      rw [← hhi] at o23
      clear hhi hs hgr hg3 hz3 o1 o2 hlo
      obtain ⟨m2, hm2⟩ : ∃ m2 : Nat, x = (m2 : Int) := ⟨x.toNat, by omega⟩
      subst hm2
      have hm2 : m2 ≤ 2 := by omega
      clear hx0 hx8
      go_wp2_with (fail)
      go_loopw [3, 6] (fun ov kv wr => ∃ (A3 : Option Addr) (c3 : Nat) (out : List Int) (k : Nat), ov = .slice A3 out.length c3 ∧ kv = .int .i64 (k : Int) ∧ out.length + k = m2 ∧ OwnI wr w.heap.size wr.heap.size A3 c3 out ∧ OwnI wr (w.heap.size + 1) hi A4 c4 pt ∧ Apart A3 A4 ∧ Sv wr g AB cB bs (b + 10 + out.length) ∧ w.grownBy wr (some g) ∧ hi ≤ wr.heap.size) (fun _ kv _ => (intOf kv).toNat)
      case atStart => exact ⟨_, 0, [], m2, rfl, rfl, by simp, OwnC.mono o13 (Nat.le_refl _) (by omega), o23, hap, hs3.mono (by simp; omega), hgr3, hih⟩
      case round =>
        clear o13 o23 hap hs3 hgr3 hih hk0 dk
        obtain ⟨A3, c3, out, k, rfl, rfl, hok, o1, o2, hap, hs, hgr, hlo⟩ := hrel
        by_cases hk0 : 0 < k
        · have dk : decide ((k : Int) > 0) = true := decide_eq_true (by omega)
          have ho3 : out.length ≤ 3 := by omega
          go_wp2_with (fail)
          refine (sv_pick 2 (by decide) hs (by omega)).mono ?_
          rintro e w4 ⟨y, rfl, -, -, hs4, hg4, hz4⟩
          have o14 := OwnC.grownG o1 hg4 (.inl (by omega))
          have o24 := OwnC.grownG o2 hg4 (.inl (by omega))
          have hgr4 := hgr.trans hg4
          obtain ⟨z, hz⟩ : ∃ z, IntKind.i64.wrap (1 + y) = z := ⟨_, rfl⟩
          have hlo4 : hi ≤ w4.heap.size := by omega
          rw [← hz4] at o14
          clear hz4 hg4 o1 o2 hs hgr hlo
          have e1 : (k : Int) - 1 = ((k - 1 : Nat) : Int) := by omega
          have wk : IntKind.i64.wrap ((k : Int) - 1) = ((k - 1 : Nat) : Int) := by rw [e1]; exact IntWalk.i64_in _ ⟨by omega, by omega⟩
          clear e1
          have HLA : Hid (w.heap.size ≤ w4.heap.size + 1) := Lib.hid (by omega)
          go_wp2_with (at_builtin; refine wpList_appendC_at (w4.alloc (.cells #[.int .i64 z] 2)) rfl (.tmp 30) (.tmp 34) _ rfl 2 iI _ 1 8 Tryd.underlying35 hi0 hu0 hu1 hu2 rfl (by decide) rfl (OwnC.alloc o14 _) (by simp; exact HLA.out) (some ⟨w4.heap.size, 0, none⟩) 1 1 [.int .i64 z] rfl rfl (lit1 _ _ w4) (by simp [Value.oneCell']) (by unfold maxLen; omega) (by omega) ?_; intro A9 c9 w8 ho8 hg8 hb8 hat8)
          have hrow := own_row o14
          have hz8 : w4.heap.size + 1 ≤ w8.heap.size := by have := hg8.size; simpa using this
          refine ⟨⟨A9, c9, out ++ [z], k - 1, by simp, rfl, by simp; omega, ?_, ?_, ?_, ?_, ?_, by omega⟩, by simp [intOf]; omega⟩
          · show OwnC _ _ _ _ _ _ _ _ _
            rw [List.map_append, List.length_append]
            exact ho8
          · exact hap.kept (OwnC.alloc o24 (.cells #[.int .i64 z] 2)) (by simp; omega) hg8
          · exact hap.next (OwnC.alloc o24 (.cells #[.int .i64 z] 2)) (by simp; omega) hat8
          · have h1 : Sv w8 g AB cB bs (b + 10 + out.length + 1) := (hs4.alloc (.cells #[.int .i64 z] 2)).grown hg8 (fun q hq => by have := hrow q hq; omega)
            exact h1.mono (by simp; omega)
          · exact gb_app (gb_al hgr4 (.cells #[.int .i64 z] 2)) hg8 (fun q hq => by have := hrow q hq; omega)
        · have dk : decide ((k : Int) > 0) = false := decide_eq_false (by omega)
          have ho2 : out.length ≤ 2 := by omega
          clear hok hm2
          go_wp2_with (fail)
          refine (sv_pick 5 (by decide) hs (by omega)).mono ?_
          rintro e w3 ⟨x, rfl, hx0, hx8, hs3, hg3, hz3⟩
          have hgr3 := hgr.trans hg3
          have o13 := OwnC.grownG o1 hg3 (.inl (by omega))
          have o23 := OwnC.grownG o2 hg3 (.inl (by omega))
          rw [← hz3] at o13
          have hih : hi ≤ w3.heap.size := by omega
          clear hs hgr hg3 hz3 o1 o2 hlo
          obtain ⟨m3, hm3⟩ : ∃ m3 : Nat, x = (m3 : Int) := ⟨x.toNat, by omega⟩
          subst hm3
          have hm3 : m3 ≤ 4 := by omega
          clear hx0 hx8
          go_wp2_with (fail)
          go_loopw [3, 7] (fun ov kv wr => ∃ (A3 : Option Addr) (c3 : Nat) (out : List Int) (k : Nat), ov = .slice A3 out.length c3 ∧ kv = .int .i64 (k : Int) ∧ k ≤ m3 ∧ out.length ≤ 16 ∧ OwnI wr w.heap.size wr.heap.size A3 c3 out ∧ OwnI wr (w.heap.size + 1) hi A4 c4 pt ∧ Apart A3 A4 ∧ Sv wr g AB cB bs (b + 20) ∧ w.grownBy wr (some g) ∧ hi ≤ wr.heap.size) (fun _ kv _ => (intOf kv).toNat)
          case atStart => exact ⟨_, _, _, m3, rfl, rfl, Nat.le_refl _, by omega, o13, o23, hap, hs3.mono (by omega), hgr3, hih⟩
          case round =>
            clear o13 o23 hap hs3 hgr3 hih hk0 dk ho2
            obtain ⟨A3, c3, oq, k, rfl, rfl, hkm, ho16, o1, o2, hap, hs, hgr, hlo⟩ := hrel
            have ws : IntKind.i64.wrap ((oq.length : Int) + (pt.length : Int)) = (oq.length : Int) + (pt.length : Int) := IntWalk.i64_in _ ⟨by omega, by omega⟩
            by_cases hk0 : 0 < k ∧ oq.length + pt.length ≤ 16
            · obtain ⟨hk0, hop⟩ := hk0
              have dk : decide ((k : Int) > 0) = true := decide_eq_true (by omega)
              have ds : decide ((oq.length : Int) + (pt.length : Int) ≤ 16) = true := decide_eq_true (by omega)
              have e1 : (k : Int) - 1 = ((k - 1 : Nat) : Int) := by omega
              have wk : IntKind.i64.wrap ((k : Int) - 1) = ((k - 1 : Nat) : Int) := by rw [e1]; exact IntWalk.i64_in _ ⟨by omega, by omega⟩
              clear e1
              have HLA : Hid (w.heap.size ≤ wr.heap.size) := Lib.hid (by omega)
              go_wp2_with (at_builtin; refine wpList_appendC_at wr rfl (.tmp 50) (.tmp 51) _ rfl 2 iI _ 1 8 Tryd.underlying35 hi0 hu0 hu1 hu2 rfl (by decide) rfl o1 HLA.out A4 pt.length c4 (pt.map (Value.int .i64)) rfl (by simp) (OwnC.news o2) (ints_one _) (by unfold maxLen; omega) (by omega) ?_; intro A9 c9 w8 ho8 hg8 hb8 hat8)
              have hrow := own_row o1
              have hz8 := hg8.size
              refine ⟨⟨A9, c9, oq ++ pt, k - 1, by simp, rfl, by omega, by simp; omega, ?_, hap.kept o2 hlo hg8, hap.next o2 hlo hat8, ?_, ?_, by omega⟩, by simp [intOf]; omega⟩
              · show OwnC _ _ _ _ _ _ _ _ _
                rw [List.map_append, List.length_append]
                exact ho8
              · exact hs.grown hg8 (fun q hq => by have := hrow q hq; omega)
              · exact gb_app hgr hg8 (fun q hq => by have := hrow q hq; omega)
            · by_cases hk1 : 0 < k
              · have dk : decide ((k : Int) > 0) = true := decide_eq_true (by omega)
                have ds : decide ((oq.length : Int) + (pt.length : Int) ≤ 16) = false := decide_eq_false (by omega)
                clear hk0
                go_wp2_with (fail)
                refine (sv_pick 3 (by decide) hs (by omega)).mono ?_
                rintro e w3 ⟨x, rfl, hx0, hx8, hs3, hg3, hz3⟩
                have hgr3 := hgr.trans hg3
                have o13 := OwnC.grownG o1 hg3 (.inl (by omega))
                rw [← hz3] at o13
                have hih : w.heap.size ≤ w3.heap.size := by omega
                clear hs hgr hg3 hz3 o1 o2 hlo hap
                obtain ⟨m4, hm4⟩ : ∃ m4 : Nat, x = (m4 : Int) := ⟨x.toNat, by omega⟩
                subst hm4
                have hm4 : m4 ≤ 2 := by omega
                clear hx0 hx8
                go_wp2_with (fail)
                go_loopw [3, 8] (fun ov kv wr => ∃ (A3 : Option Addr) (c3 : Nat) (out : List Int) (k : Nat), ov = .slice A3 out.length c3 ∧ kv = .int .i64 (k : Int) ∧ out.length + k ≤ 18 ∧ k ≤ 2 ∧ OwnI wr w.heap.size wr.heap.size A3 c3 out ∧ Sv wr g AB cB bs (b + 30 - k) ∧ w.grownBy wr (some g) ∧ w.heap.size ≤ wr.heap.size) (fun _ kv _ => (intOf kv).toNat)
                case atStart => exact ⟨_, _, _, m4, rfl, rfl, by omega, hm4, o13, hs3.mono (by omega), hgr3, hih⟩
                case round =>
                  clear o13 hs3 hgr3 hih dk
                  obtain ⟨A3, c3, ou, k, rfl, rfl, hku, hkm, o1, hs, hgr, hlo⟩ := hrel
                  have fin : ∀ wF A c o, OwnI wF w.heap.size wF.heap.size A c o → o.length ≤ 40 → Sv wF g AB cB bs (b + 100) → w.grownBy wF (some g) → ∃ (A' : Option Addr) (c' : Nat) (out : List Int), Ending.returned (.slice A o.length c) = .returned (.slice A' out.length c') ∧ OwnI wF w.heap.size wF.heap.size A' c' out ∧ out.length ≤ 40 ∧ Sv wF g AB cB bs (b + 100) ∧ w.grownBy wF (some g) := fun wF A c o h1 h2 h3 h4 => ⟨A, c, o, rfl, h1, h2, h3, h4⟩
                  have FIN := Lib.hid fin; clear fin
                  by_cases hk0 : 0 < k ∧ ou.length < 16
                  · obtain ⟨hk0, hop⟩ := hk0
                    have dk : decide ((k : Int) > 0) = true := decide_eq_true (by omega)
                    have ds : decide ((ou.length : Int) < 16) = true := decide_eq_true (by omega)
                    go_wp2_with (fail)
                    refine (sv_pick 2 (by decide) hs (by omega)).mono ?_
                    rintro e w4 ⟨y, rfl, -, -, hs4, hg4, hz4⟩
                    have o14 := OwnC.grownG o1 hg4 (.inl (by omega))
                    have hgr4 := hgr.trans hg4
                    obtain ⟨z, hz⟩ : ∃ z, IntKind.i64.wrap (1 + y) = z := ⟨_, rfl⟩
                    have hlo4 : w.heap.size ≤ w4.heap.size := by omega
                    rw [← hz4] at o14
                    clear hz4 hg4 o1 hs hgr hlo
                    have e1 : (k : Int) - 1 = ((k - 1 : Nat) : Int) := by omega
                    have wk : IntKind.i64.wrap ((k : Int) - 1) = ((k - 1 : Nat) : Int) := by rw [e1]; exact IntWalk.i64_in _ ⟨by omega, by omega⟩
                    clear e1
                    have hpt : ou.length ≤ 30 := by omega
                    go_wp2_with (at_builtin; refine wpList_append1 w4 [.int .i64 z] _ rfl (.tmp 64) (.tmp 68) _ rfl 2 iI _ 1 8 Tryd.underlying35 hi0 hu0 hu1 hu2 rfl (by decide) rfl o14 hlo4 1 rfl rfl (by simp [Value.oneCell']) (by omega) (by decide) ?_; intro A9 c9 w8 ho8 hg8 hb8 hz8)
                    have hrow := own_row o14
                    refine ⟨⟨A9, c9, ou ++ [z], k - 1, by simp, rfl, by simp; omega, by omega, ?_, ?_, ?_, by omega⟩, by simp [intOf]; omega⟩
                    · show OwnC _ _ _ _ _ _ _ _ _
                      rw [List.map_append, List.length_append]
                      exact ho8
                    · have h1 : Sv w8 g AB cB bs (b + 30 - k + 1) := (hs4.alloc (.cells #[.int .i64 z] 2)).grown hg8 (fun q hq => by have := hrow q hq; omega)
                      exact h1.mono (by omega)
                    · exact gb_app (gb_al hgr4 (.cells #[.int .i64 z] 2)) hg8 (fun q hq => by have := hrow q hq; omega)
                  · have hou : ou.length ≤ 18 := by omega
                    by_cases hk1 : 0 < k
                    · have dk : decide ((k : Int) > 0) = true := decide_eq_true (by omega)
                      have ds : decide ((ou.length : Int) < 16) = false := decide_eq_false (by omega)
                      clear hk0 hku hkm
                      go_wp2_with (fail)
                      refine (sv_one 20 (by decide) hs (by omega)).mono ?_
                      rintro e w4 ⟨y, rfl, hs4, hg4, hz4⟩
                      have o14 := OwnC.grownG o1 hg4 (.inl (by omega))
                      have hgr4 := hgr.trans hg4
                      rw [← hz4] at o14
                      have hlo4 : w.heap.size ≤ w4.heap.size := by omega
                      clear o1 hs hgr hg4 hlo hz4
                      cases y
                      · go_wp2_with (fail)
                        go_ret
                        exact FIN.out _ _ _ _ o14 (by omega) (hs4.mono (by omega)) hgr4
                      · obtain ⟨wL, hwL⟩ : ∃ wL, wL = w4.alloc (.cells #[.int .i64 0, .int .i64 12, .int .i64 (-1)] 2) := ⟨_, rfl⟩
                        have hIL : Ints wL (some ⟨w4.heap.size, 0, none⟩) [0, 12, -1] := by
                          rw [hwL]
                          exact OwnC.ints (lo := w4.heap.size) (hi := w4.heap.size + 1) (OwnC.lit (w := w4) (lo := w4.heap.size) (n := 3) 2 1 #[.int .i64 0, .int .i64 12, .int .i64 (-1)] (Nat.le_refl _) (by decide) rfl)
                        have hsL : Sv wL g AB cB bs (b + 31) := by rw [hwL]; exact (hs4.alloc _).mono (by omega)
                        have hgL : w.grownBy wL (some g) := by rw [hwL]; exact gb_al hgr4 _
                        have oL : OwnI wL w.heap.size w4.heap.size A3 c3 ou := by rw [hwL]; exact OwnC.alloc o14 _
                        have hzL : w4.heap.size ≤ wL.heap.size := by rw [hwL]; simp
                        go_wp2_with (fail)
                        rw [← hwL]
                        refine (sv_among [0, 12, -1] (some ⟨w4.heap.size, 0, none⟩) 3 (by decide) hsL (by omega) hIL (fun a ha => by injection ha with ha; subst ha; show w4.heap.size ≠ g; omega)).mono ?_
                        rintro e w6 ⟨y, rfl, hy, hs6, hg6, hz6⟩
                        have hgr6 := hgL.trans hg6
                        have o6 := OwnC.grownG oL hg6 (.inl (by omega))
                        have hz5 : w4.heap.size ≤ w6.heap.size := by omega
                        have o66 : OwnI w6 w.heap.size w6.heap.size A3 c3 ou := OwnC.mono o6 (Nat.le_refl _) hz5
                        have hz7 : w.heap.size ≤ w6.heap.size := by omega
                        clear hwL hIL hsL hgL oL hzL hg6 hz6 hs4 hgr4 hy o14 o6
                        go_wp2_with (at_builtin; refine wpList_append1 w6 [.int .i64 y] _ rfl (.tmp 72) (.tmp 76) _ rfl 2 iI _ 1 8 Tryd.underlying35 hi0 hu0 hu1 hu2 rfl (by decide) rfl o66 hz7 1 rfl rfl (by simp [Value.oneCell']) (by omega) (by decide) ?_; intro A9 c9 w8 ho8 hg8 hb8 hz8)
                        have hrow := own_row o66
                        have e9 : ou.length + 1 = (ou ++ [y]).length := by simp
                        rw [e9]
                        go_ret
                        refine FIN.out _ _ _ _ ?_ (by simp; omega) ?_ ?_
                        · show OwnC _ _ _ _ _ _ _ _ _
                          rw [List.map_append, List.length_append]
                          exact ho8
                        · exact ((hs6.alloc (.cells #[.int .i64 y] 2)).grown hg8 (fun q hq => by have := hrow q hq; omega)).mono (by omega)
                        · exact gb_app (gb_al hgr6 (.cells #[.int .i64 y] 2)) hg8 (fun q hq => by have := hrow q hq; omega)
                    · have dk : decide ((k : Int) > 0) = false := decide_eq_false (by omega)
                      clear hk0 hku hkm
                      go_wp2_with (fail)
                      refine (sv_one 20 (by decide) hs (by omega)).mono ?_
                      rintro e w4 ⟨y, rfl, hs4, hg4, hz4⟩
                      have o14 := OwnC.grownG o1 hg4 (.inl (by omega))
                      have hgr4 := hgr.trans hg4
                      rw [← hz4] at o14
                      have hlo4 : w.heap.size ≤ w4.heap.size := by omega
                      clear o1 hs hgr hg4 hlo hz4
                      cases y
                      · go_wp2_with (fail)
                        go_ret
                        exact FIN.out _ _ _ _ o14 (by omega) (hs4.mono (by omega)) hgr4
                      · obtain ⟨wL, hwL⟩ : ∃ wL, wL = w4.alloc (.cells #[.int .i64 0, .int .i64 12, .int .i64 (-1)] 2) := ⟨_, rfl⟩
                        have hIL : Ints wL (some ⟨w4.heap.size, 0, none⟩) [0, 12, -1] := by
                          rw [hwL]
                          exact OwnC.ints (lo := w4.heap.size) (hi := w4.heap.size + 1) (OwnC.lit (w := w4) (lo := w4.heap.size) (n := 3) 2 1 #[.int .i64 0, .int .i64 12, .int .i64 (-1)] (Nat.le_refl _) (by decide) rfl)
                        have hsL : Sv wL g AB cB bs (b + 31) := by rw [hwL]; exact (hs4.alloc _).mono (by omega)
                        have hgL : w.grownBy wL (some g) := by rw [hwL]; exact gb_al hgr4 _
                        have oL : OwnI wL w.heap.size w4.heap.size A3 c3 ou := by rw [hwL]; exact OwnC.alloc o14 _
                        have hzL : w4.heap.size ≤ wL.heap.size := by rw [hwL]; simp
                        go_wp2_with (fail)
                        rw [← hwL]
                        refine (sv_among [0, 12, -1] (some ⟨w4.heap.size, 0, none⟩) 3 (by decide) hsL (by omega) hIL (fun a ha => by injection ha with ha; subst ha; show w4.heap.size ≠ g; omega)).mono ?_
                        rintro e w6 ⟨y, rfl, hy, hs6, hg6, hz6⟩
                        have hgr6 := hgL.trans hg6
                        have o6 := OwnC.grownG oL hg6 (.inl (by omega))
                        have hz5 : w4.heap.size ≤ w6.heap.size := by omega
                        have o66 : OwnI w6 w.heap.size w6.heap.size A3 c3 ou := OwnC.mono o6 (Nat.le_refl _) hz5
                        have hz7 : w.heap.size ≤ w6.heap.size := by omega
                        clear hwL hIL hsL hgL oL hzL hg6 hz6 hs4 hgr4 hy o14 o6
                        go_wp2_with (at_builtin; refine wpList_append1 w6 [.int .i64 y] _ rfl (.tmp 72) (.tmp 76) _ rfl 2 iI _ 1 8 Tryd.underlying35 hi0 hu0 hu1 hu2 rfl (by decide) rfl o66 hz7 1 rfl rfl (by simp [Value.oneCell']) (by omega) (by decide) ?_; intro A9 c9 w8 ho8 hg8 hb8 hz8)
                        have hrow := own_row o66
                        have e9 : ou.length + 1 = (ou ++ [y]).length := by simp
                        rw [e9]
                        go_ret
                        refine FIN.out _ _ _ _ ?_ (by simp; omega) ?_ ?_
                        · show OwnC _ _ _ _ _ _ _ _ _
                          rw [List.map_append, List.length_append]
                          exact ho8
                        · exact ((hs6.alloc (.cells #[.int .i64 y] 2)).grown hg8 (fun q hq => by have := hrow q hq; omega)).mono (by omega)
                        · exact gb_app (gb_al hgr6 (.cells #[.int .i64 y] 2)) hg8 (fun q hq => by have := hrow q hq; omega)
              · have dk : decide ((k : Int) > 0) = false := decide_eq_false (by omega)
                clear hk0
                go_wp2_with (fail)
                refine (sv_pick 3 (by decide) hs (by omega)).mono ?_
                rintro e w3 ⟨x, rfl, hx0, hx8, hs3, hg3, hz3⟩
                have hgr3 := hgr.trans hg3
                have o13 := OwnC.grownG o1 hg3 (.inl (by omega))
                rw [← hz3] at o13
                have hih : w.heap.size ≤ w3.heap.size := by omega
                clear hs hgr hg3 hz3 o1 o2 hlo hap
                obtain ⟨m4, hm4⟩ : ∃ m4 : Nat, x = (m4 : Int) := ⟨x.toNat, by omega⟩
                subst hm4
                have hm4 : m4 ≤ 2 := by omega
                clear hx0 hx8
                go_wp2_with (fail)
                go_loopw [3, 8] (fun ov kv wr => ∃ (A3 : Option Addr) (c3 : Nat) (out : List Int) (k : Nat), ov = .slice A3 out.length c3 ∧ kv = .int .i64 (k : Int) ∧ out.length + k ≤ 18 ∧ k ≤ 2 ∧ OwnI wr w.heap.size wr.heap.size A3 c3 out ∧ Sv wr g AB cB bs (b + 30 - k) ∧ w.grownBy wr (some g) ∧ w.heap.size ≤ wr.heap.size) (fun _ kv _ => (intOf kv).toNat)
                case atStart => exact ⟨_, _, _, m4, rfl, rfl, by omega, hm4, o13, hs3.mono (by omega), hgr3, hih⟩
                case round =>
                  clear o13 hs3 hgr3 hih dk
                  obtain ⟨A3, c3, ou, k, rfl, rfl, hku, hkm, o1, hs, hgr, hlo⟩ := hrel
                  have fin : ∀ wF A c o, OwnI wF w.heap.size wF.heap.size A c o → o.length ≤ 40 → Sv wF g AB cB bs (b + 100) → w.grownBy wF (some g) → ∃ (A' : Option Addr) (c' : Nat) (out : List Int), Ending.returned (.slice A o.length c) = .returned (.slice A' out.length c') ∧ OwnI wF w.heap.size wF.heap.size A' c' out ∧ out.length ≤ 40 ∧ Sv wF g AB cB bs (b + 100) ∧ w.grownBy wF (some g) := fun wF A c o h1 h2 h3 h4 => ⟨A, c, o, rfl, h1, h2, h3, h4⟩
                  have FIN := Lib.hid fin; clear fin
                  by_cases hk0 : 0 < k ∧ ou.length < 16
                  · obtain ⟨hk0, hop⟩ := hk0
                    have dk : decide ((k : Int) > 0) = true := decide_eq_true (by omega)
                    have ds : decide ((ou.length : Int) < 16) = true := decide_eq_true (by omega)
                    go_wp2_with (fail)
                    refine (sv_pick 2 (by decide) hs (by omega)).mono ?_
                    rintro e w4 ⟨y, rfl, -, -, hs4, hg4, hz4⟩
                    have o14 := OwnC.grownG o1 hg4 (.inl (by omega))
                    have hgr4 := hgr.trans hg4
                    obtain ⟨z, hz⟩ : ∃ z, IntKind.i64.wrap (1 + y) = z := ⟨_, rfl⟩
                    have hlo4 : w.heap.size ≤ w4.heap.size := by omega
                    rw [← hz4] at o14
                    clear hz4 hg4 o1 hs hgr hlo
                    have e1 : (k : Int) - 1 = ((k - 1 : Nat) : Int) := by omega
                    have wk : IntKind.i64.wrap ((k : Int) - 1) = ((k - 1 : Nat) : Int) := by rw [e1]; exact IntWalk.i64_in _ ⟨by omega, by omega⟩
                    clear e1
                    have hpt : ou.length ≤ 30 := by omega
                    go_wp2_with (at_builtin; refine wpList_append1 w4 [.int .i64 z] _ rfl (.tmp 64) (.tmp 68) _ rfl 2 iI _ 1 8 Tryd.underlying35 hi0 hu0 hu1 hu2 rfl (by decide) rfl o14 hlo4 1 rfl rfl (by simp [Value.oneCell']) (by omega) (by decide) ?_; intro A9 c9 w8 ho8 hg8 hb8 hz8)
                    have hrow := own_row o14
                    refine ⟨⟨A9, c9, ou ++ [z], k - 1, by simp, rfl, by simp; omega, by omega, ?_, ?_, ?_, by omega⟩, by simp [intOf]; omega⟩
                    · show OwnC _ _ _ _ _ _ _ _ _
                      rw [List.map_append, List.length_append]
                      exact ho8
                    · have h1 : Sv w8 g AB cB bs (b + 30 - k + 1) := (hs4.alloc (.cells #[.int .i64 z] 2)).grown hg8 (fun q hq => by have := hrow q hq; omega)
                      exact h1.mono (by omega)
                    · exact gb_app (gb_al hgr4 (.cells #[.int .i64 z] 2)) hg8 (fun q hq => by have := hrow q hq; omega)
                  · have hou : ou.length ≤ 18 := by omega
                    by_cases hk1 : 0 < k
                    · have dk : decide ((k : Int) > 0) = true := decide_eq_true (by omega)
                      have ds : decide ((ou.length : Int) < 16) = false := decide_eq_false (by omega)
                      clear hk0 hku hkm
                      go_wp2_with (fail)
                      refine (sv_one 20 (by decide) hs (by omega)).mono ?_
                      rintro e w4 ⟨y, rfl, hs4, hg4, hz4⟩
                      have o14 := OwnC.grownG o1 hg4 (.inl (by omega))
                      have hgr4 := hgr.trans hg4
                      rw [← hz4] at o14
                      have hlo4 : w.heap.size ≤ w4.heap.size := by omega
                      clear o1 hs hgr hg4 hlo hz4
                      cases y
                      · go_wp2_with (fail)
                        go_ret
                        exact FIN.out _ _ _ _ o14 (by omega) (hs4.mono (by omega)) hgr4
                      · obtain ⟨wL, hwL⟩ : ∃ wL, wL = w4.alloc (.cells #[.int .i64 0, .int .i64 12, .int .i64 (-1)] 2) := ⟨_, rfl⟩
                        have hIL : Ints wL (some ⟨w4.heap.size, 0, none⟩) [0, 12, -1] := by
                          rw [hwL]
                          exact OwnC.ints (lo := w4.heap.size) (hi := w4.heap.size + 1) (OwnC.lit (w := w4) (lo := w4.heap.size) (n := 3) 2 1 #[.int .i64 0, .int .i64 12, .int .i64 (-1)] (Nat.le_refl _) (by decide) rfl)
                        have hsL : Sv wL g AB cB bs (b + 31) := by rw [hwL]; exact (hs4.alloc _).mono (by omega)
                        have hgL : w.grownBy wL (some g) := by rw [hwL]; exact gb_al hgr4 _
                        have oL : OwnI wL w.heap.size w4.heap.size A3 c3 ou := by rw [hwL]; exact OwnC.alloc o14 _
                        have hzL : w4.heap.size ≤ wL.heap.size := by rw [hwL]; simp
                        go_wp2_with (fail)
                        rw [← hwL]
                        refine (sv_among [0, 12, -1] (some ⟨w4.heap.size, 0, none⟩) 3 (by decide) hsL (by omega) hIL (fun a ha => by injection ha with ha; subst ha; show w4.heap.size ≠ g; omega)).mono ?_
                        rintro e w6 ⟨y, rfl, hy, hs6, hg6, hz6⟩
                        have hgr6 := hgL.trans hg6
                        have o6 := OwnC.grownG oL hg6 (.inl (by omega))
                        have hz5 : w4.heap.size ≤ w6.heap.size := by omega
                        have o66 : OwnI w6 w.heap.size w6.heap.size A3 c3 ou := OwnC.mono o6 (Nat.le_refl _) hz5
                        have hz7 : w.heap.size ≤ w6.heap.size := by omega
                        clear hwL hIL hsL hgL oL hzL hg6 hz6 hs4 hgr4 hy o14 o6
                        go_wp2_with (at_builtin; refine wpList_append1 w6 [.int .i64 y] _ rfl (.tmp 72) (.tmp 76) _ rfl 2 iI _ 1 8 Tryd.underlying35 hi0 hu0 hu1 hu2 rfl (by decide) rfl o66 hz7 1 rfl rfl (by simp [Value.oneCell']) (by omega) (by decide) ?_; intro A9 c9 w8 ho8 hg8 hb8 hz8)
                        have hrow := own_row o66
                        have e9 : ou.length + 1 = (ou ++ [y]).length := by simp
                        rw [e9]
                        go_ret
                        refine FIN.out _ _ _ _ ?_ (by simp; omega) ?_ ?_
                        · show OwnC _ _ _ _ _ _ _ _ _
                          rw [List.map_append, List.length_append]
                          exact ho8
                        · exact ((hs6.alloc (.cells #[.int .i64 y] 2)).grown hg8 (fun q hq => by have := hrow q hq; omega)).mono (by omega)
                        · exact gb_app (gb_al hgr6 (.cells #[.int .i64 y] 2)) hg8 (fun q hq => by have := hrow q hq; omega)
                    · have dk : decide ((k : Int) > 0) = false := decide_eq_false (by omega)
                      clear hk0 hku hkm
                      go_wp2_with (fail)
                      refine (sv_one 20 (by decide) hs (by omega)).mono ?_
                      rintro e w4 ⟨y, rfl, hs4, hg4, hz4⟩
                      have o14 := OwnC.grownG o1 hg4 (.inl (by omega))
                      have hgr4 := hgr.trans hg4
                      rw [← hz4] at o14
                      have hlo4 : w.heap.size ≤ w4.heap.size := by omega
                      clear o1 hs hgr hg4 hlo hz4
                      cases y
                      · go_wp2_with (fail)
                        go_ret
                        exact FIN.out _ _ _ _ o14 (by omega) (hs4.mono (by omega)) hgr4
                      · obtain ⟨wL, hwL⟩ : ∃ wL, wL = w4.alloc (.cells #[.int .i64 0, .int .i64 12, .int .i64 (-1)] 2) := ⟨_, rfl⟩
                        have hIL : Ints wL (some ⟨w4.heap.size, 0, none⟩) [0, 12, -1] := by
                          rw [hwL]
                          exact OwnC.ints (lo := w4.heap.size) (hi := w4.heap.size + 1) (OwnC.lit (w := w4) (lo := w4.heap.size) (n := 3) 2 1 #[.int .i64 0, .int .i64 12, .int .i64 (-1)] (Nat.le_refl _) (by decide) rfl)
                        have hsL : Sv wL g AB cB bs (b + 31) := by rw [hwL]; exact (hs4.alloc _).mono (by omega)
                        have hgL : w.grownBy wL (some g) := by rw [hwL]; exact gb_al hgr4 _
                        have oL : OwnI wL w.heap.size w4.heap.size A3 c3 ou := by rw [hwL]; exact OwnC.alloc o14 _
                        have hzL : w4.heap.size ≤ wL.heap.size := by rw [hwL]; simp
                        go_wp2_with (fail)
                        rw [← hwL]
                        refine (sv_among [0, 12, -1] (some ⟨w4.heap.size, 0, none⟩) 3 (by decide) hsL (by omega) hIL (fun a ha => by injection ha with ha; subst ha; show w4.heap.size ≠ g; omega)).mono ?_
                        rintro e w6 ⟨y, rfl, hy, hs6, hg6, hz6⟩
                        have hgr6 := hgL.trans hg6
                        have o6 := OwnC.grownG oL hg6 (.inl (by omega))
                        have hz5 : w4.heap.size ≤ w6.heap.size := by omega
                        have o66 : OwnI w6 w.heap.size w6.heap.size A3 c3 ou := OwnC.mono o6 (Nat.le_refl _) hz5
                        have hz7 : w.heap.size ≤ w6.heap.size := by omega
                        clear hwL hIL hsL hgL oL hzL hg6 hz6 hs4 hgr4 hy o14 o6
                        go_wp2_with (at_builtin; refine wpList_append1 w6 [.int .i64 y] _ rfl (.tmp 72) (.tmp 76) _ rfl 2 iI _ 1 8 Tryd.underlying35 hi0 hu0 hu1 hu2 rfl (by decide) rfl o66 hz7 1 rfl rfl (by simp [Value.oneCell']) (by omega) (by decide) ?_; intro A9 c9 w8 ho8 hg8 hb8 hz8)
                        have hrow := own_row o66
                        have e9 : ou.length + 1 = (ou ++ [y]).length := by simp
                        rw [e9]
                        go_ret
                        refine FIN.out _ _ _ _ ?_ (by simp; omega) ?_ ?_
                        · show OwnC _ _ _ _ _ _ _ _ _
                          rw [List.map_append, List.length_append]
                          exact ho8
                        · exact ((hs6.alloc (.cells #[.int .i64 y] 2)).grown hg8 (fun q hq => by have := hrow q hq; omega)).mono (by omega)
                        · exact gb_app (gb_al hgr6 (.cells #[.int .i64 y] 2)) hg8 (fun q hq => by have := hrow q hq; omega)

set_option maxHeartbeats 1000000 in
theorem spec_A2Stitches (A : Option Addr) (c : Nat) (bs : List Int) (w : World) (hby : Bytes w A bs) (hl : bs.length ≤ 1099511627776) :
    Calls Tryd.prog 35 #[.slice A bs.length c] w fun e w' => ∃ (A1 : Option Addr) (c1 : Nat) (l : List Int), e = .returned (.slice A1 l.length c1) ∧ OwnI w' w.heap.size w'.heap.size A1 c1 l ∧ stitchesB l = true ∧ Below w.heap.size w w' := by
  go_enter Tryd.func35, Tryd.ntmps35
  go_wp2_with (fail)
  refine (spec_l00From A c bs _ hby hl).mono ?_
  rintro e w2 ⟨rfl, hs2, b2, hz2⟩
  have HZ2 := Lib.hid hz2; clear hz2
  go_wp2_with (fail)
  refine (spec_l16DrawList w2 w.heap.size A c bs 0 hs2 (by decide)).mono ?_
  rintro e w3 ⟨A3, c3, l, rfl, o3, hl3, hs3, hg3⟩
  have hb3 : Below w.heap.size w w3 := b2.trans (gb_below hg3 (Nat.le_refl _) (by have := HZ2.out; omega))
  have o4 := OwnC.mono o3 (show w.heap.size ≤ w2.heap.size by have := HZ2.out; omega) (Nat.le_refl _)
  go_wp2_with (fail)
  refine (spec_l14Ok A3 c3 l w3 (OwnC.ints o3) (by omega)).mono ?_
  rintro e _ ⟨rfl, rfl⟩
  cases hst : stitchesB l
  · go_wp2_with (fail)
    go_ret
    refine ⟨_, 4, [1, 2, 1, 2], rfl, ?_, rfl, ?_⟩
    · exact (OwnC.lit (w := w3) (lo := w.heap.size) (n := 4) 2 1 #[.int .i64 1, .int .i64 2, .int .i64 1, .int .i64 2] hb3.size (by decide) rfl).mono (Nat.le_refl _) (by simp)
    · exact hb3.alloc hb3.size _
  · go_wp2_with (fail)
    go_ret
    exact ⟨A3, c3, l, rfl, o4, hst, hb3⟩

end Go.Proofs.YtcgbogofmdjddaaDoor

/- The laws over draws: what they compare with. -/
namespace Go.Proofs.YtcgbogofmdjddaaDoor
open Go Go.RowKit

theorem laws_a2Same (A B : Option Addr) (c d : Nat) (xs ys : List Int) (w : World) (h : Ints w A xs) (h' : Ints w B ys) (hl : xs.length ≤ 9223372036854775807) (_hl' : ys.length ≤ 9223372036854775807) :
    Calls Tryd.prog 30 #[.slice A xs.length c, .slice B ys.length d] w fun e w' => e = .returned (.bool (decide (xs = ys))) ∧ ∃ n, w' = w.drewN n := by
  by_cases hle : xs.length = ys.length
  · have HL := Lib.hid hle
    have hle' : ((xs.length : Int) != (ys.length : Int)) = false := by simp [hle]
    clear hle
    go_enter Tryd.func30, Tryd.ntmps30
    go_wp2
    go_loopw [5] (fun i wr => ∃ (k : Nat), k ≤ xs.length ∧ i = .int .i64 k ∧ xs.take k = ys.take k ∧ ∃ n, wr = w.drewN n) (fun i _ => xs.length - (intOf i).toNat)
    case atStart => exact ⟨0, Nat.zero_le _, rfl, rfl, 0, rfl⟩
    case round =>
      obtain ⟨k, hk, rfl, htk, n, rfl⟩ := hrel
      have HT := Lib.hid htk; clear htk
      by_cases hlt : k < xs.length
      · have hlt' : k < ys.length := by rw [← HL.out]; exact hlt
        obtain ⟨b, off, x, rfl, hc, hx⟩ := h k hlt
        obtain ⟨b', off', y, rfl, hc', hy⟩ := h' k hlt'
        by_cases hxy : x = y
        · subst hxy
          go_wp2
          go_quiet (fail)
          go_wp2
          go_roundw
          case rel => exact ⟨k + 1, by omega, by go_num, by rw [take_snoc hx, take_snoc hy, HT.out], (by first | exact drew2 _ _ _ | exact ⟨_, rfl⟩)⟩
          case measure => simp [intOf]; omega
        · have hxy' : (x != y) = true := by simpa using hxy
          go_wp2
          go_quiet (fail)
          go_wp2
          go_ret
          exact ⟨ret_bool (by simpa using ne_of_getElem? hx hy hxy), (by first | exact drew2 _ _ _ | exact ⟨_, rfl⟩)⟩
      · go_wp2
        go_ret
        have : k = xs.length := by omega
        subst this
        have e := HT.out
        rw [take_all (Nat.le_refl _), take_all (by rw [HL.out]; exact Nat.le_refl _)] at e
        exact ⟨ret_bool (by simpa using e), _, rfl⟩
  · have hle' : ((xs.length : Int) != (ys.length : Int)) = true := by simp; omega
    go_enter Tryd.func30, Tryd.ntmps30
    go_wp2
    go_ret
    exact ⟨ret_bool (by simp; intro e; exact hle (by rw [e])), 0, rfl⟩

theorem laws_a2Long (A B : Option Addr) (n c m d : Nat) (w : World) : Calls Tryd.prog 23 #[.slice A n c, .slice B m d] w fun e w' => e = .returned (.bool (decide (3000 < n) || decide (3000 < m))) ∧ w = w' := by
  by_cases h1 : 3000 < n
  · have d1 : decide ((n : Int) > 3000) = true := decide_eq_true (by omega)
    go_enter Tryd.func23, Tryd.ntmps23
    go_wp2_with (fail)
    go_ret
    exact ⟨by simp [h1], rfl⟩
  · have d1 : decide ((n : Int) > 3000) = false := decide_eq_false (by omega)
    go_enter Tryd.func23, Tryd.ntmps23
    go_wp2_with (fail)
    go_ret
    refine ⟨ret_bool ?_, rfl⟩
    rw [decide_eq_false h1, Bool.false_or]
    exact decide_eq_decide.2 (by omega)

end Go.Proofs.YtcgbogofmdjddaaDoor
