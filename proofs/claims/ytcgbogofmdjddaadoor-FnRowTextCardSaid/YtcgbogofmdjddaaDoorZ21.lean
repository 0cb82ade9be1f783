/- Steps of the proof, joined from several texts: WL WK WM. -/
import Derived.Test.YtcgbogofmdjddaaDoorZ19
import Derived.Test.YtcgbogofmdjddaaDoorZ20
import Derived.Test.YtcgbogofmdjddaaDoorZ16
import Derived.Test.YtcgbogofmdjddaaDoorZ4
import Derived.Test.YtcgbogofmdjddaaDoorZ18

/- What pieces expand to, plain: what FnRowText asks. -/
namespace Go.Proofs.YtcgbogofmdjddaaDoor
open Go Go.RowKit

theorem expP_good {o : Int} (n : Nat) : ∀ (d : Nat) (l : List PieceD), l.length ≤ n → Good d l → ∀ k ∈ expP o l, isStitchB k = true := by
  induction n with
  | zero =>
    intro d l hl _ k hk
    have : l = [] := by cases l <;> simp_all
    subst this
    rw [expP_nil] at hk
    cases hk
  | succ n ih =>
    intro d l hl h k hk
    cases l with
    | nil => rw [expP_nil] at hk; cases hk
    | cons p r =>
      simp only [List.length_cons] at hl
      have hrep : ∀ (m : Int) (xs : List Int), k ∈ rep m xs → k ∈ xs := by
        intro m xs hm
        unfold rep at hm
        rw [List.mem_flatten] at hm
        obtain ⟨ys, h1, h2⟩ := hm
        rw [List.eq_of_mem_replicate h1] at h2
        exact h2
      by_cases hkd : p.kind = 12
      · obtain ⟨hd, _, _, _, _, _, h4, h5⟩ := good_group h hkd
        rw [expP_group hkd, List.mem_append] at hk
        rcases hk with hk | hk
        · exact ih (d + 1) _ (by simp; omega) h4 k (hrep _ _ hk)
        · exact ih d _ (by simp; omega) h5 k hk
      · obtain ⟨hp, hg⟩ := good_plain h hkd
        rw [expP_plain hkd, List.mem_append] at hk
        rcases hk with hk | hk
        · have := hrep _ _ hk
          rw [List.mem_singleton] at this
          rw [this]
          unfold plainP at hp
          simp only [Bool.and_eq_true] at hp
          exact hp.1.1
        · exact ih d r (by omega) hg k hk
/-- The codes, and what they say. -/
theorem rt_codes {ps : List PieceD} (h : piecesB ps = true) (cols : Int) :
    (exCode ps cols = 0 ∧ stitchesB (exRes ps cols) = true ∧ (takenS (exRes ps cols) : Int) = cols) ∨
    (exCode ps cols = 10 ∧ sumP false ps 0 ≠ cols ∧ (sumP false (openPart ps) 0 = 0 ∨ cols < sumP false ps 0 ∨ (sumP false (openPart ps) 0 ≠ 0 ∧ ¬ cols < sumP false ps 0 ∧ (cols - sumP false ps 0).tmod (sumP false (openPart ps) 0) ≠ 0))) ∨
    (exCode ps cols = 2 ∧ (cols < 1 ∨ 8 < cols)) ∨ exCode ps cols = 5 := by
  obtain ⟨hs1, hs2⟩ := sums_small h false
  by_cases hr : inR cols 1 8 = true
  · have hr' := inR_iff.1 hr
    by_cases hn : needOf ps + timesOf ps cols * eachOf ps = cols
    · by_cases h16 : sumP true ps 0 + timesOf ps cols * sumP true (openPart ps) 0 ≤ 16
      · left
        have e0 : exCode ps cols = 0 := by rw [exCode, if_pos h, if_pos hr, if_pos hn, if_pos h16]
        have e1 : exRes ps cols = expP (timesOf ps cols) ps := (ex_ok e0).1
        have ht : 0 ≤ timesOf ps cols := (expT_range hs1.1 hr'.2).1
        have hk := expP_good (o := timesOf ps cols) ps.length 0 ps (Nat.le_refl _) (piecesB_good h).2.2
        have s1 := sums_exp h false ht
        have s2 := sums_exp h true ht
        rw [sumV_len] at s2
        rw [sumV_taken hk] at s1
        refine ⟨e0, ?_, ?_⟩
        · rw [e1]
          unfold stitchesB
          simp only [Bool.and_eq_true, decide_eq_true_eq, List.all_eq_true]
          exact ⟨hk, by omega⟩
        · rw [e1, s1]
          exact hn
      · right; right; right
        rw [exCode, if_pos h, if_pos hr, if_pos hn, if_neg h16]
    · right; left
      refine ⟨by rw [exCode, if_pos h, if_pos hr, if_neg hn], ?_⟩
      unfold timesOf expT needOf eachOf at hn
      generalize sumP false ps 0 = a at *
      generalize sumP false (openPart ps) 0 = b at *
      by_cases hab : a < cols ∧ 0 < b
      · rw [if_pos hab] at hn
        refine ⟨by omega, .inr (.inr ⟨by omega, by omega, ?_⟩)⟩
        intro hz
        have := Int.tdiv_mul_add_tmod (cols - a) b
        rw [hz, Int.add_zero] at this
        omega
      · rw [if_neg hab, Int.zero_mul, Int.add_zero] at hn
        exact ⟨hn, by omega⟩
  · right; right; left
    have hr' : ¬ (1 ≤ cols ∧ cols ≤ 8) := fun hh => hr (inR_iff.2 hh)
    exact ⟨by rw [exCode, if_pos h, if_neg hr], by omega⟩

end Go.Proofs.YtcgbogofmdjddaaDoor

/- The draws: pieces. -/
namespace Go.Proofs.YtcgbogofmdjddaaDoor
open Go Go.RowKit

/-- What the drawing of pieces at a depth yields. -/
def DrawsP (len bud : Nat) (d : Int) : Prop := ∀ (w : World) (g : Nat) (AB : Option Addr) (cB : Nat) (bs : List Int) (b : Nat), Sv w g AB cB bs b → b + bud ≤ 1152921504606000000 →
  Calls Tryd.prog 63 #[.pointer (some ⟨g, 0, none⟩), .int .i64 d] w fun e w' => ∃ (A' : Option Addr) (c' : Nat) (ps : List PieceD), e = .returned (.slice A' ps.length c') ∧ OwnPiece w' w.heap.size w'.heap.size A' c' ps ∧ ps.length ≤ len ∧ Sv w' g AB cB bs (b + bud) ∧ w.grownBy w' (some g)
theorem own_high {w : World} {lo hi n c : Nat} {A : Option Addr} {cs : List Value} {t : TypeId} {z : Nat} (h : OwnC w lo hi t z A n c cs) : ∀ q, (Value.slice A n c).ownBlock = some q → q < hi := by
  intro q hq
  rcases OwnC.form h with ⟨rfl, _⟩ | ⟨g3, _, rfl, h1, h2, _⟩
  · cases hq
  · injection hq with hq
    exact hq ▸ h2
set_option maxHeartbeats 16000000 in
set_option maxRecDepth 10000 in
theorem draws_step {Z X : Nat} (hZ : Z ≤ 1000) (hX : X ≤ 1000) (d : Int) (hd : 0 ≤ d ∧ d ≤ 3) (IH : d < 3 → DrawsP Z X (d + 1)) : DrawsP (3 * (1 + Z)) (1 + 3 * (4 + X)) d := by
  intro w g AB cB bs b hsv hb
  obtain ⟨iP, hi0, hu0, hu1, hu2⟩ := info_parts info_Piece
  have hgw := hsv.lt
  have o1 := (OwnC.lit (w := w) (lo := w.heap.size) (n := 0) 45 3 #[] (Nat.le_refl _) (Nat.zero_le _) rfl).mono (Nat.le_refl _) (show w.heap.size + 1 ≤ (w.alloc (.cells #[] 45)).heap.size by simp)
  obtain ⟨w1, hw1⟩ : ∃ w1, w1 = w.alloc (.cells #[] 45) := ⟨_, rfl⟩
  rw [← hw1] at o1
  have hs1 : Sv w1 g AB cB bs b := by rw [hw1]; exact hsv.alloc _
  have hg1 : w.grownBy w1 (some g) := by rw [hw1]; exact World.grownBy_alloc _ _ _
  have HX := Lib.hid IH; clear IH
  go_enter Tryd.func63, Tryd.ntmps63
  go_upto_region 2 with fail
  rw [← hw1]
  clear hw1
  go_wp2_with (fail)
  refine (sv_pick 3 (by decide) hs1 (by omega)).mono ?_
  rintro e w2 ⟨x, rfl, hx0, hx8, hs2, hg2, hz2⟩
  have hgr2 := hg1.trans hg2
  have o2 := OwnC.grownG o1 hg2 (.inl (by omega))
  rw [← hz2] at o2
  clear o1 hs1 hg1 hg2 hz2
  obtain ⟨m, hm⟩ : ∃ m : Nat, 1 + x = (m : Int) := ⟨(1 + x).toNat, by omega⟩
  have hm1 : 1 ≤ m ∧ m ≤ 3 := by omega
  have hwm : IntKind.i64.wrap (1 + x) = (m : Int) := by rw [hm]; exact IntWalk.i64_in _ ⟨by omega, by omega⟩
  clear hm hx0 hx8
  go_wp2_with (fail)
  go_loopw [5, 6] (fun ov kv wr => ∃ (A3 : Option Addr) (c3 : Nat) (ps : List PieceD) (k : Nat), ov = .slice A3 ps.length c3 ∧ kv = .int .i64 (k : Int) ∧ k ≤ m ∧ Hid (ps.length ≤ (m - k) * (1 + Z)) ∧ OwnPiece wr w.heap.size wr.heap.size A3 c3 ps ∧ Sv wr g AB cB bs (b + 1 + (m - k) * (4 + X)) ∧ w.grownBy wr (some g)) (fun _ kv _ => (intOf kv).toNat)
  case atStart => exact ⟨_, 0, [], m, rfl, rfl, Nat.le_refl _, Lib.hid (by simp), o2, by simpa using hs2, hgr2⟩
  case round =>
    clear o2 hs2 hgr2
    obtain ⟨A3, c3, ps, k, rfl, rfl, hkm, HL, o3, hs, hgr⟩ := hrel
    have hzr := hgr.size
    by_cases hk0 : 0 < k
    · have dk : decide ((k : Int) > 0) = true := decide_eq_true (by omega)
      have e1 : (k : Int) - 1 = ((k - 1 : Nat) : Int) := by omega
      have wk : IntKind.i64.wrap ((k : Int) - 1) = ((k - 1 : Nat) : Int) := by rw [e1]; exact IntWalk.i64_in _ ⟨by omega, by omega⟩
      clear e1
      have hj : (m - (k - 1)) = (m - k) + 1 := by omega
      have hlen : ps.length ≤ 3003 ∧ ps.length + (1 + Z) ≤ (m - (k - 1)) * (1 + Z) := by
        have := HL.out
        have h1 := Nat.mul_le_mul_right (1 + Z) (show m - k ≤ 2 by omega)
        rw [hj, Nat.succ_mul]; omega
      have hbud : b + 1 + (m - k) * (4 + X) + (4 + X) ≤ 1152921504606000000 ∧ b + 1 + (m - k) * (4 + X) + (4 + X) = b + 1 + (m - (k - 1)) * (4 + X) := by
        have h1 := Nat.mul_le_mul_right (4 + X) (show m - k ≤ 2 by omega)
        rw [hj, Nat.succ_mul]; omega
      have HLEN := Lib.hid hlen; have HBUD := Lib.hid hbud.2
      have hb1 := hbud.1
      have hpl := hlen.1
      clear hlen hbud HL hj
      generalize b + 1 + (m - k) * (4 + X) = B at *
      by_cases hd3 : d < 3
      · have d3 : decide (d < 3) = true := decide_eq_true hd3
        have IH3 := Lib.hid (HX.out hd3)
        have wd1 : IntKind.i64.wrap (d + 1) = d + 1 := IntWalk.i64_in _ ⟨by omega, by omega⟩
        go_wp2_with (fail)
        refine (sv_one 4 (by decide) hs (by omega)).mono ?_
        rintro e w2 ⟨x, rfl, hs2, hg2, hz2⟩
        have hgx := hgr.trans hg2
        have ox := OwnC.grownG o3 hg2 (.inl (by omega))
        rw [← hz2] at ox
        have hzx : w.heap.size ≤ w2.heap.size := by omega
        have hsx := hs2
        clear hs hgr o3 hg2 hz2 hs2
        cases x
        · obtain ⟨wL, hwL⟩ : ∃ wL, wL = w2.alloc (.cells #[.int .i64 1, .int .i64 1, .int .i64 2, .int .i64 2, .int .i64 3, .int .i64 4, .int .i64 5, .int .i64 6, .int .i64 7, .int .i64 8, .int .i64 10] 2) := ⟨_, rfl⟩
          have IwL : Ints wL (some ⟨w2.heap.size, 0, none⟩) [1, 1, 2, 2, 3, 4, 5, 6, 7, 8, 10] := by
            rw [hwL]
            exact OwnC.ints (lo := w2.heap.size) (hi := w2.heap.size + 1) (OwnC.lit (w := w2) (lo := w2.heap.size) (n := 11) 2 1 #[.int .i64 1, .int .i64 1, .int .i64 2, .int .i64 2, .int .i64 3, .int .i64 4, .int .i64 5, .int .i64 6, .int .i64 7, .int .i64 8, .int .i64 10] (Nat.le_refl _) (by decide) rfl)
          have hswL : Sv wL g AB cB bs (B + 1) := by rw [hwL]; exact hsx.alloc _
          have hgwL : w.grownBy wL (some g) := by rw [hwL]; exact gb_al hgx _
          have owL : OwnPiece wL w.heap.size wL.heap.size A3 c3 ps := by rw [hwL]; exact (OwnC.alloc ox _).mono (Nat.le_refl _) (by simp)
          have hzwL : w2.heap.size < wL.heap.size := by rw [hwL]; simp
          go_wp2_with (fail)
          rw [← hwL]
          refine (sv_among [1, 1, 2, 2, 3, 4, 5, 6, 7, 8, 10] (some ⟨w2.heap.size, 0, none⟩) 11 (by decide) hswL (by omega) IwL (fun a ha => by injection ha with ha; subst ha; show w2.heap.size ≠ g; omega)).mono ?_
          rintro e w6 ⟨y, rfl, -, hs6, hg6, hz6⟩
          have hgr6 := hgwL.trans hg6
          have o6 := OwnC.grownG owL hg6 (.inl (by omega))
          rw [← hz6] at o6
          have hz6' : w.heap.size ≤ w6.heap.size := by omega
          clear hwL IwL hswL hgwL owL hg6 hsx hgx ox hz6
          obtain ⟨wM, hwM⟩ : ∃ wM, wM = w6.alloc (.cells #[.int .i64 1, .int .i64 1, .int .i64 1, .int .i64 2, .int .i64 3] 2) := ⟨_, rfl⟩
          have IwM : Ints wM (some ⟨w6.heap.size, 0, none⟩) [1, 1, 1, 2, 3] := by
            rw [hwM]
            exact OwnC.ints (lo := w6.heap.size) (hi := w6.heap.size + 1) (OwnC.lit (w := w6) (lo := w6.heap.size) (n := 5) 2 1 #[.int .i64 1, .int .i64 1, .int .i64 1, .int .i64 2, .int .i64 3] (Nat.le_refl _) (by decide) rfl)
          have hswM : Sv wM g AB cB bs (B + 1 + 1) := by rw [hwM]; exact hs6.alloc _
          have hgwM : w.grownBy wM (some g) := by rw [hwM]; exact gb_al hgr6 _
          have owM : OwnPiece wM w.heap.size wM.heap.size A3 c3 ps := by rw [hwM]; exact (OwnC.alloc o6 _).mono (Nat.le_refl _) (by simp)
          have hzwM : w6.heap.size < wM.heap.size := by rw [hwM]; simp
          go_wp2_with (fail)
          rw [← hwM]
          refine (sv_among [1, 1, 1, 2, 3] (some ⟨w6.heap.size, 0, none⟩) 5 (by decide) hswM (by omega) IwM (fun a ha => by injection ha with ha; subst ha; show w6.heap.size ≠ g; omega)).mono ?_
          rintro e w7 ⟨tm, rfl, -, hs7, hg7, hz7⟩
          have hgr7 := hgwM.trans hg7
          have o7 := OwnC.grownG owM hg7 (.inl (by omega))
          rw [← hz7] at o7
          have hz7' : w.heap.size ≤ w7.heap.size := by omega
          have hpl2 := Lib.hid hpl
          clear hwM IwM hswM hgwM owM hg7 hs6 hgr6 o6 hz7
          go_wp2_with (at_builtin; refine wpList_append1 w7 [.int .i64 y, .int .i64 tm, .int .i64 0] _ rfl (.tmp 50) (.tmp 56) _ rfl 45 iP _ 3 24 Tryd.underlying30 hi0 hu0 hu1 hu2 rfl (by decide) rfl o7 hz7' 1 rfl rfl (by simp [Value.oneCell']) (by omega) (by decide) ?_; intro A9 c9 w8 ho8 hg8 hb8 hz8)
          have hrow := own_row o7
          refine ⟨⟨A9, c9, ps ++ [⟨y, tm, 0⟩], k - 1, by simp, rfl, by omega, Lib.hid ?_, ?_, ?_, ?_⟩, by simp [intOf]; omega⟩
          · have := HLEN.out; simp; omega
          · show OwnC _ _ _ _ _ _ _ _ _
            rw [cellsPiece_append, List.length_append]
            exact ho8
          · have h1 : Sv w8 g AB cB bs (B + 1 + 1 + 1) := (hs7.alloc (.cells #[.int .i64 y, .int .i64 tm, .int .i64 0] 45)).grown hg8 (fun q hq => by have := hrow q hq; omega)
            exact h1.mono (by have := HBUD.out; omega)
          · exact gb_app (gb_al hgr7 (.cells #[.int .i64 y, .int .i64 tm, .int .i64 0] 45)) hg8 (fun q hq => by have := hrow q hq; omega)
        · go_wp2_with (fail)
          refine (IH3.out w2 g AB cB bs _ hsx (by omega)).mono ?_
          rintro e w3 ⟨A7, c7, qs, rfl, oq, hql, hs3, hg3⟩
          have hgr3 := hgx.trans hg3
          have op3 := OwnC.grownG ox hg3 (.inl (by omega))
          have HW3 : Hid (w.heap.size ≤ w3.heap.size) := Lib.hid (by have := hg3.size; omega)
          obtain ⟨hi2, hhi2⟩ : ∃ hi2, hi2 = w2.heap.size := ⟨_, rfl⟩
          obtain ⟨hi3, hhi3⟩ : ∃ hi3, hi3 = w3.heap.size := ⟨_, rfl⟩
          have hi33 : hi3 ≤ w3.heap.size := by omega
          have hg33 : g < hi2 := by omega
          rw [← hhi2] at op3
          rw [← hhi2, ← hhi3] at oq
          clear hsx hgx ox hg3 hzx hhi2 hhi3
          have hqq : qs.length ≤ 1000 := by omega
          go_wp2_with (fail)
          refine (sv_pick 3 (by decide) hs3 (by omega)).mono ?_
          rintro e w4 ⟨tx, rfl, htx0, htx3, hs4, hg4, hz4⟩
          have hgr4 := hgr3.trans hg4
          have op4 := OwnC.grownG op3 hg4 (.inl (by omega))
          have oq4 := OwnC.grownG oq hg4 (.inl (by omega))
          obtain ⟨tm, htm⟩ : ∃ tm, IntKind.i64.wrap (1 + tx) = tm := ⟨_, rfl⟩
          have hi34 : hi3 ≤ w4.heap.size := by omega
          have HW4 : Hid (w.heap.size ≤ w4.heap.size) := Lib.hid (by have := HW3.out; omega)
          clear hs3 hgr3 op3 oq hg4 hz4 htx0 htx3 hi33 HW3
          by_cases hd0 : d = 0
          · have e0 : (d == 0) = true := by rw [hd0]; rfl
            clear hd0
            go_wp2_with (fail)
            refine (sv_one 2 (by decide) hs4 (by omega)).mono ?_
            rintro e w5 ⟨z, rfl, hs5, hg5, hz5⟩
            have hgx := hgr4.trans hg5
            have op5 := OwnC.grownG op4 hg5 (.inl (by omega))
            have oq := OwnC.grownG oq4 hg5 (.inl (by omega))
            have hi35 : hi3 ≤ w5.heap.size := by omega
            have hsx := hs5
            have HW : Hid (w.heap.size ≤ w5.heap.size) := Lib.hid (by have := HW4.out; omega)
            clear hs4 hgr4 op4 oq4 hg5 hz5 hs5 hi34 HW4
            have op := op5
            cases z
            · go_wp2_with (first
                | (at_builtin; refine wpList_append1 w5 [.int .i64 12, .int .i64 tm, .int .i64 (qs.length : Int)] _ rfl (.tmp 37) (.tmp 42) _ rfl 45 iP _ 3 24 Tryd.underlying30 hi0 hu0 hu1 hu2 rfl (by decide) rfl op HW.out 1 rfl rfl (by simp [Value.oneCell']) (by omega) (by decide) ?_; intro A8 c8 w8 ho8 hg8 hb8 hz8; have HZ8 := Lib.hid hz8; have hrow := own_row op; have hhi := own_high op; have oq8 : OwnPiece w8 hi2 hi3 A7 c7 qs := (OwnC.alloc oq (.cells #[.int .i64 12, .int .i64 tm, .int .i64 (qs.length : Int)] 45)).keep fun q h1 h2 h3 => hg8.block q (by simp; omega) (fun e => by have := hhi q e.symm; omega); have HL8 : Hid (w.heap.size ≤ w8.heap.size) := Lib.hid (by have := HW.out; omega); have hs8 : Sv w8 g AB cB bs (B + 1 + X + 1 + 1) := (hsx.alloc (.cells #[.int .i64 12, .int .i64 tm, .int .i64 (qs.length : Int)] 45)).grown hg8 (fun q hq => by have := hrow q hq; omega); have hgr8 := gb_app (gb_al hgx (.cells #[.int .i64 12, .int .i64 tm, .int .i64 (qs.length : Int)] 45)) hg8 (fun q hq => by have := hrow q hq; omega); clear hz8)
                | (at_builtin; refine wpList_appendC w8 rfl (.tmp 44) (.tmp 45) _ rfl 45 iP _ 3 24 Tryd.underlying30 hi0 hu0 hu1 hu2 rfl (by decide) rfl ho8 HL8.out A7 qs.length c7 (cellsPiece qs) rfl (cellsPiece_length qs) (OwnC.news oq8) (cellsPiece_one qs) (by unfold maxLen; omega) (by omega) ?_; intro A9 c9 w9 ho9 hg9 hb9))
              have hrow9 := own_row ho8
              go_roundw
              case rel =>
                refine ⟨A9, c9, ps ++ (⟨12, tm, (qs.length : Int)⟩ :: qs), k - 1, by simp; omega, rfl, by omega, Lib.hid ?_, ?_, ?_, ?_⟩
                · have := HLEN.out; simp; omega
                · show OwnC _ _ _ _ _ _ _ _ _
                  rw [cellsPiece_append, List.length_append, List.length_cons, Nat.add_comm qs.length 1, ← Nat.add_assoc]
                  have e9 : cellsPiece ps ++ cellsPiece (⟨12, tm, (qs.length : Int)⟩ :: qs) = cellsPiece ps ++ [.int .i64 12, .int .i64 tm, .int .i64 (qs.length : Int)] ++ cellsPiece qs := by rw [cellsPiece]; simp
                  rw [e9]
                  exact ho9
                · exact (hs8.grown hg9 (fun q hq => by have := hrow9 q hq; omega)).mono (by have := HBUD.out; omega)
                · exact gb_app hgr8 hg9 (fun q hq => by have := hrow9 q hq; omega)
              case measure => simp [intOf]; omega
            · go_wp2_with (first
                | (at_builtin; refine wpList_append1 w5 [.int .i64 12, .int .i64 0, .int .i64 (qs.length : Int)] _ rfl (.tmp 37) (.tmp 42) _ rfl 45 iP _ 3 24 Tryd.underlying30 hi0 hu0 hu1 hu2 rfl (by decide) rfl op HW.out 1 rfl rfl (by simp [Value.oneCell']) (by omega) (by decide) ?_; intro A8 c8 w8 ho8 hg8 hb8 hz8; have HZ8 := Lib.hid hz8; have hrow := own_row op; have hhi := own_high op; have oq8 : OwnPiece w8 hi2 hi3 A7 c7 qs := (OwnC.alloc oq (.cells #[.int .i64 12, .int .i64 0, .int .i64 (qs.length : Int)] 45)).keep fun q h1 h2 h3 => hg8.block q (by simp; omega) (fun e => by have := hhi q e.symm; omega); have HL8 : Hid (w.heap.size ≤ w8.heap.size) := Lib.hid (by have := HW.out; omega); have hs8 : Sv w8 g AB cB bs (B + 1 + X + 1 + 1) := (hsx.alloc (.cells #[.int .i64 12, .int .i64 0, .int .i64 (qs.length : Int)] 45)).grown hg8 (fun q hq => by have := hrow q hq; omega); have hgr8 := gb_app (gb_al hgx (.cells #[.int .i64 12, .int .i64 0, .int .i64 (qs.length : Int)] 45)) hg8 (fun q hq => by have := hrow q hq; omega); clear hz8)
                | (at_builtin; refine wpList_appendC w8 rfl (.tmp 44) (.tmp 45) _ rfl 45 iP _ 3 24 Tryd.underlying30 hi0 hu0 hu1 hu2 rfl (by decide) rfl ho8 HL8.out A7 qs.length c7 (cellsPiece qs) rfl (cellsPiece_length qs) (OwnC.news oq8) (cellsPiece_one qs) (by unfold maxLen; omega) (by omega) ?_; intro A9 c9 w9 ho9 hg9 hb9))
              have hrow9 := own_row ho8
              go_roundw
              case rel =>
                refine ⟨A9, c9, ps ++ (⟨12, 0, (qs.length : Int)⟩ :: qs), k - 1, by simp; omega, rfl, by omega, Lib.hid ?_, ?_, ?_, ?_⟩
                · have := HLEN.out; simp; omega
                · show OwnC _ _ _ _ _ _ _ _ _
                  rw [cellsPiece_append, List.length_append, List.length_cons, Nat.add_comm qs.length 1, ← Nat.add_assoc]
                  have e9 : cellsPiece ps ++ cellsPiece (⟨12, 0, (qs.length : Int)⟩ :: qs) = cellsPiece ps ++ [.int .i64 12, .int .i64 0, .int .i64 (qs.length : Int)] ++ cellsPiece qs := by rw [cellsPiece]; simp
                  rw [e9]
                  exact ho9
                · exact (hs8.grown hg9 (fun q hq => by have := hrow9 q hq; omega)).mono (by have := HBUD.out; omega)
                · exact gb_app hgr8 hg9 (fun q hq => by have := hrow9 q hq; omega)
              case measure => simp [intOf]; omega
          · have e0 : (d == 0) = false := by rw [beq_eq_false_iff_ne]; exact hd0
            have hgx := hgr4
            have op5 := op4
            have oq := oq4
            have hsx := hs4
            have HW := HW4
            have hi35 := hi34
            clear hs4 hgr4 op4 oq4 hi34 HW4
            have op := op5
            go_wp2_with (first
              | (at_builtin; refine wpList_append1 w4 [.int .i64 12, .int .i64 tm, .int .i64 (qs.length : Int)] _ rfl (.tmp 37) (.tmp 42) _ rfl 45 iP _ 3 24 Tryd.underlying30 hi0 hu0 hu1 hu2 rfl (by decide) rfl op HW.out 1 rfl rfl (by simp [Value.oneCell']) (by omega) (by decide) ?_; intro A8 c8 w8 ho8 hg8 hb8 hz8; have HZ8 := Lib.hid hz8; have hrow := own_row op; have hhi := own_high op; have oq8 : OwnPiece w8 hi2 hi3 A7 c7 qs := (OwnC.alloc oq (.cells #[.int .i64 12, .int .i64 tm, .int .i64 (qs.length : Int)] 45)).keep fun q h1 h2 h3 => hg8.block q (by simp; omega) (fun e => by have := hhi q e.symm; omega); have HL8 : Hid (w.heap.size ≤ w8.heap.size) := Lib.hid (by have := HW.out; omega); have hs8 : Sv w8 g AB cB bs (B + 1 + X + 1) := (hsx.alloc (.cells #[.int .i64 12, .int .i64 tm, .int .i64 (qs.length : Int)] 45)).grown hg8 (fun q hq => by have := hrow q hq; omega); have hgr8 := gb_app (gb_al hgx (.cells #[.int .i64 12, .int .i64 tm, .int .i64 (qs.length : Int)] 45)) hg8 (fun q hq => by have := hrow q hq; omega); clear hz8)
              | (at_builtin; refine wpList_appendC w8 rfl (.tmp 44) (.tmp 45) _ rfl 45 iP _ 3 24 Tryd.underlying30 hi0 hu0 hu1 hu2 rfl (by decide) rfl ho8 HL8.out A7 qs.length c7 (cellsPiece qs) rfl (cellsPiece_length qs) (OwnC.news oq8) (cellsPiece_one qs) (by unfold maxLen; omega) (by omega) ?_; intro A9 c9 w9 ho9 hg9 hb9))
            have hrow9 := own_row ho8
            go_roundw
            case rel =>
              refine ⟨A9, c9, ps ++ (⟨12, tm, (qs.length : Int)⟩ :: qs), k - 1, by simp; omega, rfl, by omega, Lib.hid ?_, ?_, ?_, ?_⟩
              · have := HLEN.out; simp; omega
              · show OwnC _ _ _ _ _ _ _ _ _
                rw [cellsPiece_append, List.length_append, List.length_cons, Nat.add_comm qs.length 1, ← Nat.add_assoc]
                have e9 : cellsPiece ps ++ cellsPiece (⟨12, tm, (qs.length : Int)⟩ :: qs) = cellsPiece ps ++ [.int .i64 12, .int .i64 tm, .int .i64 (qs.length : Int)] ++ cellsPiece qs := by rw [cellsPiece]; simp
                rw [e9]
                exact ho9
              · exact (hs8.grown hg9 (fun q hq => by have := hrow9 q hq; omega)).mono (by have := HBUD.out; omega)
              · exact gb_app hgr8 hg9 (fun q hq => by have := hrow9 q hq; omega)
            case measure => simp [intOf]; omega
      · have d3 : decide (d < 3) = false := decide_eq_false hd3
        have hgx := hgr
        have ox := o3
        have hsx := hs
        have hzx := hzr
        clear hs hgr o3
        obtain ⟨wL, hwL⟩ : ∃ wL, wL = wr.alloc (.cells #[.int .i64 1, .int .i64 1, .int .i64 2, .int .i64 2, .int .i64 3, .int .i64 4, .int .i64 5, .int .i64 6, .int .i64 7, .int .i64 8, .int .i64 10] 2) := ⟨_, rfl⟩
        have IwL : Ints wL (some ⟨wr.heap.size, 0, none⟩) [1, 1, 2, 2, 3, 4, 5, 6, 7, 8, 10] := by
          rw [hwL]
          exact OwnC.ints (lo := wr.heap.size) (hi := wr.heap.size + 1) (OwnC.lit (w := wr) (lo := wr.heap.size) (n := 11) 2 1 #[.int .i64 1, .int .i64 1, .int .i64 2, .int .i64 2, .int .i64 3, .int .i64 4, .int .i64 5, .int .i64 6, .int .i64 7, .int .i64 8, .int .i64 10] (Nat.le_refl _) (by decide) rfl)
        have hswL : Sv wL g AB cB bs (B) := by rw [hwL]; exact hsx.alloc _
        have hgwL : w.grownBy wL (some g) := by rw [hwL]; exact gb_al hgx _
        have owL : OwnPiece wL w.heap.size wL.heap.size A3 c3 ps := by rw [hwL]; exact (OwnC.alloc ox _).mono (Nat.le_refl _) (by simp)
        have hzwL : wr.heap.size < wL.heap.size := by rw [hwL]; simp
        go_wp2_with (fail)
        rw [← hwL]
        refine (sv_among [1, 1, 2, 2, 3, 4, 5, 6, 7, 8, 10] (some ⟨wr.heap.size, 0, none⟩) 11 (by decide) hswL (by omega) IwL (fun a ha => by injection ha with ha; subst ha; show wr.heap.size ≠ g; omega)).mono ?_
        rintro e w6 ⟨y, rfl, -, hs6, hg6, hz6⟩
        have hgr6 := hgwL.trans hg6
        have o6 := OwnC.grownG owL hg6 (.inl (by omega))
        rw [← hz6] at o6
        have hz6' : w.heap.size ≤ w6.heap.size := by omega
        clear hwL IwL hswL hgwL owL hg6 hsx hgx ox hz6
        obtain ⟨wM, hwM⟩ : ∃ wM, wM = w6.alloc (.cells #[.int .i64 1, .int .i64 1, .int .i64 1, .int .i64 2, .int .i64 3] 2) := ⟨_, rfl⟩
        have IwM : Ints wM (some ⟨w6.heap.size, 0, none⟩) [1, 1, 1, 2, 3] := by
          rw [hwM]
          exact OwnC.ints (lo := w6.heap.size) (hi := w6.heap.size + 1) (OwnC.lit (w := w6) (lo := w6.heap.size) (n := 5) 2 1 #[.int .i64 1, .int .i64 1, .int .i64 1, .int .i64 2, .int .i64 3] (Nat.le_refl _) (by decide) rfl)
        have hswM : Sv wM g AB cB bs (B + 1) := by rw [hwM]; exact hs6.alloc _
        have hgwM : w.grownBy wM (some g) := by rw [hwM]; exact gb_al hgr6 _
        have owM : OwnPiece wM w.heap.size wM.heap.size A3 c3 ps := by rw [hwM]; exact (OwnC.alloc o6 _).mono (Nat.le_refl _) (by simp)
        have hzwM : w6.heap.size < wM.heap.size := by rw [hwM]; simp
        go_wp2_with (fail)
        rw [← hwM]
        refine (sv_among [1, 1, 1, 2, 3] (some ⟨w6.heap.size, 0, none⟩) 5 (by decide) hswM (by omega) IwM (fun a ha => by injection ha with ha; subst ha; show w6.heap.size ≠ g; omega)).mono ?_
        rintro e w7 ⟨tm, rfl, -, hs7, hg7, hz7⟩
        have hgr7 := hgwM.trans hg7
        have o7 := OwnC.grownG owM hg7 (.inl (by omega))
        rw [← hz7] at o7
        have hz7' : w.heap.size ≤ w7.heap.size := by omega
        have hpl2 := Lib.hid hpl
        clear hwM IwM hswM hgwM owM hg7 hs6 hgr6 o6 hz7
        go_wp2_with (at_builtin; refine wpList_append1 w7 [.int .i64 y, .int .i64 tm, .int .i64 0] _ rfl (.tmp 50) (.tmp 56) _ rfl 45 iP _ 3 24 Tryd.underlying30 hi0 hu0 hu1 hu2 rfl (by decide) rfl o7 hz7' 1 rfl rfl (by simp [Value.oneCell']) (by omega) (by decide) ?_; intro A9 c9 w8 ho8 hg8 hb8 hz8)
        have hrow := own_row o7
        refine ⟨⟨A9, c9, ps ++ [⟨y, tm, 0⟩], k - 1, by simp, rfl, by omega, Lib.hid ?_, ?_, ?_, ?_⟩, by simp [intOf]; omega⟩
        · have := HLEN.out; simp; omega
        · show OwnC _ _ _ _ _ _ _ _ _
          rw [cellsPiece_append, List.length_append]
          exact ho8
        · have h1 : Sv w8 g AB cB bs (B + 1 + 1) := (hs7.alloc (.cells #[.int .i64 y, .int .i64 tm, .int .i64 0] 45)).grown hg8 (fun q hq => by have := hrow q hq; omega)
          exact h1.mono (by have := HBUD.out; omega)
        · exact gb_app (gb_al hgr7 (.cells #[.int .i64 y, .int .i64 tm, .int .i64 0] 45)) hg8 (fun q hq => by have := hrow q hq; omega)
    · have dk : decide ((k : Int) > 0) = false := decide_eq_false (by omega)
      have h1 := Nat.mul_le_mul_right (1 + Z) (show m - k ≤ 3 by omega)
      have h2 := Nat.mul_le_mul_right (4 + X) (show m - k ≤ 3 by omega)
      go_wp2_with (fail)
      go_ret
      exact ⟨A3, c3, ps, rfl, o3, by have := HL.out; omega, hs.mono (by omega), hgr⟩

theorem spec_l16Draw (w : World) (g : Nat) (AB : Option Addr) (cB : Nat) (bs : List Int) (b : Nat) (hsv : Sv w g AB cB bs b) (hb : b ≤ 1152921504605000000) :
    Calls Tryd.prog 63 #[.pointer (some ⟨g, 0, none⟩), .int .i64 0] w fun e w' => ∃ (A' : Option Addr) (c' : Nat) (ps : List PieceD), e = .returned (.slice A' ps.length c') ∧ OwnPiece w' w.heap.size w'.heap.size A' c' ps ∧ ps.length ≤ 120 ∧ Sv w' g AB cB bs (b + 1000) ∧ w.grownBy w' (some g) := by
  have d3 : DrawsP 3 13 3 := draws_step (Z := 0) (X := 0) (by decide) (by decide) 3 (by decide) (fun h => by omega)
  have d2 : DrawsP 12 52 2 := draws_step (Z := 3) (X := 13) (by decide) (by decide) 2 (by decide) (fun _ => d3)
  have d1 : DrawsP 39 169 1 := draws_step (Z := 12) (X := 52) (by decide) (by decide) 1 (by decide) (fun _ => d2)
  have d0 : DrawsP 120 520 0 := draws_step (Z := 39) (X := 169) (by decide) (by decide) 0 (by decide) (fun _ => d1)
  refine (d0 w g AB cB bs b hsv (by omega)).mono ?_
  rintro e w' ⟨A', c', ps, he, ho, hl, hs, hg⟩
  exact ⟨A', c', ps, he, ho, hl, hs.mono (by omega), hg⟩

end Go.Proofs.YtcgbogofmdjddaaDoor

/- The draws: valid pieces; a byte as a number. -/
namespace Go.Proofs.YtcgbogofmdjddaaDoor
open Go Go.RowKit

theorem laws_a2At (bs : List Int) (A : Option Addr) (c k : Nat) (n : Int) (w : World) (h : Bytes w A bs) (_hl : bs.length ≤ 1000000) (hn : 1 ≤ n ∧ n ≤ 1000) :
    Calls Tryd.prog 27 #[.slice A bs.length c, .int .i64 (k : Int), .int .i64 n] w fun e w' => ∃ x : Int, e = .returned (.int .i64 x) ∧ 0 ≤ x ∧ x < n ∧ w = w' := by
  have dn : decide (n < 1) = false := decide_eq_false (by omega)
  by_cases hk : k < bs.length
  · have dk : decide ((k : Int) ≥ (bs.length : Int)) = false := decide_eq_false (by omega)
    obtain ⟨b, off, x, rfl, _, hc, hx0, hx1⟩ := h k hk
    have q1 : (0 : Int) ≤ (k : Int) := by omega
    have q2 : (k : Int) < (bs.length : Int) := by omega
    have wx : IntKind.i64.wrap x = x := IntWalk.i64_in _ ⟨by omega, by omega⟩
    have e1 : x.tmod n = x % n := Int.tmod_eq_emod_of_nonneg hx0
    have e2 := Int.emod_nonneg x (show n ≠ 0 by omega)
    have e3 := Int.emod_lt_of_pos x (show 0 < n by omega)
    have hm0 : ¬ n = 0 := by omega
    go_enter Tryd.func27, Tryd.ntmps27
    go_wp2_with (fail)
    go_ret
    exact ⟨_, rfl, e2, e3, rfl⟩
  · have dk : decide ((k : Int) ≥ (bs.length : Int)) = true := decide_eq_true (by omega)
    go_enter Tryd.func27, Tryd.ntmps27
    go_wp2_with (fail)
    go_ret
    exact ⟨0, rfl, by omega, by omega, rfl⟩

set_option maxHeartbeats 1000000 in
theorem spec_A2Pieces (A : Option Addr) (c : Nat) (bs : List Int) (w : World) (hby : Bytes w A bs) (hl : bs.length ≤ 1099511627776) :
    Calls Tryd.prog 24 #[.slice A bs.length c] w fun e w' => ∃ (A' : Option Addr) (c' : Nat) (ps : List PieceD), e = .returned (.slice A' ps.length c') ∧ OwnPiece w' w.heap.size w'.heap.size A' c' ps ∧ piecesB ps = true ∧ Below w.heap.size w w' := by
  go_enter Tryd.func24, Tryd.ntmps24
  go_wp2_with (fail)
  refine (spec_l00From A c bs _ hby hl).mono ?_
  rintro e w2 ⟨rfl, hs2, b2, hz2⟩
  have HZ2 := Lib.hid hz2; clear hz2
  go_wp2_with (fail)
  refine (spec_l16Draw w2 w.heap.size A c bs 0 hs2 (by decide)).mono ?_
  rintro e w3 ⟨A3, c3, ps, rfl, o3, hl3, hs3, hg3⟩
  have hb3 : Below w.heap.size w w3 := b2.trans (gb_below hg3 (Nat.le_refl _) (by have := HZ2.out; omega))
  have o4 := OwnC.mono o3 (show w.heap.size ≤ w2.heap.size by have := HZ2.out; omega) (Nat.le_refl _)
  go_wp2_with (fail)
  refine (spec_l16Ok ps A3 c3 w3 (OwnC.pieces o3) (by omega)).mono ?_
  rintro e w4 ⟨rfl, b4⟩
  have hb4 := hb3.trans (b4.mono hb3.size)
  have o5 := (OwnC.below o4 b4 (Nat.le_refl _)).mono (Nat.le_refl _) b4.size
  cases hst : piecesB ps
  · go_wp2_with (fail)
    go_ret
    refine ⟨_, 1, [⟨1, 2, 0⟩], rfl, ?_, piecesB_of (range_all _ (by intro p hp; rw [List.mem_singleton] at hp; subst hp; decide)) (by decide), ?_⟩
    · exact (OwnC.lit (w := w4) (lo := w.heap.size) (n := 1) 45 3 #[.int .i64 1, .int .i64 2, .int .i64 0] hb4.size (by decide) rfl).mono (Nat.le_refl _) (by simp)
    · exact hb4.alloc hb4.size _
  · go_wp2_with (fail)
    go_ret
    exact ⟨A3, c3, ps, rfl, o5, hst, hb4⟩

end Go.Proofs.YtcgbogofmdjddaaDoor
