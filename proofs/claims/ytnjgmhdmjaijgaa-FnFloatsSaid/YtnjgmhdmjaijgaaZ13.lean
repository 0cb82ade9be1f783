/- Steps of the proof, joined from several texts: GK GH GN ME. -/
import Derived.Test.YtnjgmhdmjaijgaaZ12
import Derived.Test.YtnjgmhdmjaijgaaZ5
import Derived.Deep.DeepCutAuto
import Derived.Test.YtnjgmhdmjaijgaaZ9
import Derived.Test.YtnjgmhdmjaijgaaZ6

/- Drawn colour charts, the given side. -/
namespace Go.Proofs.Ytnjgmhdmjaijgaa
open Go Go.RowKit

theorem carriers_snoc {xs : List Int} {x : Int} (h : xs.all carrierB = true) (hx : 1 ≤ x ∧ x ≤ 4) : (xs ++ [x]).all carrierB = true := by
  rw [List.all_append, h, List.all_cons, List.all_nil, show carrierB x = true from inR_iff.2 hx]; rfl
theorem rows_snoc {n : Int} {xss : List (List Int)} {xs : List Int} (h : xss.all (rowOfB n) = true) (hl : (xs.length : Int) = n) (hx : xs.all carrierB = true) : (xss ++ [xs]).all (rowOfB n) = true := by
  rw [List.all_append, h, List.all_cons, List.all_nil, rowOfB, hx, decide_eq_true hl]; rfl
set_option maxHeartbeats 8000000 in
set_option maxRecDepth 10000 in
theorem spec_l19Draw (w : World) (g : Nat) (AB : Option Addr) (cB : Nat) (bs : List Int) (b : Nat) (hsv : Sv w g AB cB bs b) (hb : b ≤ 144115188075855872) :
    Calls Try.prog 35 #[.pointer (some ⟨g, 0, none⟩)] w fun e w' => ∃ (n : Int) (xss : List (List Int)) (A' : Option Addr) (c' : Nat), e = .returned (.agg #[.int .i64 n, .slice A' xss.length c']) ∧ coloursB n xss = true ∧ OwnII w' w.heap.size w'.heap.size A' xss.length c' xss ∧ Sv w' g AB cB bs (b + 1000) ∧ w.grownBy w' (some g) := by
  obtain ⟨iI, hi0, hu0, hu1, hu2⟩ := info_parts info_int64
  obtain ⟨iR, hj0, hy0, hy1, hy2⟩ := info_parts info_ints
  have t1 : (43 : TypeId) ≠ 2 := by decide
  have t2 : (43 : TypeId) ≠ 22 := by decide
  have t3 : (2 : TypeId) ≠ 22 := by decide
  have hgw := hsv.lt
  obtain ⟨w1, hw1⟩ : ∃ w1, w1 = w.alloc (.cells #[.int .i64 0, .slice none 0 0] 43) := ⟨_, rfl⟩
  have kz1 : Blk w1 w.heap.size 43 #[.int .i64 0, .slice none 0 0] := by rw [hw1]; exact Blk.new w _ _
  have hg1 : w.grownBy w1 (some g) := by rw [hw1]; exact World.grownBy_alloc _ _ _
  have hs1 : Sv w1 g AB cB bs b := by rw [hw1]; exact hsv.alloc _
  go_enter Try.func35, Try.ntmps35
  go_upto_region 1 with fail
  rw [← hw1]
  clear hw1
  go_wp2_with (fail)
  refine (sv_pick 8 (by decide) hs1 (by omega)).mono ?_
  rintro e w2 ⟨x, rfl, hx0, hx8, hs2, hg2, hz2⟩
  have kz2 := kz1.grownG hg2 (by omega)
  have hgw2 := hg1.trans hg2
  clear kz1 hg1 hs1 hg2 hz2
  obtain ⟨n, hn⟩ : ∃ n : Nat, 1 + x = (n : Int) := ⟨(1 + x).toNat, by omega⟩
  have hn1 : 1 ≤ n ∧ n ≤ 8 := by omega
  have hwn : IntKind.i64.wrap (1 + x) = (n : Int) := by rw [hn]; exact IntWalk.i64_in _ ⟨by omega, by omega⟩
  clear hn hx0 hx8
  obtain ⟨w3, hw3⟩ : ∃ w3, w3 = w2.alloc (.cells #[.int .i64 (n : Int), .slice none 0 0] 43) := ⟨_, rfl⟩
  obtain ⟨gC, hgC⟩ : ∃ gC, gC = w2.heap.size := ⟨_, rfl⟩
  have kz3 : Blk w3 w.heap.size 43 #[.int .i64 0, .slice none 0 0] := by rw [hw3]; exact kz2.alloc _
  have hzC : w.heap.size < gC := by rw [hgC]; exact kz2.lt
  have kx3 : Blk w3 gC 43 #[.int .i64 (n : Int), .slice none 0 0] := by rw [hw3, hgC]; exact Blk.new w2 _ _
  have hgw3 : w.grownBy w3 (some g) := by rw [hw3]; exact gb_al hgw2 _
  have hs3 : Sv w3 g AB cB bs (b + 1) := by rw [hw3]; exact hs2.alloc _
  go_upto_region 2 with fail
  rw [← hw3, ← hgC]
  clear hw3 hgC kz2 hgw2 hs2
  have hlx := kx3.lt
  have HL : Hid (Ints (w3.alloc (.cells #[.int .i64 1, .int .i64 2, .int .i64 2, .int .i64 2, .int .i64 3, .int .i64 4] 2)) (some ⟨w3.heap.size, 0, none⟩) [1, 2, 2, 2, 3, 4]) := Lib.hid (OwnC.ints (OwnC.lit (w := w3) (lo := w3.heap.size) (n := 6) 2 1 #[.int .i64 1, .int .i64 2, .int .i64 2, .int .i64 2, .int .i64 3, .int .i64 4] (Nat.le_refl _) (by decide) rfl))
  go_wp2_with (fail)
  refine (sv_among [1, 2, 2, 2, 3, 4] (some ⟨w3.heap.size, 0, none⟩) 6 (by decide) (hs3.alloc _) (by omega) HL.out (fun a ha => by injection ha with ha; subst ha; show w3.heap.size ≠ g; omega)).mono ?_
  rintro e w4 ⟨y, rfl, hy, hs4, hg4, hz4⟩
  have hy4 : 1 ≤ y ∧ y ≤ 4 := by
    simp only [List.mem_cons, List.not_mem_nil, or_false] at hy
    omega
  have kz4 := (kz3.alloc (.cells #[.int .i64 1, .int .i64 2, .int .i64 2, .int .i64 2, .int .i64 3, .int .i64 4] 2)).grownG hg4 (by omega)
  have kx4 := (kx3.alloc (.cells #[.int .i64 1, .int .i64 2, .int .i64 2, .int .i64 2, .int .i64 3, .int .i64 4] 2)).grownG hg4 (by omega)
  have hgw4 := (gb_al hgw3 (.cells #[.int .i64 1, .int .i64 2, .int .i64 2, .int .i64 2, .int .i64 3, .int .i64 4] 2)).trans hg4
  clear kz3 kx3 hgw3 hs3 HL hy hg4 hz4 hlx
  go_wp2_with (fail)
  refine (sv_pick 3 (by decide) hs4 (by omega)).mono ?_
  rintro e w5 ⟨x, rfl, hx0, hx3, hs5, hg5, hz5⟩
  have kz5 := kz4.grownG hg5 (by omega)
  have kx5 := kx4.grownG hg5 (by omega)
  have hgw5 := hgw4.trans hg5
  clear kz4 kx4 hgw4 hs4 hg5 hz5
  obtain ⟨m, hm⟩ : ∃ m : Nat, 1 + x = (m : Int) := ⟨(1 + x).toNat, by omega⟩
  have hm1 : 1 ≤ m ∧ m ≤ 3 := by omega
  have hwm : IntKind.i64.wrap (1 + x) = (m : Int) := by rw [hm]; exact IntWalk.i64_in _ ⟨by omega, by omega⟩
  clear hm hx0 hx3
  go_upto_if 19 with (go_at_call 69; refine (sv_one 12 (by decide) hs5 (by omega)).mono ?_; rintro e w6 ⟨x6, rfl, hs6, hg6, hz6⟩)
  have kz6 := kz5.grownG hg6 (by omega)
  have kx6 := kx5.grownG hg6 (by omega)
  have hgw6 := hgw5.trans hg6
  clear kz5 kx5 hgw5 hs5 hg6 hz6
  go_cut [5] (fun rv wx => (∃ q : Nat, rv = .int .i64 (q : Int) ∧ 1 ≤ q ∧ q ≤ 8) ∧ w6 = wx)
  case first =>
    cases x6
    · go_wp2_with (fail)
      go_meet
      exact ⟨⟨m, rfl, by omega, by omega⟩, rfl⟩
    · go_wp2_with (fail)
      go_meet
      exact ⟨⟨8, rfl, by omega, by omega⟩, rfl⟩
  case rest =>
  obtain ⟨⟨q, rfl, hq1, hq8⟩, rfl⟩ := hcut
  clear hwm hm1
  have hlx := kx6.lt
  go_wp2_with (fail)
  go_loopw [5] (fun kv wr => ∃ (k : Nat) (done : List (List Int)) (L : Nat) (A' : Option Addr) (c' : Nat) (cs : List Value), kv = .int .i64 (k : Int) ∧ Hid (L = done.length) ∧ L + k = q ∧ Blk wr w.heap.size 43 #[.int .i64 0, .slice none 0 0] ∧ Blk wr gC 43 #[.int .i64 (n : Int), .slice A' L c'] ∧ OwnC wr (gC + 1) wr.heap.size 22 1 A' L c' cs ∧ CellsII wr (gC + 1) wr.heap.size cs done ∧ Hid (done.all (rowOfB n) = true) ∧ Sv wr g AB cB bs (b + 10 + L * 10) ∧ w.grownBy wr (some g)) (fun kv _ => (intOf kv).toNat)
  case atStart => exact ⟨q, [], 0, none, 0, [], rfl, Lib.hid rfl, by omega, kz6, kx6, OwnC.nil _ _ _ _ _, ⟨rfl, fun k xs hx => by simp at hx, fun i j v v' g hi' => by simp at hi'⟩, Lib.hid rfl, hs6.mono (by omega), hgw6⟩
  case round =>
    clear kz6 kx6 hs6 hgw6 hlx
    obtain ⟨k, done, L, A', c', cs, rfl, HL, hLk, kz, kx, ho, hci, HALL, hs, hgr⟩ := hrel
    have hlx := kx.lt
    obtain ⟨s0, s1⟩ := kx.c2
    by_cases hk0 : k = 0
    · subst hk0
      have dk : decide (((0 : Nat) : Int) > 0) = false := by decide
      have hcol : coloursB (n : Int) done = true := by
        unfold coloursB
        rw [HALL.out]
        simp only [Bool.and_true, Bool.and_eq_true]
        have := HL.out
        exact ⟨inR_iff.2 (by omega), inR_iff.2 (by omega)⟩
      have HCOL := Lib.hid hcol; clear hcol
      obtain ⟨y0, y1⟩ := kz.c2
      have g0 := kz.frozen 0
      have g1 := kz.frozen 1
      go_wp2_with (fail)
      have k1 := kz.set20 (.int .i64 (n : Int))
      have k2 := k1.set21 (.slice A' L c')
      obtain ⟨r0, r1⟩ := k2.c2
      refine bodyPost_ret (v := .agg #[.int .i64 (n : Int), .slice A' L c']) (by simp [results, Try.results35, go_sem, r0, r1]) rfl ⟨(n : Int), done, A', c', by rw [HL.out], HCOL.out, ?_, ?_, ?_⟩
      · rw [← HL.out]
        exact ⟨cs, ((ho.farT kz t2 0 _).farT k1 t2 1 _).mono (by omega) (by simp), ((hci.farT kz t1 0 _).farT k1 t1 1 _).mono (by omega) (by simp)⟩
      · exact ((hs.store (by omega) _).store (by omega) _).mono (by omega)
      · exact gb_set (gb_set hgr (Nat.le_refl _) _) (Nat.le_refl _) _
    · have dk : decide ((k : Int) > 0) = true := decide_eq_true (by omega)
      have dk2 : decide (0 < k) = true := decide_eq_true (by omega)
      obtain ⟨k', hk'⟩ : ∃ k', k = k' + 1 := ⟨k - 1, by omega⟩
      have wk : IntKind.i64.wrap ((k : Int) - 1) = (k' : Int) := by rw [show (k : Int) - 1 = (k' : Int) by omega]; exact IntWalk.i64_in _ ⟨by omega, by omega⟩
      have hkk : L + 1 + k' = q ∧ k' < k := by omega
      clear hk' hk0
      obtain ⟨W1, rfl⟩ : ∃ W1, W1 = wr := ⟨wr, rfl⟩
      go_wp2_with (fail)
      go_loopw [6, 7] (fun rv jv ws => ∃ (j : Nat) (A4 : Option Addr) (c4 : Nat) (cur : List Int), j ≤ n ∧ jv = .int .i64 (j : Int) ∧ rv = .slice A4 j c4 ∧ Hid (j = cur.length) ∧ OwnC ws W1.heap.size ws.heap.size 2 1 A4 j c4 (cur.map (Value.int .i64)) ∧ Hid (cur.all carrierB = true) ∧ Sv ws g AB cB bs (b + 10 + L * 10 + j) ∧ W1.grownBy ws (some g)) (fun _ jv _ => n - (intOf jv).toNat)
      case atStart =>
        exact ⟨0, some ⟨W1.heap.size, 0, none⟩, 0, [], Nat.zero_le _, rfl, rfl, Lib.hid rfl, (OwnC.lit (w := W1) (lo := W1.heap.size) (n := 0) 2 1 #[] (Nat.le_refl _) (Nat.zero_le _) rfl).mono (Nat.le_refl _) (by simp), Lib.hid rfl, hs.alloc _, World.grownBy_alloc _ _ _⟩
      case round =>
        clear s0 s1
        obtain ⟨j, A4, c4, cur, hj, rfl, rfl, HCUR, o4, HCAR, hs4, hg4⟩ := hrel
        have kx4 := kx.grownG hg4 (by omega)
        obtain ⟨s0, s1⟩ := kx4.c2
        have hz4 := hg4.size
        by_cases hjn : j < n
        · have dj : decide ((j : Int) < (n : Int)) = true := decide_eq_true (by omega)
          go_wp2_with (fail)
          refine (sv_pick y (by omega) hs4 (by omega)).mono ?_
          rintro e w7 ⟨x, rfl, hx0, hx1, hs7, hg7, hz7⟩
          have hxx : 1 ≤ 1 + x ∧ 1 + x ≤ 4 := by omega
          obtain ⟨z, hz⟩ : ∃ z, z = 1 + x := ⟨_, rfl⟩
          have wx : IntKind.i64.wrap (1 + x) = z := by rw [hz]; exact IntWalk.i64_in _ ⟨by omega, by omega⟩
          rw [← hz] at hxx
          clear hz
          have o7 : OwnC w7 W1.heap.size w7.heap.size 2 1 A4 j c4 (cur.map (Value.int .i64)) := by rw [hz7]; exact o4.grownG hg7 (.inl (by omega))
          have hgr7 := hg4.trans hg7
          have hz7' : W1.heap.size ≤ w7.heap.size := hgr7.size
          have HCAR2 : Hid ((cur ++ [z]).all carrierB = true) := Lib.hid (carriers_snoc HCAR.out hxx)
          have HCUR2 : Hid (j + 1 = (cur ++ [z]).length) := Lib.hid (by rw [List.length_append, List.length_singleton, HCUR.out])
          clear hx0 hx1 hs4 hg4 o4 hz4 kx4 s0 s1 hg7 hz7
          go_wp2_with (at_builtin; refine wpList_append1 w7 [.int .i64 z] _ rfl (.tmp 31) (.tmp 36) _ rfl 2 iI _ 1 8 Try.underlying22 hi0 hu0 hu1 hu2 rfl (by decide) rfl o7 hz7' 1 rfl rfl (by simp [Value.oneCell']) (by omega) (by decide) ?_; intro A6 c6 w8 ho8 hg8 hb8 hz8)
          have hr : ∀ q, (Value.slice A4 j c4).ownBlock = some q → W1.heap.size ≤ q := fun q hq => by
            rcases o7.form with ⟨hA, _⟩ | ⟨g2, _, hA, h1, _⟩
            · rw [hA] at hq; cases hq
            · rw [hA] at hq; injection hq with hq; exact hq ▸ h1
          refine ⟨⟨j + 1, A6, c6, cur ++ [z], by omega, by go_num, rfl, HCUR2, by simpa using ho8, HCAR2, ((hs7.alloc _).grown hg8 (fun q hq => by have := hr q hq; omega)).mono (by omega), gb_app (gb_al hgr7 _) hg8 (fun q hq => hr q hq)⟩, by simp [intOf]; omega⟩
        · obtain rfl : j = n := by omega
          have dj : decide ((j : Int) < (j : Int)) = false := decide_eq_false (by omega)
          have kz4 := kz.grownG hg4 (by omega)
          have ho4 : OwnC wr (gC + 1) W1.heap.size 22 1 A' L c' cs := ho.grownG hg4 (.inl (by omega))
          have hci4 : CellsII wr (gC + 1) W1.heap.size cs done := hci.keep fun q h1 h2 h3 => hg4.block q h3 (fun e => by injection e with e; omega)
          have hgr4 := hgr.trans hg4
          have ho' := ho4.mono (Nat.le_refl _) hz4
          have hlo4 : gC + 1 ≤ wr.heap.size := by omega
          have HROWS : Hid ((done ++ [cur]).all (rowOfB (j : Int)) = true) := Lib.hid (rows_snoc HALL.out (by rw [← HCUR.out]) HCAR.out)
          have HL2 : Hid (L + 1 = (done ++ [cur]).length) := Lib.hid (by rw [List.length_append, List.length_singleton, HL.out])
          clear kz kx ho hci hs hgr
          go_wp2_with (at_builtin; refine wpList_append1 wr [.slice A4 j c4] _ rfl (.tmp 39) (.tmp 41) _ rfl 22 iR _ 1 24 Try.underlying41 hj0 hy0 hy1 hy2 rfl (by decide) rfl ho' hlo4 1 rfl rfl (by simp [Value.oneCell']) (by omega) (by decide) ?_; intro A5 c5 w5 ho5 hg5 hb5 hz5; have ko5 := (kx4.alloc (.cells #[.slice A4 j c4] 22)).grownT (ho'.alloc (.cells #[.slice A4 j c4] 22)) t2 hg5; obtain ⟨s0', s1'⟩ := ko5.c2; have f1 := ko5.frozen 1)
          have ko5 := (kx4.alloc (.cells #[.slice A4 j c4] 22)).grownT (ho'.alloc (.cells #[.slice A4 j c4] 22)) t2 hg5
          have kz5 := (kz4.alloc (.cells #[.slice A4 j c4] 22)).grownT (ho'.alloc (.cells #[.slice A4 j c4] 22)) t2 hg5
          have or5 := (o4.alloc (.cells #[.slice A4 j c4] 22)).grownT (ho'.alloc (.cells #[.slice A4 j c4] 22)) t3 hg5
          have ci5 := (hci4.keep (w' := wr.alloc (.cells #[.slice A4 j c4] 22)) fun q _ _ h3 => Below.heap_alloc wr _ q h3).grownT (ho'.alloc (.cells #[.slice A4 j c4] 22)) t3 hg5
          have hr : ∀ q, (Value.slice A' L c').ownBlock = some q → gC + 1 ≤ q := fun q hq => by
            rcases ho'.form with ⟨hA, _⟩ | ⟨g2, _, hA, h1, _⟩
            · rw [hA] at hq; cases hq
            · rw [hA] at hq; injection hq with hq; exact hq ▸ h1
          have hs5 := (hs4.alloc (.cells #[.slice A4 j c4] 22)).grown hg5 (fun q hq => by have := hr q hq; omega)
          have hgr5 := gb_app (gb_al hgr4 (.cells #[.slice A4 j c4] 22)) hg5 (fun q hq => by have := hr q hq; omega)
          have or6 : OwnC w5 W1.heap.size w5.heap.size 2 1 A4 cur.length c4 (cur.map (Value.int .i64)) := by rw [← HCUR.out]; exact or5.mono (Nat.le_refl _) (by omega)
          have ci6 : CellsII w5 (gC + 1) w5.heap.size (cs ++ [.slice A4 cur.length c4]) (done ++ [cur]) := ci5.snoc or6 (by omega) (by omega)
          rw [← HCUR.out] at ci6
          refine ⟨⟨k', done ++ [cur], L + 1, A5, c5, cs ++ [.slice A4 j c4], rfl, HL2, by omega, kz5.far (p := ⟨gC, 1, none⟩) (by show w.heap.size ≠ gC; omega) _, ko5.set21 _, (ho5.farT ko5 t2 1 _).mono (Nat.le_refl _) (by simp), (ci6.farT ko5 t1 1 _).mono (Nat.le_refl _) (by simp), HROWS, (hs5.store (q := gC) (j := 1) (by omega) _).mono (by omega), gb_set hgr5 (p := ⟨gC, 1, none⟩) (by show w.heap.size ≤ gC; omega) _⟩, by simp [intOf]; omega⟩

set_option maxHeartbeats 1000000 in
theorem spec_A2Colours (A : Option Addr) (c : Nat) (bs : List Int) (w : World) (hby : Bytes w A bs) (hl : bs.length ≤ 1099511627776) :
    Calls Try.prog 19 #[.slice A bs.length c] w fun e w' => ∃ (n : Int) (xss : List (List Int)) (A' : Option Addr) (c' : Nat), e = .returned (.agg #[.int .i64 n, .slice A' xss.length c']) ∧ coloursB n xss = true ∧ OwnII w' w.heap.size w'.heap.size A' xss.length c' xss ∧ Below w.heap.size w w' := by
  have t1 : (43 : TypeId) ≠ 2 := by decide
  have t2 : (43 : TypeId) ≠ 22 := by decide
  have hb1 : Below w.heap.size w (w.alloc (.cells #[.int .i64 0, .slice none 0 0] 43)) := by (repeat (first | exact Below.refl _ _ | assumption | apply Below.drew | apply below_drewN | (refine Below.alloc ?_ (by first | omega | (simp; done) | (simp; omega)) _) | (refine Below.setCell ?_ (by first | omega | (simp; done) | (simp; omega)) _)))
  have kz := Blk.new w 43 #[.int .i64 0, .slice none 0 0]
  go_enter Try.func19, Try.ntmps19
  go_wp2_with (fail)
  refine (spec_l00From A c bs _ (hby.of_cells (cells_below hb1)) hl).mono ?_
  rintro e w2 ⟨rfl, hs2, b2, hz2⟩
  have hb2 : Below w.heap.size w w2 := hb1.trans (b2.mono (by simp))
  have kz2 := kz.below b2 (by simp)
  have hz1 : (w.alloc (.cells #[.int .i64 0, .slice none 0 0] 43)).heap.size = w.heap.size + 1 := by simp
  rw [hz1] at hs2 hz2 ⊢
  have HZ2 := Lib.hid hz2; clear hz2
  clear kz hb1 b2 hz1
  go_wp2_with (fail)
  refine (spec_l19Draw w2 (w.heap.size + 1) A c bs 0 hs2 (by decide)).mono ?_
  rintro e w3 ⟨n, xss, A3, c3, rfl, hch, ⟨cs, o3, ci3⟩, hs3, hg3⟩
  have kz3 := kz2.grownG hg3 (by omega)
  have hb3 : Below w.heap.size w w3 := hb2.trans (gb_below hg3 (by omega) (by have := HZ2.out; omega))
  have HZ3 := Lib.hid (show w2.heap.size ≤ w3.heap.size from hg3.size)
  obtain ⟨y0, y1⟩ := kz3.c2
  have g0 := kz3.frozen 0
  have g1 := kz3.frozen 1
  go_wp2_with (fail)
  have k1 := kz3.set20 (.int .i64 n)
  have k2 := k1.set21 (.slice A3 xss.length c3)
  obtain ⟨r0, r1⟩ := k2.c2
  refine bodyPost_ret (v := .agg #[.int .i64 n, .slice A3 xss.length c3]) (by simp [results, Try.results19, go_sem, r0, r1]) rfl ⟨n, xss, A3, c3, rfl, hch, ?_, ?_⟩
  · exact ⟨cs, ((o3.farT kz3 t2 0 _).farT k1 t2 1 _).mono (by have := HZ2.out; omega) (by simp), ((ci3.farT kz3 t1 0 _).farT k1 t1 1 _).mono (by have := HZ2.out; omega) (by simp)⟩
  · (repeat (first | exact Below.refl _ _ | assumption | apply Below.drew | apply below_drewN | (refine Below.alloc ?_ (by first | omega | (simp; done) | (simp; omega)) _) | (refine Below.setCell ?_ (by first | omega | (simp; done) | (simp; omega)) _)))

end Go.Proofs.Ytnjgmhdmjaijgaa

/- The laws over draws: what they compare with. -/
namespace Go.Proofs.Ytnjgmhdmjaijgaa
open Go Go.RowKit

theorem laws_a2Long (A B : Option Addr) (n c m d : Nat) (w : World) : Calls Try.prog 18 #[.slice A n c, .slice B m d] w fun e w' => e = .returned (.bool (decide (3000 < n) || decide (3000 < m))) ∧ w = w' := by
  by_cases h1 : 3000 < n
  · have d1 : decide ((n : Int) > 3000) = true := decide_eq_true (by omega)
    go_enter Try.func18, Try.ntmps18
    go_wp2_with (fail)
    go_ret
    exact ⟨by simp [h1], rfl⟩
  · have d1 : decide ((n : Int) > 3000) = false := decide_eq_false (by omega)
    go_enter Try.func18, Try.ntmps18
    go_wp2_with (fail)
    go_ret
    refine ⟨ret_bool ?_, rfl⟩
    rw [decide_eq_false h1, Bool.false_or]
    exact decide_eq_decide.2 (by omega)

end Go.Proofs.Ytnjgmhdmjaijgaa

/- A number of some bytes. -/
namespace Go.Proofs.Ytnjgmhdmjaijgaa
open Go Go.RowKit

theorem laws_a2At (bs : List Int) (A : Option Addr) (c k : Nat) (n : Int) (w : World) (h : Bytes w A bs) (_hl : bs.length ≤ 1000000) (hn : 1 ≤ n ∧ n ≤ 1000) :
    Calls Try.prog 20 #[.slice A bs.length c, .int .i64 (k : Int), .int .i64 n] w fun e w' => ∃ x : Int, e = .returned (.int .i64 x) ∧ 0 ≤ x ∧ x < n ∧ w = w' := by
  have dn : decide (n < 1) = false := decide_eq_false (by omega)
  by_cases hk : k < bs.length
  · have dk : decide ((k : Int) ≥ (bs.length : Int)) = false := decide_eq_false (by omega)
    obtain ⟨b, off, x, rfl, _, hc, hx0, hx1⟩ := h k hk
    have q1 : (0 : Int) ≤ (k : Int) := by omega
    have q2 : (k : Int) < (bs.length : Int) := by omega
    have wx : IntKind.i64.wrap x = x := IntWalk.i64_in _ ⟨by omega, by omega⟩
    have e1 : x.tmod n = x % n := Int.tmod_eq_emod_of_nonneg hx0
    have e2 := Int.emod_nonneg x (show n ≠ 0 by omega)
    have e3 := Int.emod_lt_of_pos x (show 0 < n by omega)
    have hm0 : ¬ n = 0 := by omega
    go_enter Try.func20, Try.ntmps20
    go_wp2_with (fail)
    go_ret
    exact ⟨_, rfl, e2, e3, rfl⟩
  · have dk : decide ((k : Int) ≥ (bs.length : Int)) = true := decide_eq_true (by omega)
    go_enter Try.func20, Try.ntmps20
    go_wp2_with (fail)
    go_ret
    exact ⟨0, rfl, by omega, by omega, rfl⟩

end Go.Proofs.Ytnjgmhdmjaijgaa

/- MirrorColours, the program's function. -/
namespace Go.Proofs.Ytnjgmhdmjaijgaa
open Go.RowKit

theorem OwnII.farT {w : World} {lo hi n : Nat} {A : Option Addr} {c : Nat} {xss : List (List Int)} {g : Nat} {t : TypeId} {bs : Array Value} (h : OwnII w lo hi A n c xss) (hb : Blk w g t bs) (t1 : t ≠ 2) (t2 : t ≠ 22) (j : Nat) (u : Value) : OwnII (w.setCell ⟨g, j, none⟩ u) lo hi A n c xss := by
  obtain ⟨cs, h1, h2⟩ := h.ex
  exact ⟨cs, h1.farT hb t2 j u, h2.farT hb t1 j u⟩
theorem cntII_rev (xss : List (List Int)) : cntII (xss.map List.reverse) = cntII xss := by
  induction xss with
  | nil => rfl
  | cons x r ih => simp [cntII, ih]
def revTo (xss : List (List Int)) (k : Nat) : List (List Int) := (xss.take k).map List.reverse ++ xss.drop k
theorem revTo_length (xss : List (List Int)) (k : Nat) : (revTo xss k).length = xss.length := by simp [revTo]; omega
theorem revTo_at {xss : List (List Int)} {k : Nat} {row : List Int} (h : xss[k]? = some row) : (revTo xss k)[k]? = some row ∧ (revTo xss k).set k row.reverse = revTo xss (k + 1) := by
  have hk : k < xss.length := (List.getElem?_eq_some_iff.1 h).1
  have hl : ((xss.take k).map List.reverse).length = k := by simp; omega
  refine ⟨?_, ?_⟩
  · unfold revTo
    rw [List.getElem?_append_right (by omega), hl, Nat.sub_self, List.getElem?_drop, Nat.add_zero]
    exact h
  · unfold revTo
    rw [List.set_append_right _ _ (by omega), hl, Nat.sub_self, drop_cons h, List.set_cons_zero, take_snoc h, List.map_append, List.append_assoc]
    rfl

set_option maxHeartbeats 4000000 in
set_option maxRecDepth 10000 in
theorem impl_MirrorColours (n : Int) (xss : List (List Int)) (A : Option Addr) (c : Nat) (w : World) (h : Ints2 w A xss) (hl : xss.length ≤ 9223372036854775807) :
    Calls Try.prog 23 #[.agg #[.int .i64 n, .slice A xss.length c]] w fun e w' => ∃ A' c', e = .returned (.tuple #[.agg #[.int .i64 (mirC n xss).n, .slice A' (mirC n xss).xs.length c'], .int .i64 (mirCode n xss)]) ∧ OwnII w' w.heap.size w'.heap.size A' (mirC n xss).xs.length c' (mirC n xss).xs ∧ Below w.heap.size w w' := by
  have hb1 : Below w.heap.size w ((w.alloc (.cells #[.int .i64 n, .slice A xss.length c] 43)).alloc (.cells #[.int .i64 0, .slice none 0 0] 43)) := by (repeat (first | exact Below.refl _ _ | assumption | apply Below.drew | apply below_drewN | (refine Below.alloc ?_ (by first | omega | (simp; done) | (simp; omega)) _) | (refine Below.setCell ?_ (by first | omega | (simp; done) | (simp; omega)) _)))
  have ka := (Blk.new w 43 #[.int .i64 n, .slice A xss.length c]).alloc (.cells #[.int .i64 0, .slice none 0 0] 43)
  have kz : Blk ((w.alloc (.cells #[.int .i64 n, .slice A xss.length c] 43)).alloc (.cells #[.int .i64 0, .slice none 0 0] 43)) (w.heap.size + 1) 43 #[.int .i64 0, .slice none 0 0] := by simpa using Blk.new (w.alloc (.cells #[.int .i64 n, .slice A xss.length c] 43)) 43 #[.int .i64 0, .slice none 0 0]
  have t1 : (43 : TypeId) ≠ 2 := by decide
  have t2 : (43 : TypeId) ≠ 22 := by decide
  by_cases hv : coloursB n xss = true
  · have HF : Hid (mirC n xss = ⟨n, xss.map List.reverse⟩ ∧ mirCode n xss = 0) := Lib.hid ⟨by rw [mirC, if_pos hv], by rw [mirCode, if_pos hv]⟩
    have HV := Lib.hid hv
    have hms := mirC_size n xss
    rw [HF.out.1] at hms
    have hx8 : xss.length ≤ 8 := by simpa using hms.1
    have hsz : sizeII xss ≤ 1048576 := by
      have h1 := cntII_rev xss
      have h2 : cntII (xss.map List.reverse) ≤ 64 := hms.2
      unfold sizeII
      omega
    have hrl : ∀ row ∈ xss, row.length ≤ 1048576 := by
      intro row hr
      obtain ⟨k, hk⟩ := List.getElem?_of_mem hr
      have := cntII_at hk
      unfold sizeII at hsz
      omega
    have HRL := Lib.hid hrl; clear hrl hms
    go_enter Try.func23, Try.ntmps23
    go_wp2_with (fail)
    refine (impl_ValidColours n xss A c _ (h.below hb1) hl).mono ?_; rintro e w2 ⟨rfl, b2⟩
    have hb2 : Below w.heap.size w w2 := hb1.trans (b2.mono (by simp only [World.size_alloc]; omega))
    have ka2 := ka.below b2 (by simp; omega)
    have kz2 := kz.below b2 (by simp)
    have z2 := b2.size
    simp only [World.size_alloc] at z2
    go_wp2_with (fail)
    go_region_held3 (fun W' => W'.cell? ⟨w.heap.size, 0, none⟩ = some (.int .i64 n) ∧ W'.cell? ⟨w.heap.size, 1, none⟩ = some (.slice A xss.length c)) (first | exact ka2.c2 | exact (ka2.below b3 (by omega)).c2 | exact ((ka2.below b3 (by omega)).alloc _).c2 | exact (((ka2.below b3 (by omega)).alloc _).far (p := ⟨w3.heap.size, 0, none⟩) (by show w.heap.size ≠ w3.heap.size; have := b3.size; omega) _).c2 | exact ((((ka2.below b3 (by omega)).alloc _).far (p := ⟨w3.heap.size, 0, none⟩) (by show w.heap.size ≠ w3.heap.size; have := b3.size; omega) _).far (p := ⟨w3.heap.size, 1, none⟩) (by show w.heap.size ≠ w3.heap.size; have := b3.size; omega) _).c2 | exact (ka2.alloc (.cells #[.int .i64 0, .slice none 0 0] 43)).c2 | exact ((ka2.alloc (.cells #[.int .i64 0, .slice none 0 0] 43)).below b3 (by simp only [World.size_alloc]; omega)).c2 | exact ((ka2.alloc (.cells #[.int .i64 0, .slice none 0 0] 43)).far (p := ⟨w2.heap.size, 0, none⟩) (by show w.heap.size ≠ w2.heap.size; omega) _).c2 | exact (((ka2.alloc (.cells #[.int .i64 0, .slice none 0 0] 43)).below b3 (by simp only [World.size_alloc]; omega)).far (p := ⟨w2.heap.size, 0, none⟩) (by show w.heap.size ≠ w2.heap.size; omega) _).c2 | exact ((((ka2.alloc (.cells #[.int .i64 0, .slice none 0 0] 43)).below b3 (by simp only [World.size_alloc]; omega)).far (p := ⟨w2.heap.size, 0, none⟩) (by show w.heap.size ≠ w2.heap.size; omega) _).far (p := ⟨w2.heap.size, 1, none⟩) (by show w.heap.size ≠ w2.heap.size; omega) _).c2)
      (first | (go_at_call 39; refine (impl_copyLists xss A c _ (h.below (by first | exact Below.drew2 hb2 | exact Below.drew2 (Below.alloc hb2 (by omega) _))) hsz).mono ?_; rintro e w3 ⟨A3, c3, rfl, o3, b3'⟩; have b3 := undrew b3'; (first | (have kt : Blk w3 w2.heap.size 43 #[.int .i64 0, .slice none 0 0] := (Blk.new w2 43 #[.int .i64 0, .slice none 0 0]).below b3 (by simp); obtain ⟨u0, u1⟩ := kt.c2; have u2 := kt.frozen 0; have u3 := kt.frozen 1) | skip)))
    · have z3 := b3.size
      have KT := Blk.new w3 43 #[.int .i64 n, .slice A3 xss.length c3]
      have KZ := (kz2.below b3 (by omega)).alloc (.cells #[.int .i64 n, .slice A3 xss.length c3] 43)
      have OI : OwnII (w3.alloc (.cells #[.int .i64 n, .slice A3 xss.length c3] 43)) w2.heap.size w3.heap.size A3 xss.length c3 xss := o3.alloc _
      have HB : Below w.heap.size w (w3.alloc (.cells #[.int .i64 n, .slice A3 xss.length c3] 43)) := (hb2.trans (b3.mono (by omega))).alloc (by omega) _
      have hws : w3.heap.size ≤ (w3.alloc (.cells #[.int .i64 n, .slice A3 xss.length c3] 43)).heap.size := by simp
      generalize w3.alloc (.cells #[.int .i64 n, .slice A3 xss.length c3] 43) = W at KT KZ OI HB hws ⊢
      have hx : ∀ k, k < xss.length → xss[k]? = some (xss[k]?.getD []) := fun k hk => by rw [List.getElem?_eq_getElem hk]; rfl
      have HX := Lib.hid hx; clear hx
      obtain ⟨p0, p1⟩ := KT.c2
      have HO := Lib.hid OI; clear OI
      go_wp2_with (fail)
      go_loopw [20] (fun iv wr => ∃ k : Nat, k ≤ xss.length ∧ iv = .int .i64 k ∧ OwnII wr (w2.heap.size) w3.heap.size A3 xss.length c3 (revTo xss k) ∧ Upd (w2.heap.size) w3.heap.size W wr) (fun iv _ => xss.length - (intOf iv).toNat)
      case atStart => exact ⟨0, Nat.zero_le _, rfl, by simpa [revTo] using HO.out, Upd.refl _ _ _⟩
      case round =>
        clear HO p0 p1
        obtain ⟨k, hk, rfl, ho, hu⟩ := hrel
        by_cases hlt : k < xss.length
        · obtain ⟨hat, hset⟩ := revTo_at (HX.out k hlt)
          have hrw := HRL.out _ (List.mem_of_getElem? (HX.out k hlt))
          generalize xss[k]?.getD [] = row at hat hset hrw
          have HS := Lib.hid hset; clear hset
          obtain ⟨g, A', c', l, h', rfl, hcell, hoi, _, hback⟩ := ho.open_ hat
          clear hat
          go_wp2_with (fail)
          refine (slices_Reverse A' c' row l h' _ hoi hrw).mono ?_; rintro e w5 ⟨rfl, o5, u5⟩
          obtain ⟨o6, u6⟩ := hback w5 row.reverse (by simp) u5 o5
          rw [HS.out] at o6
          go_wp2_with (fail)
          go_roundw
          case rel => exact ⟨k + 1, by omega, by go_num, o6, hu.trans u6⟩
          case measure => simp [intOf]; omega
        · obtain rfl : k = xss.length := by omega
          have ho' : OwnII wr (w2.heap.size) w3.heap.size A3 xss.length c3 (xss.map List.reverse) := by
            have := ho
            unfold revTo at this
            rwa [take_all (Nat.le_refl _), drop_all (Nat.le_refl _), List.append_nil] at this
          have kt' := KT.upd hu (by omega)
          have kz' := KZ.upd hu (by omega)
          obtain ⟨p0, p1⟩ := kt'.c2
          obtain ⟨r0, r1⟩ := kz'.c2
          have g0 := kz'.frozen 0
          have g1 := kz'.frozen 1
          have hz3 := hu.size
          have hb9 : Below w.heap.size w wr := HB.trans ((hu.below (by omega)).mono (by omega))
          go_wp2_with (fail)
          refine bodyPost_ret (v := .tuple #[.agg #[.int .i64 (mirC n xss).n, .slice A3 (mirC n xss).xs.length c3], .int .i64 (mirCode n xss)]) (by rw [HF.out.1, HF.out.2]; simp [results, Try.results23, go_sem, r0, r1]) rfl ⟨A3, c3, rfl, ?_, ?_⟩
          · rw [HF.out.1]
            show OwnII _ _ _ _ (xss.map List.reverse).length _ (xss.map List.reverse)
            rw [List.length_map]
            have k1 := kz'.set20 (.int .i64 n)
            exact ((ho'.farT kz' t1 t2 0 _).farT k1 t1 t2 1 _).mono (by omega) (by simp; omega)
          · (repeat (first | exact Below.refl _ _ | assumption | apply Below.drew | apply below_drewN | (refine Below.alloc ?_ (by first | omega | (simp; done) | (simp; omega)) _) | (refine Below.setCell ?_ (by first | omega | (simp; done) | (simp; omega)) _)))
    · have z3 := b3.size
      simp only [World.size_alloc] at z3
      have kt : Blk w3 w2.heap.size 43 #[.int .i64 0, .slice none 0 0] := (Blk.new w2 43 #[.int .i64 0, .slice none 0 0]).below b3 (by simp)
      have kz3 := (kz2.alloc (.cells #[.int .i64 0, .slice none 0 0] 43)).below b3 (by simp only [World.size_alloc]; omega)
      have KT := (kt.set20 (.int .i64 n)).set21 (.slice A3 xss.length c3)
      have KZ := (kz3.far (p := ⟨w2.heap.size, 0, none⟩) (by show w.heap.size + 1 ≠ w2.heap.size; omega) (.int .i64 n)).far (p := ⟨w2.heap.size, 1, none⟩) (by show w.heap.size + 1 ≠ w2.heap.size; omega) (.slice A3 xss.length c3)
      have o3' : OwnII w3 (w2.heap.size + 1) w3.heap.size A3 xss.length c3 xss := by
        have h9 : (World.drew (w2.alloc (.cells #[.int .i64 0, .slice none 0 0] 43))).heap.size = w2.heap.size + 1 := by show (w2.alloc _).heap.size = _; simp
        rwa [h9] at o3
      have OI := (o3'.farT kt t1 t2 0 (.int .i64 n)).farT (kt.set20 (.int .i64 n)) t1 t2 1 (.slice A3 xss.length c3)
      have hb3' : Below w.heap.size w w3 := (hb2.alloc (by omega) _).trans (b3.mono (by simp only [World.size_alloc]; omega))
      have HB : Below w.heap.size w ((w3.setCell ⟨w2.heap.size, 0, none⟩ (.int .i64 n)).setCell ⟨w2.heap.size, 1, none⟩ (.slice A3 xss.length c3)) := by (repeat (first | exact Below.refl _ _ | assumption | apply Below.drew | apply below_drewN | (refine Below.alloc ?_ (by first | omega | (simp; done) | (simp; omega)) _) | (refine Below.setCell ?_ (by first | omega | (simp; done) | (simp; omega)) _)))
      have hws : w3.heap.size ≤ ((w3.setCell ⟨w2.heap.size, 0, none⟩ (.int .i64 n)).setCell ⟨w2.heap.size, 1, none⟩ (.slice A3 xss.length c3)).heap.size := by simp
      generalize (w3.setCell ⟨w2.heap.size, 0, none⟩ (.int .i64 n)).setCell ⟨w2.heap.size, 1, none⟩ (.slice A3 xss.length c3) = W at KT KZ OI HB hws ⊢
      have hx : ∀ k, k < xss.length → xss[k]? = some (xss[k]?.getD []) := fun k hk => by rw [List.getElem?_eq_getElem hk]; rfl
      have HX := Lib.hid hx; clear hx
      obtain ⟨p0, p1⟩ := KT.c2
      have HO := Lib.hid OI; clear OI
      go_wp2_with (fail)
      go_loopw [20] (fun iv wr => ∃ k : Nat, k ≤ xss.length ∧ iv = .int .i64 k ∧ OwnII wr (w2.heap.size + 1) w3.heap.size A3 xss.length c3 (revTo xss k) ∧ Upd (w2.heap.size + 1) w3.heap.size W wr) (fun iv _ => xss.length - (intOf iv).toNat)
      case atStart => exact ⟨0, Nat.zero_le _, rfl, by simpa [revTo] using HO.out, Upd.refl _ _ _⟩
      case round =>
        clear HO p0 p1
        obtain ⟨k, hk, rfl, ho, hu⟩ := hrel
        by_cases hlt : k < xss.length
        · obtain ⟨hat, hset⟩ := revTo_at (HX.out k hlt)
          have hrw := HRL.out _ (List.mem_of_getElem? (HX.out k hlt))
          generalize xss[k]?.getD [] = row at hat hset hrw
          have HS := Lib.hid hset; clear hset
          obtain ⟨g, A', c', l, h', rfl, hcell, hoi, _, hback⟩ := ho.open_ hat
          clear hat
          go_wp2_with (fail)
          refine (slices_Reverse A' c' row l h' _ hoi hrw).mono ?_; rintro e w5 ⟨rfl, o5, u5⟩
          obtain ⟨o6, u6⟩ := hback w5 row.reverse (by simp) u5 o5
          rw [HS.out] at o6
          go_wp2_with (fail)
          go_roundw
          case rel => exact ⟨k + 1, by omega, by go_num, o6, hu.trans u6⟩
          case measure => simp [intOf]; omega
        · obtain rfl : k = xss.length := by omega
          have ho' : OwnII wr (w2.heap.size + 1) w3.heap.size A3 xss.length c3 (xss.map List.reverse) := by
            have := ho
            unfold revTo at this
            rwa [take_all (Nat.le_refl _), drop_all (Nat.le_refl _), List.append_nil] at this
          have kt' := KT.upd hu (by omega)
          have kz' := KZ.upd hu (by omega)
          obtain ⟨p0, p1⟩ := kt'.c2
          obtain ⟨r0, r1⟩ := kz'.c2
          have g0 := kz'.frozen 0
          have g1 := kz'.frozen 1
          have hz3 := hu.size
          have hb9 : Below w.heap.size w wr := HB.trans ((hu.below (by omega)).mono (by omega))
          go_wp2_with (fail)
          refine bodyPost_ret (v := .tuple #[.agg #[.int .i64 (mirC n xss).n, .slice A3 (mirC n xss).xs.length c3], .int .i64 (mirCode n xss)]) (by rw [HF.out.1, HF.out.2]; simp [results, Try.results23, go_sem, r0, r1]) rfl ⟨A3, c3, rfl, ?_, ?_⟩
          · rw [HF.out.1]
            show OwnII _ _ _ _ (xss.map List.reverse).length _ (xss.map List.reverse)
            rw [List.length_map]
            have k1 := kz'.set20 (.int .i64 n)
            exact ((ho'.farT kz' t1 t2 0 _).farT k1 t1 t2 1 _).mono (by omega) (by simp; omega)
          · (repeat (first | exact Below.refl _ _ | assumption | apply Below.drew | apply below_drewN | (refine Below.alloc ?_ (by first | omega | (simp; done) | (simp; omega)) _) | (refine Below.setCell ?_ (by first | omega | (simp; done) | (simp; omega)) _)))
  · have hv' : coloursB n xss = false := by simpa using hv
    have HF : Hid (mirC n xss = ⟨0, []⟩ ∧ mirCode n xss = 1) := Lib.hid ⟨by rw [mirC, if_neg hv], by rw [mirCode, if_neg hv]⟩
    clear hv
    go_enter Try.func23, Try.ntmps23
    go_wp2_with (fail)
    refine (impl_ValidColours n xss A c _ (h.below hb1) hl).mono ?_; rintro e w2 ⟨rfl, b2⟩
    have hb2 : Below w.heap.size w w2 := hb1.trans (b2.mono (by simp only [World.size_alloc]; omega))
    have kz2 := kz.below b2 (by simp)
    obtain ⟨r0, r1⟩ := kz2.c2
    have g0 := kz2.frozen 0
    have g1 := kz2.frozen 1
    go_wp2_with (fail)
    refine bodyPost_ret (v := .tuple #[.agg #[.int .i64 (mirC n xss).n, .slice none (mirC n xss).xs.length 0], .int .i64 (mirCode n xss)]) (by rw [HF.out.1, HF.out.2]; simp [results, Try.results23, go_sem, r0, r1]) rfl ⟨none, 0, rfl, ?_, ?_⟩
    · rw [HF.out.1]
      exact ⟨[], OwnC.nil _ _ _ _ _, ⟨rfl, fun k xs hx => by simp at hx, fun i j v v' g hi' => by simp at hi'⟩⟩
    · (repeat (first | exact Below.refl _ _ | assumption | apply Below.drew | apply below_drewN | (refine Below.alloc ?_ (by first | omega | (simp; done) | (simp; omega)) _) | (refine Below.setCell ?_ (by first | omega | (simp; done) | (simp; omega)) _)))

end Go.Proofs.Ytnjgmhdmjaijgaa
