/- Steps of the proof, joined from several texts: HD. -/
import Derived.Test.YthjamohaeahipaaZ10

/- Knitting by hand: the given side's stitch. -/
namespace Go.Proofs.Ythjamohaeahipaa
open Go Go.RowKit

theorem knit_one (d car v : Int) (i : Nat) (E : List EventD) (cs : List (List Int)) (hi : i < cs.length) : knitN d car 1 i 1 ⟨E, cs.set i [v]⟩ = ⟨E ++ [evYarn d car 2 (tot (cs.take i)) v 1], cs.set i [1]⟩ := by
  have e1 : (cs.set i [v])[i]? = some [v] := List.getElem?_set_self hi
  have e2 : knitAt d 1 0 = 0 := by unfold knitAt; split <;> rfl
  have e3 : (cs.set i [v]).take i = cs.take i := by rw [List.take_set_of_le (Nat.le_refl _)]
  unfold knitN knitN knitStep
  simp only [e1, List.length_singleton, e2]
  unfold knitTo
  simp only [e3, List.set_set]
  simp [sumI]

/-- Another list of sizes is put in a stitch's place. -/
theorem SHd.setRow {z : Option (Nat × Array Value)} {lo g : Nat} {w w1 : World} {s : HS} (h : SHd z lo g w s) {i : Nat} (hi : i < s.cells.length) {A' : Option Addr} {c' : Nat} {xs : List Int} (hb : Below w.heap.size w w1) (ho : OwnI w1 w.heap.size w1.heap.size A' c' xs) :
    ∃ gC cC, w.cell? ⟨g, 1, none⟩ = some (.slice (some ⟨gC, 0, none⟩) s.cells.length cC) ∧ (∃ v, w1.cell? ⟨gC, i, none⟩ = some v) ∧ w1.frozen? ⟨gC, i, none⟩ = false ∧
      SHd z lo g (w1.setCell ⟨gC, i, none⟩ (.slice A' xs.length c')) ⟨s.evs, s.cells.set i xs⟩ ∧ Below lo w (w1.setCell ⟨gC, i, none⟩ (.slice A' xs.length c')) := by
  have hlz := h.lt
  obtain ⟨⟨AE, cE, AC, cC, hk, hev, hc⟩, hlo⟩ := h
  have hz0 : ∀ q cz, z = some (q, cz) → q < w.heap.size := fun q cz hz => by obtain ⟨_, _, _, h3⟩ := hc.ex; exact (h3 q cz hz).1.lt
  have hk1 := hk.below hb hk.lt
  have hev1 := (OwnC.below hev hb (Nat.le_refl _))
  obtain ⟨cs, hc1, hc2, hcz⟩ := (hc.below hb (Nat.le_refl _)).ex
  have hlen := hc2.1
  obtain ⟨gC, rfl, hgC1, hgC2, hcell, hfr⟩ := hc1.cell (j := i) (by omega)
  have hblk : ∃ cur, Blk w1 gC 22 cur := by
    rcases hc1.form with ⟨h1, _⟩ | ⟨q, cur, h1, _, _, h2, _⟩
    · cases h1
    · injection h1 with h1
      injection h1 with h1
      subst h1
      exact ⟨cur, h2⟩
  obtain ⟨cur, hblk⟩ := hblk
  have hne : g ≠ gC := by
    rintro rfl
    have := hk1.symm.trans hblk
    injection this with this
    injection this with _ this
    exact absurd this (by decide)
  have hset := hc2.set (k := i) ho (Nat.le_refl _) hb.size hlz hi
  have hst := OwnC.store (j := i) hc1 (.slice A' xs.length c')
  refine ⟨gC, cC, hk.c2.2, ⟨_, hcell⟩, hfr, ⟨⟨AE, cE, some ⟨gC, 0, none⟩, cC, ?_, ?_, ?_⟩, hlo⟩, (hb.mono hlz).setCell hgC1 _⟩
  · dsimp only
    rw [List.length_set]
    exact hk1.far (p := ⟨gC, i, none⟩) hne _
  · exact (OwnC.farT hev1 hblk (by decide) i _).mono (Nat.le_refl _) (by have := hb.size; simp; omega)
  · dsimp only
    rw [List.length_set]
    refine ⟨cs.set i (.slice A' xs.length c'), hst.1.mono (Nat.le_refl _) (by have := hb.size; simp; omega), (hset.farT hblk (by decide) i _).mono (Nat.le_refl _) (by simp), fun q cz hz => ⟨?_, fun v hv e => ?_⟩⟩
    · refine (hcz q cz hz).1.far (p := ⟨gC, i, none⟩) ?_ _
      show q ≠ gC
      rintro rfl
      have := (hcz _ cz hz).1.symm.trans hblk
      injection this with this
      injection this with _ this
      exact absurd this (by decide)
    · rcases List.mem_or_eq_of_mem_set hv with hv | rfl
      · exact (hcz q cz hz).2 v hv e
      · have h1 := ho.own.lt q e
        have h2 := hz0 q cz hz
        omega
theorem spec_knit {z : Option (Nat × Array Value)} {lo g m : Nat} {s : HS} {S : Int} {w : World} (h : SHd z lo g w s) (hG : GoodC m s.cells S) (hS : S ≤ 100) (hm : m ≤ 16) {i : Nat} {c : List Int} (hx : s.cells[i]? = some c) {gr : Nat} {d car : Int} {vk : Value} (bed : Int) (hr : Blk w gr 29 #[.int .i64 d, .int .i64 car, vk]) (hgr : gr < lo) (hd : d = 1 ∨ d = -1) (hl : s.evs.length ≤ 90000) :
    Calls Try.prog 57 #[.pointer (some ⟨g, 0, none⟩), .pointer (some ⟨gr, 0, none⟩), .int .i64 (i : Int), .int .i64 bed] w fun e w' =>
      e = .returned (.tuple #[]) ∧ SHd z lo g w' (knitN d car bed i c.length s) ∧ Below lo w w' := by
  rcases hd with rfl | rfl
  · exact spec_knit_p h hG hS hm hx bed hr hgr hl
  · exact spec_knit_n h hG hS hm hx bed hr hgr hl

set_option maxHeartbeats 1000000 in
theorem spec_stitch_1 {z : Option (Nat × Array Value)} {lo g m : Nat} {s : HS} {S : Int} {w : World} (h : SHd z lo g w s) (hG : GoodC m s.cells S) (hS : S ≤ 100) (hm : m ≤ 16) {i : Nat} {c : List Int} (hx : s.cells[i]? = some c) {gr : Nat} {d car : Int} {AK : Option Addr} {ck : Nat} {ks : List Int} (hr : Blk w gr 29 #[.int .i64 d, .int .i64 car, .slice AK ks.length ck]) (hks : Ints w AK ks) (hk : ks[i]? = some 1) (hgr : gr < lo) (hd : d = 1 ∨ d = -1) (hl : s.evs.length ≤ 90000) :
    Calls Try.prog 36 #[.pointer (some ⟨g, 0, none⟩), .pointer (some ⟨gr, 0, none⟩), .int .i64 (i : Int)] w fun e w' =>
      e = .returned (.tuple #[]) ∧ SHd z lo g w' (makeTo d car 1 i c s) ∧ Below lo w w' := by
  have hil : i < ks.length := (List.getElem?_eq_some_iff.1 hk).1
  obtain ⟨b, off, x, rfl, hc, hx2⟩ := hks i hil
  obtain rfl : x = 1 := by rw [hk] at hx2; injection hx2 with hx2; exact hx2.symm
  obtain ⟨r0, r1, r2⟩ := hr.c3
  have CK := Lib.hid (spec_knit h hG hS hm hx 1 hr hgr hd hl)
  have HM : Hid (makeTo d car 1 i c s = knitN d car 1 i c.length s) := Lib.hid (by unfold makeTo; simp)
  have j1 : (0 : Int) ≤ (i : Int) := by omega
  have j2 : (i : Int) < (ks.length : Int) := by omega
  clear hx2 hk hx hG h hks hr r0 r1
  go_enter Try.func36, Try.ntmps36
  go_wp2_with (fail)
  refine CK.out.mono ?_; rintro e w2 ⟨rfl, h2, b2⟩
  go_wp2_with (fail)
  go_end0
  rw [HM.out]
  exact ⟨rfl, h2, b2⟩

set_option maxHeartbeats 1000000 in
theorem spec_stitch_2 {z : Option (Nat × Array Value)} {lo g m : Nat} {s : HS} {S : Int} {w : World} (h : SHd z lo g w s) (hG : GoodC m s.cells S) (hS : S ≤ 100) (hm : m ≤ 16) {i : Nat} {c : List Int} (hx : s.cells[i]? = some c) {gr : Nat} {d car : Int} {AK : Option Addr} {ck : Nat} {ks : List Int} (hr : Blk w gr 29 #[.int .i64 d, .int .i64 car, .slice AK ks.length ck]) (hks : Ints w AK ks) (hk : ks[i]? = some 2) (hgr : gr < lo) (hd : d = 1 ∨ d = -1) (hl : s.evs.length ≤ 90000) :
    Calls Try.prog 36 #[.pointer (some ⟨g, 0, none⟩), .pointer (some ⟨gr, 0, none⟩), .int .i64 (i : Int)] w fun e w' =>
      e = .returned (.tuple #[]) ∧ SHd z lo g w' (makeTo d car 2 i c s) ∧ Below lo w w' := by
  have hil : i < ks.length := (List.getElem?_eq_some_iff.1 hk).1
  obtain ⟨b, off, x, rfl, hc, hx2⟩ := hks i hil
  obtain rfl : x = 2 := by rw [hk] at hx2; injection hx2 with hx2; exact hx2.symm
  obtain ⟨r0, r1, r2⟩ := hr.c3
  have CK := Lib.hid (spec_knit h hG hS hm hx 2 hr hgr hd hl)
  have HM : Hid (makeTo d car 2 i c s = knitN d car 2 i c.length s) := Lib.hid (by unfold makeTo; simp)
  have j1 : (0 : Int) ≤ (i : Int) := by omega
  have j2 : (i : Int) < (ks.length : Int) := by omega
  clear hx2 hk hx hG h hks hr r0 r1
  go_enter Try.func36, Try.ntmps36
  go_wp2_with (fail)
  refine CK.out.mono ?_; rintro e w2 ⟨rfl, h2, b2⟩
  go_wp2_with (fail)
  go_end0
  rw [HM.out]
  exact ⟨rfl, h2, b2⟩

set_option maxHeartbeats 1000000 in
theorem spec_stitch_8 {z : Option (Nat × Array Value)} {lo g m : Nat} {s : HS} {S : Int} {w : World} (h : SHd z lo g w s) (hG : GoodC m s.cells S) (hS : S ≤ 100) (hm : m ≤ 16) {i : Nat} {c : List Int} (hx : s.cells[i]? = some c) {gr : Nat} {d car : Int} {AK : Option Addr} {ck : Nat} {ks : List Int} (hr : Blk w gr 29 #[.int .i64 d, .int .i64 car, .slice AK ks.length ck]) (hks : Ints w AK ks) (hk : ks[i]? = some 8) (hgr : gr < lo) (hd : d = 1 ∨ d = -1) (hl : s.evs.length ≤ 90000) :
    Calls Try.prog 36 #[.pointer (some ⟨g, 0, none⟩), .pointer (some ⟨gr, 0, none⟩), .int .i64 (i : Int)] w fun e w' =>
      e = .returned (.tuple #[]) ∧ SHd z lo g w' (makeTo d car 8 i c s) ∧ Below lo w w' := by
  have hil : i < ks.length := (List.getElem?_eq_some_iff.1 hk).1
  obtain ⟨b, off, x, rfl, hc, hx2⟩ := hks i hil
  obtain rfl : x = 8 := by rw [hk] at hx2; injection hx2 with hx2; exact hx2.symm
  obtain ⟨r0, r1, r2⟩ := hr.c3
  have CK := Lib.hid (spec_knit h hG hS hm hx 1 hr hgr hd hl)
  have HM : Hid (makeTo d car 8 i c s = knitN d car 1 i c.length s) := Lib.hid (by unfold makeTo; simp)
  have j1 : (0 : Int) ≤ (i : Int) := by omega
  have j2 : (i : Int) < (ks.length : Int) := by omega
  clear hx2 hk hx hG h hks hr r0 r1
  go_enter Try.func36, Try.ntmps36
  go_wp2_with (fail)
  refine CK.out.mono ?_; rintro e w2 ⟨rfl, h2, b2⟩
  go_wp2_with (fail)
  go_end0
  rw [HM.out]
  exact ⟨rfl, h2, b2⟩

set_option maxHeartbeats 1000000 in
theorem spec_stitch_9 {z : Option (Nat × Array Value)} {lo g m : Nat} {s : HS} {S : Int} {w : World} (h : SHd z lo g w s) (hG : GoodC m s.cells S) (hS : S ≤ 100) (hm : m ≤ 16) {i : Nat} {c : List Int} (hx : s.cells[i]? = some c) {gr : Nat} {d car : Int} {AK : Option Addr} {ck : Nat} {ks : List Int} (hr : Blk w gr 29 #[.int .i64 d, .int .i64 car, .slice AK ks.length ck]) (hks : Ints w AK ks) (hk : ks[i]? = some 9) (hgr : gr < lo) (hd : d = 1 ∨ d = -1) (hl : s.evs.length ≤ 90000) :
    Calls Try.prog 36 #[.pointer (some ⟨g, 0, none⟩), .pointer (some ⟨gr, 0, none⟩), .int .i64 (i : Int)] w fun e w' =>
      e = .returned (.tuple #[]) ∧ SHd z lo g w' (makeTo d car 9 i c s) ∧ Below lo w w' := by
  have hil : i < ks.length := (List.getElem?_eq_some_iff.1 hk).1
  obtain ⟨b, off, x, rfl, hc, hx2⟩ := hks i hil
  obtain rfl : x = 9 := by rw [hk] at hx2; injection hx2 with hx2; exact hx2.symm
  obtain ⟨r0, r1, r2⟩ := hr.c3
  have CK := Lib.hid (spec_knit h hG hS hm hx 1 hr hgr hd hl)
  have HM : Hid (makeTo d car 9 i c s = knitN d car 1 i c.length s) := Lib.hid (by unfold makeTo; simp)
  have j1 : (0 : Int) ≤ (i : Int) := by omega
  have j2 : (i : Int) < (ks.length : Int) := by omega
  clear hx2 hk hx hG h hks hr r0 r1
  go_enter Try.func36, Try.ntmps36
  go_wp2_with (fail)
  refine CK.out.mono ?_; rintro e w2 ⟨rfl, h2, b2⟩
  go_wp2_with (fail)
  go_end0
  rw [HM.out]
  exact ⟨rfl, h2, b2⟩

set_option maxHeartbeats 1000000 in
theorem spec_stitch_10 {z : Option (Nat × Array Value)} {lo g m : Nat} {s : HS} {S : Int} {w : World} (h : SHd z lo g w s) (hG : GoodC m s.cells S) (hS : S ≤ 100) (hm : m ≤ 16) {i : Nat} {c : List Int} (hx : s.cells[i]? = some c) {gr : Nat} {d car : Int} {AK : Option Addr} {ck : Nat} {ks : List Int} (hr : Blk w gr 29 #[.int .i64 d, .int .i64 car, .slice AK ks.length ck]) (hks : Ints w AK ks) (hk : ks[i]? = some 10) (hgr : gr < lo) (hd : d = 1 ∨ d = -1) (hl : s.evs.length ≤ 90000) :
    Calls Try.prog 36 #[.pointer (some ⟨g, 0, none⟩), .pointer (some ⟨gr, 0, none⟩), .int .i64 (i : Int)] w fun e w' =>
      e = .returned (.tuple #[]) ∧ SHd z lo g w' (makeTo d car 10 i c s) ∧ Below lo w w' := by
  have hil : i < ks.length := (List.getElem?_eq_some_iff.1 hk).1
  obtain ⟨b, off, x, rfl, hc, hx2⟩ := hks i hil
  obtain rfl : x = 10 := by rw [hk] at hx2; injection hx2 with hx2; exact hx2.symm
  obtain ⟨r0, r1, r2⟩ := hr.c3
  have CK := Lib.hid (spec_knit h hG hS hm hx 1 hr hgr hd hl)
  have HM : Hid (makeTo d car 10 i c s = knitN d car 1 i c.length s) := Lib.hid (by unfold makeTo; simp)
  have j1 : (0 : Int) ≤ (i : Int) := by omega
  have j2 : (i : Int) < (ks.length : Int) := by omega
  clear hx2 hk hx hG h hks hr r0 r1
  go_enter Try.func36, Try.ntmps36
  go_wp2_with (fail)
  refine CK.out.mono ?_; rintro e w2 ⟨rfl, h2, b2⟩
  go_wp2_with (fail)
  go_end0
  rw [HM.out]
  exact ⟨rfl, h2, b2⟩

set_option maxHeartbeats 1000000 in
theorem spec_stitch_11 {z : Option (Nat × Array Value)} {lo g m : Nat} {s : HS} {S : Int} {w : World} (h : SHd z lo g w s) (hG : GoodC m s.cells S) (hS : S ≤ 100) (hm : m ≤ 16) {i : Nat} {c : List Int} (hx : s.cells[i]? = some c) {gr : Nat} {d car : Int} {AK : Option Addr} {ck : Nat} {ks : List Int} (hr : Blk w gr 29 #[.int .i64 d, .int .i64 car, .slice AK ks.length ck]) (hks : Ints w AK ks) (hk : ks[i]? = some 11) (hgr : gr < lo) (hd : d = 1 ∨ d = -1) (hl : s.evs.length ≤ 90000) :
    Calls Try.prog 36 #[.pointer (some ⟨g, 0, none⟩), .pointer (some ⟨gr, 0, none⟩), .int .i64 (i : Int)] w fun e w' =>
      e = .returned (.tuple #[]) ∧ SHd z lo g w' (makeTo d car 11 i c s) ∧ Below lo w w' := by
  have hil : i < ks.length := (List.getElem?_eq_some_iff.1 hk).1
  obtain ⟨b, off, x, rfl, hc, hx2⟩ := hks i hil
  obtain rfl : x = 11 := by rw [hk] at hx2; injection hx2 with hx2; exact hx2.symm
  obtain ⟨r0, r1, r2⟩ := hr.c3
  have CK := Lib.hid (spec_knit h hG hS hm hx 1 hr hgr hd hl)
  have HM : Hid (makeTo d car 11 i c s = knitN d car 1 i c.length s) := Lib.hid (by unfold makeTo; simp)
  have j1 : (0 : Int) ≤ (i : Int) := by omega
  have j2 : (i : Int) < (ks.length : Int) := by omega
  clear hx2 hk hx hG h hks hr r0 r1
  go_enter Try.func36, Try.ntmps36
  go_wp2_with (fail)
  refine CK.out.mono ?_; rintro e w2 ⟨rfl, h2, b2⟩
  go_wp2_with (fail)
  go_end0
  rw [HM.out]
  exact ⟨rfl, h2, b2⟩

set_option maxHeartbeats 1000000 in
theorem spec_stitch_7 {z : Option (Nat × Array Value)} {lo g : Nat} {s : HS} {w : World} (h : SHd z lo g w s) {i : Nat} {c : List Int} {gr : Nat} {d car : Int} {AK : Option Addr} {ck : Nat} {ks : List Int} (hr : Blk w gr 29 #[.int .i64 d, .int .i64 car, .slice AK ks.length ck]) (hks : Ints w AK ks) (hk : ks[i]? = some 7) :
    Calls Try.prog 36 #[.pointer (some ⟨g, 0, none⟩), .pointer (some ⟨gr, 0, none⟩), .int .i64 (i : Int)] w fun e w' =>
      e = .returned (.tuple #[]) ∧ SHd z lo g w' (makeTo d car 7 i c s) ∧ Below lo w w' := by
  have hil : i < ks.length := (List.getElem?_eq_some_iff.1 hk).1
  obtain ⟨b, off, x, rfl, hc, hx2⟩ := hks i hil
  obtain rfl : x = 7 := by rw [hk] at hx2; injection hx2 with hx2; exact hx2.symm
  obtain ⟨r0, r1, r2⟩ := hr.c3
  have HM : Hid (makeTo d car 7 i c s = s) := Lib.hid (by unfold makeTo; simp)
  have j1 : (0 : Int) ≤ (i : Int) := by omega
  have j2 : (i : Int) < (ks.length : Int) := by omega
  clear hx2 hk hks hr r0 r1
  go_enter Try.func36, Try.ntmps36
  go_wp2_with (fail)
  go_end0
  rw [HM.out]
  exact ⟨rfl, h, Below.refl _ _⟩

set_option maxHeartbeats 2000000 in
theorem spec_stitch_3 {z : Option (Nat × Array Value)} {lo g m : Nat} {s : HS} {S : Int} {w : World} (h : SHd z lo g w s) (hG : GoodC m s.cells S) (hS : S ≤ 100) (hm : m ≤ 16) {i : Nat} {c : List Int} (hx : s.cells[i]? = some c) {gr : Nat} {d car : Int} {AK : Option Addr} {ck : Nat} {ks : List Int} (hr : Blk w gr 29 #[.int .i64 d, .int .i64 car, .slice AK ks.length ck]) (hks : Ints w AK ks) (hk : ks[i]? = some 3) (hgr : gr < lo) (hl : s.evs.length ≤ 90000) :
    Calls Try.prog 36 #[.pointer (some ⟨g, 0, none⟩), .pointer (some ⟨gr, 0, none⟩), .int .i64 (i : Int)] w fun e w' =>
      e = .returned (.tuple #[]) ∧ SHd z lo g w' (makeTo d car 3 i c s) ∧ Below lo w w' := by
  have hil : i < ks.length := (List.getElem?_eq_some_iff.1 hk).1
  obtain ⟨b, off, x, rfl, hc, hx2⟩ := hks i hil
  obtain rfl : x = 3 := by rw [hk] at hx2; injection hx2 with hx2; exact hx2.symm
  obtain ⟨r0, r1, r2⟩ := hr.c3
  have HM : Hid (makeTo d car 3 i c s = ⟨s.evs ++ [evYarn d car 3 (tot (s.cells.take i)) 0 1], s.cells.set i [1]⟩) := Lib.hid (by unfold makeTo; simp)
  have him := hG.lt hx
  have hic : i < s.cells.length := by rw [hG.len]; exact him
  have CB := Lib.hid (spec_before h hG (by omega) hm i (by omega))
  have CA := Lib.hid (fun place => spec_add h 3 place 0 1 hr hgr (by omega))
  have j1 : (0 : Int) ≤ (i : Int) := by omega
  have j2 : (i : Int) < (ks.length : Int) := by omega
  have j3 : (i : Int) < (s.cells.length : Int) := by omega
  clear hx2 hk hx hG h hks hr r0 r1
  go_enter Try.func36, Try.ntmps36
  go_wp2_with (fail)
  refine CB.out.mono ?_; rintro e _ ⟨rfl, rfl⟩
  go_wp2_with (fail)
  refine (CA.out _).mono ?_; rintro e w2 ⟨rfl, h2, b2⟩
  have olit := (OwnC.lit (w := w2) (lo := w2.heap.size) (n := 1) 2 1 #[.int .i64 1] (Nat.le_refl _) (by decide) rfl).mono (Nat.le_refl _) (show w2.heap.size + 1 ≤ (w2.alloc (.cells #[.int .i64 1] 2)).heap.size by simp)
  obtain ⟨gC, cC, y1, ⟨v, y2⟩, y3, hs3, hb3⟩ := h2.setRow (i := i) hic ((Below.refl w2.heap.size w2).alloc (Nat.le_refl _) (.cells #[.int .i64 1] 2)) (xs := [1]) olit
  have HS3 := Lib.hid hs3; clear hs3
  have HB3 := Lib.hid hb3; clear hb3
  clear CB CA olit h2
  dsimp only at y1
  go_wp2_with (fail)
  go_end0
  rw [HM.out]
  exact ⟨rfl, HS3.out, b2.trans HB3.out⟩

set_option maxHeartbeats 4000000 in
set_option maxRecDepth 10000 in
theorem spec_stitch_4 {z : Option (Nat × Array Value)} {lo g m : Nat} {s : HS} {S : Int} {w : World} (h : SHd z lo g w s) (hG : GoodC m s.cells S) (hS : S ≤ 100) (hm : m ≤ 16) {i : Nat} {c : List Int} (hx : s.cells[i]? = some c) {gr : Nat} {d car : Int} {AK : Option Addr} {ck : Nat} {ks : List Int} (hr : Blk w gr 29 #[.int .i64 d, .int .i64 car, .slice AK ks.length ck]) (hks : Ints w AK ks) (hk : ks[i]? = some 4) (hgr : gr < lo) (hd : d = 1 ∨ d = -1) (hl : s.evs.length ≤ 90000) :
    Calls Try.prog 36 #[.pointer (some ⟨g, 0, none⟩), .pointer (some ⟨gr, 0, none⟩), .int .i64 (i : Int)] w fun e w' =>
      e = .returned (.tuple #[]) ∧ SHd z lo g w' (makeTo d car 4 i c s) ∧ Below lo w w' := by
  have hil : i < ks.length := (List.getElem?_eq_some_iff.1 hk).1
  obtain ⟨b, off, x, rfl, hc, hx2⟩ := hks i hil
  obtain rfl : x = 4 := by rw [hk] at hx2; injection hx2 with hx2; exact hx2.symm
  obtain ⟨r0, r1, r2⟩ := hr.c3
  have him := hG.lt hx
  have hic : i < s.cells.length := by rw [hG.len]; exact him
  obtain ⟨hnn, h4, hle, h0⟩ := hG.at_ hx
  have hT0 := (hG.take i).1
  have HM : Hid (makeTo d car 4 i c s = knitN d car 1 i 1 ⟨s.evs, s.cells.set i [sumI c]⟩) := Lib.hid (by rw [knit_one _ _ _ _ _ _ hic]; unfold makeTo; simp)
  have hG2 : GoodC m (s.cells.set i [sumI c]) (S - sumI c + sumI [sumI c]) := hG.set hx (by intro y hy; simp at hy; omega) (by simp)
  have hS2 : S - sumI c + sumI [sumI c] ≤ 100 := by simp only [sumI]; omega
  have hx3 : (s.cells.set i [sumI c])[i]? = some [sumI c] := List.getElem?_set_self hic
  have CK : Hid (∀ w', SHd z lo g w' ⟨s.evs, s.cells.set i [sumI c]⟩ → Below lo w w' → Calls Try.prog 57 #[.pointer (some ⟨g, 0, none⟩), .pointer (some ⟨gr, 0, none⟩), .int .i64 (i : Int), .int .i64 1] w' fun e w'' =>
      e = .returned (.tuple #[]) ∧ SHd z lo g w'' (knitN d car 1 i 1 ⟨s.evs, s.cells.set i [sumI c]⟩) ∧ Below lo w' w'') :=
    Lib.hid (fun w' hw hb => spec_knit hw hG2 hS2 hm hx3 1 (hr.below hb hgr) hgr hd hl)
  obtain ⟨AC, cC, q1, hi2⟩ := h.read
  obtain ⟨b2, off2, A', c', c1, rfl, hx1, hc1, hci, hcl⟩ := hi2 i hic
  obtain rfl : c = c1 := by rw [hx] at hx1; injection hx1
  have HS64 := Lib.hid (sum64_sumI hnn (by omega))
  have olit := (OwnC.lit (w := World.drew w) (lo := w.heap.size) (n := 1) 2 1 #[.int .i64 (sumI c)] (Nat.le_refl _) (by decide) rfl).mono (Nat.le_refl _) (show (World.drew w).heap.size + 1 ≤ ((World.drew w).alloc (.cells #[.int .i64 (sumI c)] 2)).heap.size by simp)
  obtain ⟨gC, cC2, y1, ⟨v, y2⟩, y3, hs3, hb3⟩ := h.setRow (i := i) hic (((Below.refl w.heap.size w).drew).alloc (Nat.le_refl _) (.cells #[.int .i64 (sumI c)] 2)) (xs := [sumI c]) olit
  rw [q1] at y1
  injection y1 with y1
  injection y1 with y1 _ y1c
  injection y1 with y1
  injection y1 with y1 y1b
  subst y1 y1b y1c
  have HS3 := Lib.hid hs3; clear hs3
  have HB3 := Lib.hid hb3; clear hb3
  have j1 : (0 : Int) ≤ (i : Int) := by omega
  have j2 : (i : Int) < (ks.length : Int) := by omega
  have j3 : (i : Int) < (s.cells.length : Int) := by omega
  clear hx2 hk hx hG h hks hr r0 r1 olit hG2 hS2 hx3 hx1 hi2 hnn
  go_enter Try.func36, Try.ntmps36
  go_upto_region 6 with fail
  (refine wp_region_pops 2 (S := (fun W' => W'.cell? ⟨g, 1, none⟩ = some (.slice (some ⟨b2, 0, none⟩) s.cells.length cC) ∧ W'.cell? ⟨b2, i, none⟩ = some (.slice A' c.length c'))) (pre := ?_) (T := ?_) (n := ?_) (by kernel_rfl) (by kernel_rfl) ?_ ?_ ?_ ?_ (fun hHeld => ?_); rotate_left 3; (focus (simp only [pops, List.pop_toArray, List.dropLast_cons_cons, List.dropLast_singleton]; rfl)); (focus (simp only [tailOf, List.pop_toArray, List.dropLast_cons_cons, List.dropLast_singleton, List.back?_toArray, List.getLast?_cons_cons, List.getLast?_singleton, Option.toList_some, List.nil_append, List.cons_append]; rfl)); (focus rfl); (focus (exact ⟨q1, by simpa using hc1⟩)))
  ((refine wpAnyH_take (i := 0) (v := ?_) rfl (by kernel_rfl) (by kernel_rfl) (by kernel_rfl) (fun _ _ _ h => h) (Or.inl ⟨by rfl, ?_⟩) (by assumption) ?_; rotate_left; (focus (intro W hSw; (try dsimp only at hSw); go_simp; try (with_reducible rfl)))); (try simp only [List.getElem_toArray, List.getElem_cons_zero, Act.put, List.setIfInBounds_toArray, List.set_cons_zero, List.set_cons_succ]); (refine wpAnyH_take (i := 1) (v := ?_) rfl (by kernel_rfl) (by kernel_rfl) (by kernel_rfl) (fun _ _ _ h => h) (Or.inl ⟨by rfl, ?_⟩) (by assumption) ?_; rotate_left; (focus (intro W hSw; (try dsimp only at hSw); go_simp; try (with_reducible rfl)))); (try simp only [List.getElem_toArray, List.getElem_cons_zero, List.getElem_cons_succ, Act.put, List.setIfInBounds_toArray, List.set_cons_zero, List.set_cons_succ]); (refine wpAnyH_take (i := 2) (v := ?_) rfl (by kernel_rfl) (by kernel_rfl) (by kernel_rfl) (fun _ _ _ h => h) (Or.inl ⟨by rfl, ?_⟩) (by assumption) ?_; rotate_left; (focus (intro W hSw; (try dsimp only at hSw); go_simp; try (with_reducible rfl)))); (try simp only [List.getElem_toArray, List.getElem_cons_zero, List.getElem_cons_succ, Act.put, List.setIfInBounds_toArray, List.set_cons_zero, List.set_cons_succ]); (refine wpAnyH_take (i := 3) (v := ?_) rfl (by kernel_rfl) (by kernel_rfl) (by kernel_rfl) (fun _ _ _ h => h) (Or.inl ⟨by rfl, ?_⟩) (by assumption) ?_; rotate_left; (focus (intro W hSw; (try dsimp only at hSw); go_simp; try (with_reducible rfl)))); (try simp only [List.getElem_toArray, List.getElem_cons_zero, List.getElem_cons_succ, Act.put, List.setIfInBounds_toArray, List.set_cons_zero, List.set_cons_succ]); (refine wpAnyH_take (i := 4) (v := ?_) rfl (by kernel_rfl) (by kernel_rfl) (by kernel_rfl) (fun _ _ _ h => h) (Or.inl ⟨by rfl, ?_⟩) (by assumption) ?_; rotate_left; (focus (intro W hSw; (try dsimp only at hSw); go_simp; try (with_reducible rfl)))); (try simp only [List.getElem_toArray, List.getElem_cons_zero, List.getElem_cons_succ, Act.put, List.setIfInBounds_toArray, List.set_cons_zero, List.set_cons_succ]); (refine wpAnyH_take (i := 5) (v := ?_) rfl (by kernel_rfl) (by kernel_rfl) (by kernel_rfl) (fun _ _ _ h => h) (Or.inl ⟨by rfl, ?_⟩) (by assumption) ?_; rotate_left; (focus (intro W hSw; (try dsimp only at hSw); go_simp; try (with_reducible rfl)))); (try simp only [List.getElem_toArray, List.getElem_cons_zero, List.getElem_cons_succ, Act.put, List.setIfInBounds_toArray, List.set_cons_zero, List.set_cons_succ]); (refine wpAnyH_take (i := 6) (v := ?_) rfl (by kernel_rfl) (by kernel_rfl) (by kernel_rfl) (fun _ _ _ h => h) (Or.inl ⟨by rfl, ?_⟩) (by assumption) ?_; rotate_left; (focus (intro W hSw; (try dsimp only at hSw); go_simp; try (with_reducible rfl)))); (try simp only [List.getElem_toArray, List.getElem_cons_zero, List.getElem_cons_succ, Act.put, List.setIfInBounds_toArray, List.set_cons_zero, List.set_cons_succ]); (refine wpAnyH_take (i := 7) (v := ?_) rfl (by kernel_rfl) (by kernel_rfl) (by kernel_rfl) (fun _ _ _ h => h) (Or.inl ⟨by rfl, ?_⟩) (by assumption) ?_; rotate_left; (focus (intro W hSw; (try dsimp only at hSw); go_simp; try (with_reducible rfl)))); (try simp only [List.getElem_toArray, List.getElem_cons_zero, List.getElem_cons_succ, Act.put, List.setIfInBounds_toArray, List.set_cons_zero, List.set_cons_succ]); (refine wpAnyH_take (i := 8) (v := ?_) rfl (by kernel_rfl) (by kernel_rfl) (by kernel_rfl) (fun _ _ _ h => h) (Or.inl ⟨by rfl, ?_⟩) (by assumption) ?_; rotate_left; (focus (intro W hSw; (try dsimp only at hSw); go_simp; try (with_reducible rfl)))); (try simp only [List.getElem_toArray, List.getElem_cons_zero, List.getElem_cons_succ, Act.put, List.setIfInBounds_toArray, List.set_cons_zero, List.set_cons_succ]); (refine wpAnyH_take (i := 9) (v := ?_) rfl (by kernel_rfl) (by kernel_rfl) (by kernel_rfl) (fun _ _ _ h => h) (Or.inl ⟨by rfl, ?_⟩) (by assumption) ?_; rotate_left; (focus (intro W hSw; (try dsimp only at hSw); go_simp; try (with_reducible rfl)))); (try simp only [List.getElem_toArray, List.getElem_cons_zero, List.getElem_cons_succ, Act.put, List.setIfInBounds_toArray, List.set_cons_zero, List.set_cons_succ]); (refine wpAnyH_take (i := 10) (v := ?_) rfl (by kernel_rfl) (by kernel_rfl) (by kernel_rfl) (fun _ _ _ h => h) (Or.inl ⟨by rfl, ?_⟩) (by assumption) ?_; rotate_left; (focus (intro W hSw; (try dsimp only at hSw); go_simp; try (with_reducible rfl)))); (try simp only [List.getElem_toArray, List.getElem_cons_zero, List.getElem_cons_succ, Act.put, List.setIfInBounds_toArray, List.set_cons_zero, List.set_cons_succ]); (refine wpAnyH_take (i := 11) (v := ?_) rfl (by kernel_rfl) (by kernel_rfl) (by kernel_rfl) (fun _ _ _ h => h) (Or.inl ⟨by rfl, ?_⟩) (by assumption) ?_; rotate_left; (focus (intro W hSw; (try dsimp only at hSw); go_simp; try (with_reducible rfl)))); (try simp only [List.getElem_toArray, List.getElem_cons_zero, List.getElem_cons_succ, Act.put, List.setIfInBounds_toArray, List.set_cons_zero, List.set_cons_succ]))
  (refine wpAnyH_ready (rs := [12]) (by kernel_rfl) (by simp) ?_; refine AllReadyH.cons rfl (fun K hK => ?_) AllReadyH.nil)
  go_simp
  refine (spec_l17Sum A' c' c _ (Ints.drew1 hci) hcl).mono ?_; rintro e _ ⟨rfl, rfl⟩
  rw [HS64.out]
  refine hK.out _ _ ⟨q1, by simpa using hc1⟩ (fun hHeld => ?_)
  clear hK K
  (try simp only [List.getElem_toArray, List.getElem_cons_zero, List.getElem_cons_succ, Act.put, List.setIfInBounds_toArray, List.set_cons_zero, List.set_cons_succ])
  (refine wpAnyH_ready (rs := [13]) (by kernel_rfl) (by simp) ?_; refine AllReadyH.cons rfl (fun K hK => ?_) AllReadyH.nil)
  go_simp
  refine hK.out _ _ ⟨cell_alloc (show (World.drew w).cell? ⟨g, 1, none⟩ = _ from q1) _, cell_alloc (show (World.drew w).cell? ⟨b2, i, none⟩ = some (.slice A' c.length c') by simpa using hc1) _⟩ (fun hHeld => ?_)
  clear hK K
  (try simp only [List.getElem_toArray, List.getElem_cons_zero, List.getElem_cons_succ, Act.put, List.setIfInBounds_toArray, List.set_cons_zero, List.set_cons_succ])
  (refine wpAnyH_done (by kernel_rfl) ?_ _; change wpList _ _ _ _ _ _)
  clear hHeld
  have y2' : (w.alloc (.cells #[.int .i64 (sumI c)] 2)).cell? ⟨b2, i, none⟩ = some v := y2
  have y3' : (w.alloc (.cells #[.int .i64 (sumI c)] 2)).frozen? ⟨b2, i, none⟩ = false := y3
  go_wp2_with (fail)
  refine (CK.out _ HS3.out HB3.out).mono ?_; rintro e w9 ⟨rfl, h9, b9⟩
  go_wp2_with (fail)
  go_end0
  rw [HM.out]
  exact ⟨rfl, h9, HB3.out.trans b9⟩

set_option maxHeartbeats 4000000 in
set_option maxRecDepth 10000 in
theorem spec_stitch_5 {z : Option (Nat × Array Value)} {lo g m : Nat} {s : HS} {S : Int} {w : World} (h : SHd z lo g w s) (hG : GoodC m s.cells S) (hS : S ≤ 100) (hm : m ≤ 16) {i : Nat} {c : List Int} (hx : s.cells[i]? = some c) {gr : Nat} {d car : Int} {AK : Option Addr} {ck : Nat} {ks : List Int} (hr : Blk w gr 29 #[.int .i64 d, .int .i64 car, .slice AK ks.length ck]) (hks : Ints w AK ks) (hk : ks[i]? = some 5) (hgr : gr < lo) (hd : d = 1 ∨ d = -1) (hl : s.evs.length ≤ 90000) :
    Calls Try.prog 36 #[.pointer (some ⟨g, 0, none⟩), .pointer (some ⟨gr, 0, none⟩), .int .i64 (i : Int)] w fun e w' =>
      e = .returned (.tuple #[]) ∧ SHd z lo g w' (makeTo d car 5 i c s) ∧ Below lo w w' := by
  have hil : i < ks.length := (List.getElem?_eq_some_iff.1 hk).1
  obtain ⟨b, off, x, rfl, hc, hx2⟩ := hks i hil
  obtain rfl : x = 5 := by rw [hk] at hx2; injection hx2 with hx2; exact hx2.symm
  obtain ⟨r0, r1, r2⟩ := hr.c3
  have him := hG.lt hx
  have hic : i < s.cells.length := by rw [hG.len]; exact him
  obtain ⟨hnn, h4, hle, h0⟩ := hG.at_ hx
  have hT0 := (hG.take i).1
  have HM : Hid (makeTo d car 5 i c s = knitN d car 1 i 1 ⟨s.evs, s.cells.set i [sumI c]⟩) := Lib.hid (by rw [knit_one _ _ _ _ _ _ hic]; unfold makeTo; simp)
  have hG2 : GoodC m (s.cells.set i [sumI c]) (S - sumI c + sumI [sumI c]) := hG.set hx (by intro y hy; simp at hy; omega) (by simp)
  have hS2 : S - sumI c + sumI [sumI c] ≤ 100 := by simp only [sumI]; omega
  have hx3 : (s.cells.set i [sumI c])[i]? = some [sumI c] := List.getElem?_set_self hic
  have CK : Hid (∀ w', SHd z lo g w' ⟨s.evs, s.cells.set i [sumI c]⟩ → Below lo w w' → Calls Try.prog 57 #[.pointer (some ⟨g, 0, none⟩), .pointer (some ⟨gr, 0, none⟩), .int .i64 (i : Int), .int .i64 1] w' fun e w'' =>
      e = .returned (.tuple #[]) ∧ SHd z lo g w'' (knitN d car 1 i 1 ⟨s.evs, s.cells.set i [sumI c]⟩) ∧ Below lo w' w'') :=
    Lib.hid (fun w' hw hb => spec_knit hw hG2 hS2 hm hx3 1 (hr.below hb hgr) hgr hd hl)
  obtain ⟨AC, cC, q1, hi2⟩ := h.read
  obtain ⟨b2, off2, A', c', c1, rfl, hx1, hc1, hci, hcl⟩ := hi2 i hic
  obtain rfl : c = c1 := by rw [hx] at hx1; injection hx1
  have HS64 := Lib.hid (sum64_sumI hnn (by omega))
  have olit := (OwnC.lit (w := World.drew w) (lo := w.heap.size) (n := 1) 2 1 #[.int .i64 (sumI c)] (Nat.le_refl _) (by decide) rfl).mono (Nat.le_refl _) (show (World.drew w).heap.size + 1 ≤ ((World.drew w).alloc (.cells #[.int .i64 (sumI c)] 2)).heap.size by simp)
  obtain ⟨gC, cC2, y1, ⟨v, y2⟩, y3, hs3, hb3⟩ := h.setRow (i := i) hic (((Below.refl w.heap.size w).drew).alloc (Nat.le_refl _) (.cells #[.int .i64 (sumI c)] 2)) (xs := [sumI c]) olit
  rw [q1] at y1
  injection y1 with y1
  injection y1 with y1 _ y1c
  injection y1 with y1
  injection y1 with y1 y1b
  subst y1 y1b y1c
  have HS3 := Lib.hid hs3; clear hs3
  have HB3 := Lib.hid hb3; clear hb3
  have j1 : (0 : Int) ≤ (i : Int) := by omega
  have j2 : (i : Int) < (ks.length : Int) := by omega
  have j3 : (i : Int) < (s.cells.length : Int) := by omega
  clear hx2 hk hx hG h hks hr r0 r1 olit hG2 hS2 hx3 hx1 hi2 hnn
  go_enter Try.func36, Try.ntmps36
  go_upto_region 6 with fail
  (refine wp_region_pops 2 (S := (fun W' => W'.cell? ⟨g, 1, none⟩ = some (.slice (some ⟨b2, 0, none⟩) s.cells.length cC) ∧ W'.cell? ⟨b2, i, none⟩ = some (.slice A' c.length c'))) (pre := ?_) (T := ?_) (n := ?_) (by kernel_rfl) (by kernel_rfl) ?_ ?_ ?_ ?_ (fun hHeld => ?_); rotate_left 3; (focus (simp only [pops, List.pop_toArray, List.dropLast_cons_cons, List.dropLast_singleton]; rfl)); (focus (simp only [tailOf, List.pop_toArray, List.dropLast_cons_cons, List.dropLast_singleton, List.back?_toArray, List.getLast?_cons_cons, List.getLast?_singleton, Option.toList_some, List.nil_append, List.cons_append]; rfl)); (focus rfl); (focus (exact ⟨q1, by simpa using hc1⟩)))
  ((refine wpAnyH_take (i := 0) (v := ?_) rfl (by kernel_rfl) (by kernel_rfl) (by kernel_rfl) (fun _ _ _ h => h) (Or.inl ⟨by rfl, ?_⟩) (by assumption) ?_; rotate_left; (focus (intro W hSw; (try dsimp only at hSw); go_simp; try (with_reducible rfl)))); (try simp only [List.getElem_toArray, List.getElem_cons_zero, Act.put, List.setIfInBounds_toArray, List.set_cons_zero, List.set_cons_succ]); (refine wpAnyH_take (i := 1) (v := ?_) rfl (by kernel_rfl) (by kernel_rfl) (by kernel_rfl) (fun _ _ _ h => h) (Or.inl ⟨by rfl, ?_⟩) (by assumption) ?_; rotate_left; (focus (intro W hSw; (try dsimp only at hSw); go_simp; try (with_reducible rfl)))); (try simp only [List.getElem_toArray, List.getElem_cons_zero, List.getElem_cons_succ, Act.put, List.setIfInBounds_toArray, List.set_cons_zero, List.set_cons_succ]); (refine wpAnyH_take (i := 2) (v := ?_) rfl (by kernel_rfl) (by kernel_rfl) (by kernel_rfl) (fun _ _ _ h => h) (Or.inl ⟨by rfl, ?_⟩) (by assumption) ?_; rotate_left; (focus (intro W hSw; (try dsimp only at hSw); go_simp; try (with_reducible rfl)))); (try simp only [List.getElem_toArray, List.getElem_cons_zero, List.getElem_cons_succ, Act.put, List.setIfInBounds_toArray, List.set_cons_zero, List.set_cons_succ]); (refine wpAnyH_take (i := 3) (v := ?_) rfl (by kernel_rfl) (by kernel_rfl) (by kernel_rfl) (fun _ _ _ h => h) (Or.inl ⟨by rfl, ?_⟩) (by assumption) ?_; rotate_left; (focus (intro W hSw; (try dsimp only at hSw); go_simp; try (with_reducible rfl)))); (try simp only [List.getElem_toArray, List.getElem_cons_zero, List.getElem_cons_succ, Act.put, List.setIfInBounds_toArray, List.set_cons_zero, List.set_cons_succ]); (refine wpAnyH_take (i := 4) (v := ?_) rfl (by kernel_rfl) (by kernel_rfl) (by kernel_rfl) (fun _ _ _ h => h) (Or.inl ⟨by rfl, ?_⟩) (by assumption) ?_; rotate_left; (focus (intro W hSw; (try dsimp only at hSw); go_simp; try (with_reducible rfl)))); (try simp only [List.getElem_toArray, List.getElem_cons_zero, List.getElem_cons_succ, Act.put, List.setIfInBounds_toArray, List.set_cons_zero, List.set_cons_succ]); (refine wpAnyH_take (i := 5) (v := ?_) rfl (by kernel_rfl) (by kernel_rfl) (by kernel_rfl) (fun _ _ _ h => h) (Or.inl ⟨by rfl, ?_⟩) (by assumption) ?_; rotate_left; (focus (intro W hSw; (try dsimp only at hSw); go_simp; try (with_reducible rfl)))); (try simp only [List.getElem_toArray, List.getElem_cons_zero, List.getElem_cons_succ, Act.put, List.setIfInBounds_toArray, List.set_cons_zero, List.set_cons_succ]); (refine wpAnyH_take (i := 6) (v := ?_) rfl (by kernel_rfl) (by kernel_rfl) (by kernel_rfl) (fun _ _ _ h => h) (Or.inl ⟨by rfl, ?_⟩) (by assumption) ?_; rotate_left; (focus (intro W hSw; (try dsimp only at hSw); go_simp; try (with_reducible rfl)))); (try simp only [List.getElem_toArray, List.getElem_cons_zero, List.getElem_cons_succ, Act.put, List.setIfInBounds_toArray, List.set_cons_zero, List.set_cons_succ]); (refine wpAnyH_take (i := 7) (v := ?_) rfl (by kernel_rfl) (by kernel_rfl) (by kernel_rfl) (fun _ _ _ h => h) (Or.inl ⟨by rfl, ?_⟩) (by assumption) ?_; rotate_left; (focus (intro W hSw; (try dsimp only at hSw); go_simp; try (with_reducible rfl)))); (try simp only [List.getElem_toArray, List.getElem_cons_zero, List.getElem_cons_succ, Act.put, List.setIfInBounds_toArray, List.set_cons_zero, List.set_cons_succ]); (refine wpAnyH_take (i := 8) (v := ?_) rfl (by kernel_rfl) (by kernel_rfl) (by kernel_rfl) (fun _ _ _ h => h) (Or.inl ⟨by rfl, ?_⟩) (by assumption) ?_; rotate_left; (focus (intro W hSw; (try dsimp only at hSw); go_simp; try (with_reducible rfl)))); (try simp only [List.getElem_toArray, List.getElem_cons_zero, List.getElem_cons_succ, Act.put, List.setIfInBounds_toArray, List.set_cons_zero, List.set_cons_succ]); (refine wpAnyH_take (i := 9) (v := ?_) rfl (by kernel_rfl) (by kernel_rfl) (by kernel_rfl) (fun _ _ _ h => h) (Or.inl ⟨by rfl, ?_⟩) (by assumption) ?_; rotate_left; (focus (intro W hSw; (try dsimp only at hSw); go_simp; try (with_reducible rfl)))); (try simp only [List.getElem_toArray, List.getElem_cons_zero, List.getElem_cons_succ, Act.put, List.setIfInBounds_toArray, List.set_cons_zero, List.set_cons_succ]); (refine wpAnyH_take (i := 10) (v := ?_) rfl (by kernel_rfl) (by kernel_rfl) (by kernel_rfl) (fun _ _ _ h => h) (Or.inl ⟨by rfl, ?_⟩) (by assumption) ?_; rotate_left; (focus (intro W hSw; (try dsimp only at hSw); go_simp; try (with_reducible rfl)))); (try simp only [List.getElem_toArray, List.getElem_cons_zero, List.getElem_cons_succ, Act.put, List.setIfInBounds_toArray, List.set_cons_zero, List.set_cons_succ]); (refine wpAnyH_take (i := 11) (v := ?_) rfl (by kernel_rfl) (by kernel_rfl) (by kernel_rfl) (fun _ _ _ h => h) (Or.inl ⟨by rfl, ?_⟩) (by assumption) ?_; rotate_left; (focus (intro W hSw; (try dsimp only at hSw); go_simp; try (with_reducible rfl)))); (try simp only [List.getElem_toArray, List.getElem_cons_zero, List.getElem_cons_succ, Act.put, List.setIfInBounds_toArray, List.set_cons_zero, List.set_cons_succ]))
  (refine wpAnyH_ready (rs := [12]) (by kernel_rfl) (by simp) ?_; refine AllReadyH.cons rfl (fun K hK => ?_) AllReadyH.nil)
  go_simp
  refine (spec_l17Sum A' c' c _ (Ints.drew1 hci) hcl).mono ?_; rintro e _ ⟨rfl, rfl⟩
  rw [HS64.out]
  refine hK.out _ _ ⟨q1, by simpa using hc1⟩ (fun hHeld => ?_)
  clear hK K
  (try simp only [List.getElem_toArray, List.getElem_cons_zero, List.getElem_cons_succ, Act.put, List.setIfInBounds_toArray, List.set_cons_zero, List.set_cons_succ])
  (refine wpAnyH_ready (rs := [13]) (by kernel_rfl) (by simp) ?_; refine AllReadyH.cons rfl (fun K hK => ?_) AllReadyH.nil)
  go_simp
  refine hK.out _ _ ⟨cell_alloc (show (World.drew w).cell? ⟨g, 1, none⟩ = _ from q1) _, cell_alloc (show (World.drew w).cell? ⟨b2, i, none⟩ = some (.slice A' c.length c') by simpa using hc1) _⟩ (fun hHeld => ?_)
  clear hK K
  (try simp only [List.getElem_toArray, List.getElem_cons_zero, List.getElem_cons_succ, Act.put, List.setIfInBounds_toArray, List.set_cons_zero, List.set_cons_succ])
  (refine wpAnyH_done (by kernel_rfl) ?_ _; change wpList _ _ _ _ _ _)
  clear hHeld
  have y2' : (w.alloc (.cells #[.int .i64 (sumI c)] 2)).cell? ⟨b2, i, none⟩ = some v := y2
  have y3' : (w.alloc (.cells #[.int .i64 (sumI c)] 2)).frozen? ⟨b2, i, none⟩ = false := y3
  go_wp2_with (fail)
  refine (CK.out _ HS3.out HB3.out).mono ?_; rintro e w9 ⟨rfl, h9, b9⟩
  go_wp2_with (fail)
  go_end0
  rw [HM.out]
  exact ⟨rfl, h9, HB3.out.trans b9⟩

theorem cell_blk {w w' : World} {g : Nat} {t t' : TypeId} {cs : Array Value} (h : Blk w g t cs) (h' : Blk w' g t' cs) (j : Nat) {v : Value} (hv : w.cell? ⟨g, j, none⟩ = some v) : w'.cell? ⟨g, j, none⟩ = some v := by
  have e1 := h.cell j
  have e2 := h'.cell j
  rw [hv] at e1
  rw [e2, ← e1]
theorem SHd.two {z : Option (Nat × Array Value)} {lo g : Nat} {w : World} {s : HS} (h : SHd z lo g w s) {i : Nat} {c : List Int} (hx : s.cells[i]? = some c) {x : Int} (hk : c[0]? = some x) :
    ∃ gC cC gR c' curC curR, w.cell? ⟨g, 1, none⟩ = some (.slice (some ⟨gC, 0, none⟩) s.cells.length cC) ∧ w.cell? ⟨gC, i, none⟩ = some (.slice (some ⟨gR, 0, none⟩) c.length c') ∧ w.cell? ⟨gR, 0, none⟩ = some (.int .i64 x) ∧ Blk w gC 22 curC ∧ Blk w gR 2 curR := by
  obtain ⟨gC, cC, gR, c', q1, q2, q3, q4, _⟩ := h.setAt hx hk
  obtain ⟨⟨AE, cE, AC, cC2, hb, ho, hc⟩, hlo⟩ := h
  obtain ⟨cs, hc1, hc2, _⟩ := hc.ex
  have e := hb.c2.2
  rw [q1] at e
  injection e with e
  injection e with e1 _ e3
  subst e1
  obtain ⟨A', c2, hcs, hrow⟩ := hc2.2.1 i c hx
  have hil : i < s.cells.length := (List.getElem?_eq_some_iff.1 hx).1
  have hl2 := hc2.1
  obtain ⟨gC2, e5, _, _, hcell, _⟩ := hc1.cell (j := i) (by omega)
  injection e5 with e5
  injection e5 with e5
  subst e5
  rw [List.getElem?_eq_getElem (by omega)] at hcs
  injection hcs with hcs
  rw [hcs, q2] at hcell
  injection hcell with hcell
  injection hcell with e6 _ e7
  subst e6
  have bC : ∃ cur, Blk w gC 22 cur := by
    rcases hc1.form with ⟨h1, _⟩ | ⟨q, cur, h1, _, _, h2, _⟩
    · cases h1
    · injection h1 with h1
      injection h1 with h1
      subst h1
      exact ⟨cur, h2⟩
  have bR : ∃ cur, Blk w gR 2 cur := by
    rcases hrow.form with ⟨h1, _⟩ | ⟨q, cur, h1, _, _, h2, _⟩
    · cases h1
    · injection h1 with h1
      injection h1 with h1
      subst h1
      exact ⟨cur, h2⟩
  obtain ⟨u1, bC⟩ := bC
  obtain ⟨u2, bR⟩ := bR
  exact ⟨gC, cC, gR, c', u1, u2, q1, q2, q3, bC, bR⟩
set_option maxHeartbeats 4000000 in
set_option maxRecDepth 10000 in
theorem spec_stitch_6 {z : Option (Nat × Array Value)} {lo g m : Nat} {s : HS} {S : Int} {w : World} (h : SHd z lo g w s) (hG : GoodC m s.cells S) (hS : S ≤ 100) (hm : m ≤ 16) {i : Nat} {c : List Int} (hx : s.cells[i]? = some c) {gr : Nat} {d car : Int} {AK : Option Addr} {ck : Nat} {ks : List Int} (hr : Blk w gr 29 #[.int .i64 d, .int .i64 car, .slice AK ks.length ck]) (hks : Ints w AK ks) (hk : ks[i]? = some 6) (hgr : gr < lo) (hl : s.evs.length ≤ 90000) (hc1 : 1 ≤ c.length) :
    Calls Try.prog 36 #[.pointer (some ⟨g, 0, none⟩), .pointer (some ⟨gr, 0, none⟩), .int .i64 (i : Int)] w fun e w' =>
      e = .returned (.tuple #[]) ∧ SHd z lo g w' (makeTo d car 6 i c s) ∧ Below lo w w' := by
  have hil : i < ks.length := (List.getElem?_eq_some_iff.1 hk).1
  obtain ⟨b, off, x, rfl, hc, hx2⟩ := hks i hil
  obtain rfl : x = 6 := by rw [hk] at hx2; injection hx2 with hx2; exact hx2.symm
  obtain ⟨r0, r1, r2⟩ := hr.c3
  have him := hG.lt hx
  have hic : i < s.cells.length := by rw [hG.len]; exact him
  obtain ⟨x, hy⟩ : ∃ x, c[0]? = some x := ⟨_, List.getElem?_eq_getElem (by omega)⟩
  obtain ⟨hnn, h4, hle, h0⟩ := hG.at_ hx
  have hxb := hnn.at_le hy
  have hT0 := (hG.take i).1
  have hget : c.getD 0 0 = x := by rw [List.getD_eq_getElem?_getD, hy]; rfl
  have HM : Hid (makeTo d car 6 i c s = ⟨s.evs ++ [evYarn d car 3 (tot (s.cells.take i) + x) 0 1], s.cells.set i (c.set 0 (x + 1))⟩) := Lib.hid (by unfold makeTo; rw [if_neg (by decide), if_pos rfl, hget])
  obtain ⟨gC, cC, gR, c', curC, curR, q1, q2, q3, bC, bR⟩ := h.two hx hy
  have CB := Lib.hid (spec_before (h.drewN 1) hG (by omega) hm i (by omega))
  have CA := Lib.hid (fun place => spec_addS (h.drewN 1) 3 place 0 1 (hr.drewN 1) hgr (by omega))
  have HX := Lib.hid hx
  have HY := Lib.hid hy
  have BC := Lib.hid bC
  have BR := Lib.hid bR
  have wT : IntKind.i64.wrap (tot (s.cells.take i) + x) = tot (s.cells.take i) + x := IntWalk.i64_in _ ⟨by omega, by omega⟩
  have wX : IntKind.i64.wrap (x + 1) = x + 1 := IntWalk.i64_in _ ⟨by omega, by omega⟩
  have j1 : (0 : Int) ≤ (i : Int) := by omega
  have j2 : (i : Int) < (ks.length : Int) := by omega
  have j3 : (i : Int) < (s.cells.length : Int) := by omega
  obtain ⟨n, hn⟩ : ∃ n, n = c.length := ⟨_, rfl⟩
  rw [← hn] at q2 hc1
  have HN := Lib.hid hn; clear hn
  have j4 : (0 : Int) < (n : Int) := by omega
  have j5 : 0 < n := by omega
  have j6 : decide (0 < n) = true := decide_eq_true j5
  clear hx2 hk hx hG h hks hr r0 r1 hnn hy hget bC bR
  go_enter Try.func36, Try.ntmps36
  go_upto_region 12 with fail
  (refine wp_region_pops 0 (S := (fun W' => W'.cell? ⟨g, 1, none⟩ = some (.slice (some ⟨gC, 0, none⟩) s.cells.length cC) ∧ W'.cell? ⟨gC, i, none⟩ = some (.slice (some ⟨gR, 0, none⟩) n c') ∧ W'.cell? ⟨gR, 0, none⟩ = some (.int .i64 x))) (pre := ?_) (T := ?_) (n := ?_) (by kernel_rfl) (by kernel_rfl) ?_ ?_ ?_ ?_ (fun hHeld => ?_); rotate_left 3; (focus (simp only [pops]; rfl)); (focus (simp only [tailOf]; rfl)); (focus rfl); (focus (exact ⟨q1, q2, q3⟩)))
  ((refine wpAnyH_take (i := 0) (v := ?_) rfl (by kernel_rfl) (by kernel_rfl) (by kernel_rfl) (fun _ _ _ h => h) (Or.inl ⟨by rfl, ?_⟩) (by assumption) ?_; rotate_left; (focus (intro W hSw; (try dsimp only at hSw); go_simp; try (with_reducible rfl)))); (try simp only [List.getElem_toArray, List.getElem_cons_zero, Act.put, List.setIfInBounds_toArray, List.set_cons_zero, List.set_cons_succ]); (refine wpAnyH_take (i := 1) (v := ?_) rfl (by kernel_rfl) (by kernel_rfl) (by kernel_rfl) (fun _ _ _ h => h) (Or.inl ⟨by rfl, ?_⟩) (by assumption) ?_; rotate_left; (focus (intro W hSw; (try dsimp only at hSw); go_simp; try (with_reducible rfl)))); (try simp only [List.getElem_toArray, List.getElem_cons_zero, List.getElem_cons_succ, Act.put, List.setIfInBounds_toArray, List.set_cons_zero, List.set_cons_succ]); (refine wpAnyH_take (i := 2) (v := ?_) rfl (by kernel_rfl) (by kernel_rfl) (by kernel_rfl) (fun _ _ _ h => h) (Or.inl ⟨by rfl, ?_⟩) (by assumption) ?_; rotate_left; (focus (intro W hSw; (try dsimp only at hSw); go_simp; try (with_reducible rfl)))); (try simp only [List.getElem_toArray, List.getElem_cons_zero, List.getElem_cons_succ, Act.put, List.setIfInBounds_toArray, List.set_cons_zero, List.set_cons_succ]); (refine wpAnyH_take (i := 3) (v := ?_) rfl (by kernel_rfl) (by kernel_rfl) (by kernel_rfl) (fun _ _ _ h => h) (Or.inl ⟨by rfl, ?_⟩) (by assumption) ?_; rotate_left; (focus (intro W hSw; (try dsimp only at hSw); go_simp; try (with_reducible rfl)))); (try simp only [List.getElem_toArray, List.getElem_cons_zero, List.getElem_cons_succ, Act.put, List.setIfInBounds_toArray, List.set_cons_zero, List.set_cons_succ]); (refine wpAnyH_take (i := 5) (v := ?_) rfl (by kernel_rfl) (by kernel_rfl) (by kernel_rfl) (fun _ _ _ h => h) (Or.inl ⟨by rfl, ?_⟩) (by assumption) ?_; rotate_left; (focus (intro W hSw; (try dsimp only at hSw); go_simp; try (with_reducible rfl)))); (try simp only [List.getElem_toArray, List.getElem_cons_zero, List.getElem_cons_succ, Act.put, List.setIfInBounds_toArray, List.set_cons_zero, List.set_cons_succ]); (refine wpAnyH_take (i := 6) (v := ?_) rfl (by kernel_rfl) (by kernel_rfl) (by kernel_rfl) (fun _ _ _ h => h) (Or.inl ⟨by rfl, ?_⟩) (by assumption) ?_; rotate_left; (focus (intro W hSw; (try dsimp only at hSw); go_simp; try (with_reducible rfl)))); (try simp only [List.getElem_toArray, List.getElem_cons_zero, List.getElem_cons_succ, Act.put, List.setIfInBounds_toArray, List.set_cons_zero, List.set_cons_succ]); (refine wpAnyH_take (i := 7) (v := ?_) rfl (by kernel_rfl) (by kernel_rfl) (by kernel_rfl) (fun _ _ _ h => h) (Or.inl ⟨by rfl, ?_⟩) (by assumption) ?_; rotate_left; (focus (intro W hSw; (try dsimp only at hSw); go_simp; try (with_reducible rfl)))); (try simp only [List.getElem_toArray, List.getElem_cons_zero, List.getElem_cons_succ, Act.put, List.setIfInBounds_toArray, List.set_cons_zero, List.set_cons_succ]); (refine wpAnyH_take (i := 8) (v := ?_) rfl (by kernel_rfl) (by kernel_rfl) (by kernel_rfl) (fun _ _ _ h => h) (Or.inl ⟨by rfl, ?_⟩) (by assumption) ?_; rotate_left; (focus (intro W hSw; (try dsimp only at hSw); go_simp; try (with_reducible rfl)))); (try simp only [List.getElem_toArray, List.getElem_cons_zero, List.getElem_cons_succ, Act.put, List.setIfInBounds_toArray, List.set_cons_zero, List.set_cons_succ]); (refine wpAnyH_take (i := 9) (v := ?_) rfl (by kernel_rfl) (by kernel_rfl) (by kernel_rfl) (fun _ _ _ h => h) (Or.inl ⟨by rfl, ?_⟩) (by assumption) ?_; rotate_left; (focus (intro W hSw; (try dsimp only at hSw); go_simp; try (with_reducible rfl)))); (try simp only [List.getElem_toArray, List.getElem_cons_zero, List.getElem_cons_succ, Act.put, List.setIfInBounds_toArray, List.set_cons_zero, List.set_cons_succ]); (refine wpAnyH_take (i := 10) (v := ?_) rfl (by kernel_rfl) (by kernel_rfl) (by kernel_rfl) (fun _ _ _ h => h) (Or.inl ⟨by rfl, ?_⟩) (by assumption) ?_; rotate_left; (focus (intro W hSw; (try dsimp only at hSw); go_simp; try (with_reducible rfl)))); (try simp only [List.getElem_toArray, List.getElem_cons_zero, List.getElem_cons_succ, Act.put, List.setIfInBounds_toArray, List.set_cons_zero, List.set_cons_succ]); (refine wpAnyH_take (i := 11) (v := ?_) rfl (by kernel_rfl) (by kernel_rfl) (by kernel_rfl) (fun _ _ _ h => h) (Or.inl ⟨by rfl, ?_⟩) (by assumption) ?_; rotate_left; (focus (intro W hSw; (try dsimp only at hSw); go_simp; try (with_reducible rfl)))); (try simp only [List.getElem_toArray, List.getElem_cons_zero, List.getElem_cons_succ, Act.put, List.setIfInBounds_toArray, List.set_cons_zero, List.set_cons_succ]); (refine wpAnyH_take (i := 12) (v := ?_) rfl (by kernel_rfl) (by kernel_rfl) (by kernel_rfl) (fun _ _ _ h => h) (Or.inl ⟨by rfl, ?_⟩) (by assumption) ?_; rotate_left; (focus (intro W hSw; (try dsimp only at hSw); go_simp; try (with_reducible rfl)))); (try simp only [List.getElem_toArray, List.getElem_cons_zero, List.getElem_cons_succ, Act.put, List.setIfInBounds_toArray, List.set_cons_zero, List.set_cons_succ]); (refine wpAnyH_take (i := 13) (v := ?_) rfl (by kernel_rfl) (by kernel_rfl) (by kernel_rfl) (fun _ _ _ h => h) (Or.inl ⟨by rfl, ?_⟩) (by assumption) ?_; rotate_left; (focus (intro W hSw; (try dsimp only at hSw); go_simp; try (with_reducible rfl)))); (try simp only [List.getElem_toArray, List.getElem_cons_zero, List.getElem_cons_succ, Act.put, List.setIfInBounds_toArray, List.set_cons_zero, List.set_cons_succ]))
  (refine wpAnyH_ready (rs := [4]) (by kernel_rfl) (by simp) ?_; refine AllReadyH.cons rfl (fun K hK => ?_) AllReadyH.nil)
  go_simp
  refine CB.out.mono ?_; rintro e _ ⟨rfl, rfl⟩
  refine hK.out _ _ ⟨q1, q2, q3⟩ (fun hHeld => ?_)
  clear hK K
  (try simp only [List.getElem_toArray, List.getElem_cons_zero, List.getElem_cons_succ, Act.put, List.setIfInBounds_toArray, List.set_cons_zero, List.set_cons_succ])
  ((refine wpAnyH_take (i := 14) (v := ?_) rfl (by kernel_rfl) (by kernel_rfl) (by kernel_rfl) (fun _ _ _ h => h) (Or.inl ⟨by rfl, ?_⟩) (by assumption) ?_; rotate_left; (focus (intro W hSw; (try dsimp only at hSw); go_simp; try (with_reducible rfl)))); (try simp only [List.getElem_toArray, List.getElem_cons_zero, List.getElem_cons_succ, Act.put, List.setIfInBounds_toArray, List.set_cons_zero, List.set_cons_succ]))
  (refine wpAnyH_ready (rs := [15]) (by kernel_rfl) (by simp) ?_; refine AllReadyH.cons rfl (fun K hK => ?_) AllReadyH.nil)
  go_simp
  refine (CA.out _).mono ?_; rintro e w2 ⟨rfl, h2, b2, hX2⟩
  refine hK.out _ _ ⟨hX2.out.1 _ q1, cell_blk BC.out (hX2.out.2 _ _ _ (by decide) (by decide) BC.out) i q2, cell_blk BR.out (hX2.out.2 _ _ _ (by decide) (by decide) BR.out) 0 q3⟩ (fun hHeld => ?_)
  clear hK K
  (try simp only [List.getElem_toArray, List.getElem_cons_zero, List.getElem_cons_succ, Act.put, List.setIfInBounds_toArray, List.set_cons_zero, List.set_cons_succ])
  (refine wpAnyH_done (by kernel_rfl) ?_ _; change wpList _ _ _ _ _ _)
  clear hHeld CA CB hX2 q1 q2 q3 wT
  have hb2 : Below lo w w2 := (below_drewN (Below.refl _ _) 1).trans b2
  obtain ⟨gC2, cC2, gR2, c4, y1, y2, y3, y4, _, _, hset⟩ := h2.setAt HX.out HY.out
  dsimp only at y1
  rw [← HN.out] at y2
  have HSET := Lib.hid (hset (x + 1)); clear hset h2
  go_wp2_with (fail)
  go_end0
  rw [HM.out]
  exact ⟨rfl, HSET.out.1, hb2.trans HSET.out.2⟩

end Go.Proofs.Ythjamohaeahipaa
