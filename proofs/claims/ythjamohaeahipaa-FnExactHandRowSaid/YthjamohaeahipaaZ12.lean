/- Steps of the proof, joined from several texts: HE HF HH HL HO. -/
import Derived.Test.YthjamohaeahipaaZ11
import Derived.Test.YthjamohaeahipaaZ7
import Derived.Test.YthjamohaeahipaaZ3
import Derived.Test.YthjamohaeahipaaZ8
import Derived.Test.YthjamohaeahipaaZ5

/- Knitting by hand, the given side: every stitch; signs; the columns that each stitch takes. -/
namespace Go.Proofs.Ythjamohaeahipaa
open Go Go.RowKit

def cntFrom (a : Nat) : Nat → List Int
  | 0 => []
  | n + 1 => cntFrom a n ++ [((a + n : Nat) : Int)]
theorem cntFrom_length (a n : Nat) : (cntFrom a n).length = n := by
  induction n with
  | zero => rfl
  | succ n ih => simp [cntFrom, ih]
theorem cntFrom_at {a n j : Nat} (h : j < n) : (cntFrom a n)[j]? = some ((a + j : Nat) : Int) := by
  induction n with
  | zero => omega
  | succ n ih =>
    rw [cntFrom]
    by_cases e : j < n
    · rw [List.getElem?_append_left (by rw [cntFrom_length]; exact e)]
      exact ih e
    · obtain rfl : j = n := by omega
      rw [List.getElem?_append_right (by rw [cntFrom_length]; exact Nat.le_refl _), cntFrom_length]
      simp
def srcs (at_ : Nat) : List Int → List (List Int)
  | [] => []
  | k :: ks => cntFrom at_ (takenN k) :: srcs (at_ + takenN k) ks
theorem srcs_length (a : Nat) (ks : List Int) : (srcs a ks).length = ks.length := by
  induction ks generalizing a with
  | nil => rfl
  | cons k ks ih => simp [srcs, ih]
theorem srcs_at {a : Nat} {ks : List Int} {i : Nat} {k : Int} (h : ks[i]? = some k) : (srcs a ks)[i]? = some (cntFrom (a + takenS (ks.take i)) (takenN k)) := by
  induction ks generalizing a i with
  | nil => simp at h
  | cons x ks ih =>
    cases i with
    | zero =>
      simp at h
      subst h
      simp [srcs, takenS]
    | succ i =>
      have := ih (a := a + takenN x) (i := i) (by simpa using h)
      simp only [srcs, List.getElem?_cons_succ, this, List.take_succ_cons, takenS]
      rw [Nat.add_assoc]
theorem cutC_at {ks st : List Int} {i : Nat} {k : Int} (h : ks[i]? = some k) : (cutC ks st)[i]? = some ((st.drop (takenS (ks.take i))).take (takenN k)) := by
  induction ks generalizing st i with
  | nil => simp at h
  | cons x ks ih =>
    cases i with
    | zero =>
      simp at h
      subst h
      simp [cutC, takenS]
    | succ i =>
      have := ih (st := st.drop (takenN x)) (i := i) (by simpa using h)
      simp only [cutC, List.getElem?_cons_succ, this, List.take_succ_cons, takenS, List.drop_drop]

theorem spec_stitch {z : Option (Nat × Array Value)} {lo g m : Nat} {s : HS} {S : Int} {w : World} (h : SHd z lo g w s) (hG : GoodC m s.cells S) (hS : S ≤ 100) (hm : m ≤ 16) {i : Nat} {c : List Int} (hx : s.cells[i]? = some c) {gr : Nat} {d car k : Int} {AK : Option Addr} {ck : Nat} {ks : List Int} (hr : Blk w gr 29 #[.int .i64 d, .int .i64 car, .slice AK ks.length ck]) (hks : Ints w AK ks) (hk : ks[i]? = some k) (hst : isStitchB k = true) (h6 : k = 6 → 1 ≤ c.length) (hgr : gr < lo) (hd : d = 1 ∨ d = -1) (hl : s.evs.length ≤ 90000) :
    Calls Try.prog 36 #[.pointer (some ⟨g, 0, none⟩), .pointer (some ⟨gr, 0, none⟩), .int .i64 (i : Int)] w fun e w' =>
      e = .returned (.tuple #[]) ∧ SHd z lo g w' (makeTo d car k i c s) ∧ Below lo w w' := by
  rcases stitch_cases hst with rfl | rfl | rfl | rfl | rfl | rfl | rfl | rfl | rfl | rfl | rfl
  · exact spec_stitch_1 h hG hS hm hx hr hks hk hgr hd hl
  · exact spec_stitch_2 h hG hS hm hx hr hks hk hgr hd hl
  · exact spec_stitch_3 h hG hS hm hx hr hks hk hgr hl
  · exact spec_stitch_4 h hG hS hm hx hr hks hk hgr hd hl
  · exact spec_stitch_5 h hG hS hm hx hr hks hk hgr hd hl
  · exact spec_stitch_6 h hG hS hm hx hr hks hk hgr hl (h6 rfl)
  · exact spec_stitch_7 h hr hks hk
  · exact spec_stitch_8 h hG hS hm hx hr hks hk hgr hd hl
  · exact spec_stitch_9 h hG hS hm hx hr hks hk hgr hd hl
  · exact spec_stitch_10 h hG hS hm hx hr hks hk hgr hd hl
  · exact spec_stitch_11 h hG hS hm hx hr hks hk hgr hd hl

theorem spec_l17Sign (k : Int) (hst : isStitchB k = true) (w : World) : Calls Try.prog 53 #[.int .i64 k] w fun e w' => e = .returned (.int .i64 (signI k)) ∧ w = w' := by
  rcases stitch_cases hst with rfl | rfl | rfl | rfl | rfl | rfl | rfl | rfl | rfl | rfl | rfl <;>
  · go_enter Try.func53, Try.ntmps53
    go_wp2_with (fail)
    go_ret
    exact ⟨by rfl, rfl⟩

set_option maxHeartbeats 1000000 in
theorem spec_l20Count (a n : Nat) (w : World) (ha : a ≤ 1000) (hn : n ≤ 1000) :
    Calls Try.prog 52 #[.int .i64 (a : Int), .int .i64 (n : Int)] w fun e w' => ∃ A' c', e = .returned (.slice A' (cntFrom a n).length c') ∧ OwnI w' w.heap.size w'.heap.size A' c' (cntFrom a n) ∧ Below w.heap.size w w' := by
  obtain ⟨i0, hi0, hz0, hz1, hz2⟩ := info_parts info_int64
  have o1 := (OwnC.lit (w := w) (lo := w.heap.size) (n := 0) 2 1 #[] (Nat.le_refl _) (Nat.zero_le _) rfl).mono (Nat.le_refl _) (show w.heap.size + 1 ≤ (w.alloc (.cells #[] 2)).heap.size by simp)
  have O1 := Lib.hid o1; clear o1
  have hb1 : Below w.heap.size w (w.alloc (.cells #[] 2)) := by (repeat (first | exact Below.refl _ _ | assumption | apply Below.drew | apply below_drewN | (refine Below.alloc ?_ (by first | omega | (simp; done) | (simp; omega)) _) | (refine Below.setCell ?_ (by first | omega | (simp; done) | (simp; omega)) _)))
  go_enter Try.func52, Try.ntmps52
  go_wp2_with (fail)
  go_loopw [5, 6] (fun ov tv wr => ∃ (t : Nat) (A' : Option Addr) (c' : Nat), t ≤ n ∧ tv = .int .i64 t ∧ ov = .slice A' t c' ∧ OwnC wr w.heap.size wr.heap.size 2 1 A' t c' ((cntFrom a t).map (Value.int .i64)) ∧ Below w.heap.size w wr) (fun _ tv _ => n - (intOf tv).toNat)
  case atStart => exact ⟨0, some ⟨w.heap.size, 0, none⟩, 0, Nat.zero_le _, rfl, rfl, O1.out, hb1⟩
  case round =>
    obtain ⟨t, A', c', ht, rfl, rfl, ho, hbr⟩ := hrel
    have hzr := hbr.size
    by_cases htn : t < n
    · have hd : decide ((t : Int) < (n : Int)) = true := decide_eq_true (by omega)
      have HN : Hid ((cntFrom a (t + 1)).map (Value.int .i64) = (cntFrom a t).map (Value.int .i64) ++ [.int .i64 ((a : Int) + (t : Int))]) := Lib.hid (by rw [cntFrom, List.map_append]; simp)
      go_wp2_with (at_builtin; refine wpList_append1 wr [.int .i64 ((a : Int) + (t : Int))] _ rfl (.tmp 13) (.tmp 17) _ rfl 2 i0 _ 1 8 Try.underlying22 hi0 hz0 hz1 hz2 rfl (by decide) rfl ho hzr 1 rfl rfl (by simp [Value.oneCell']) (by omega) (by decide) ?_; intro A5 c5 w5 ho5 hg5 hb5 hz5)
      exact ⟨⟨t + 1, A5, c5, by omega, by go_num, rfl, by rw [HN.out]; exact ho5, hbr.trans hb5⟩, by first | (simp [intOf]; done) | (simp [intOf]; omega)⟩
    · obtain rfl : t = n := by omega
      have hd : decide ((t : Int) < (t : Int)) = false := decide_eq_false (by omega)
      go_wp2_with (fail)
      go_ret
      rw [cntFrom_length]
      refine ⟨A', c', rfl, ?_, hbr⟩
      show OwnC _ _ _ _ _ _ _ _ _
      rw [cntFrom_length]
      exact ho

set_option maxHeartbeats 2000000 in
set_option maxRecDepth 10000 in
theorem spec_l20Sources {gr : Nat} {d car : Int} {AK : Option Addr} {ck : Nat} {ks : List Int} (w : World) (hr : Blk w gr 29 #[.int .i64 d, .int .i64 car, .slice AK ks.length ck]) (hks : Ints w AK ks) (hst : stitchesB ks = true) :
    Calls Try.prog 33 #[.pointer (some ⟨gr, 0, none⟩)] w fun e w' => ∃ A' c', e = .returned (.slice A' ks.length c') ∧ OwnII w' w.heap.size w'.heap.size A' ks.length c' (srcs 0 ks) ∧ Below w.heap.size w w' := by
  obtain ⟨i1, hi1, hy0, hy1, hy2⟩ := info_parts info_ints
  obtain ⟨hl16, hmem⟩ := stitchesB_of hst
  obtain ⟨_, _, r2⟩ := hr.c3
  have HM := Lib.hid hmem; clear hmem
  have HSL := Lib.hid (srcs_length 0 ks)
  go_enter Try.func33, Try.ntmps33
  go_wp2_with (fail)
  go_loopw [3, 4, 5] (fun ov av iv wr => ∃ (k : Nat) (A3 : Option Addr) (c3 : Nat) (cs : List Value), k ≤ ks.length ∧ iv = .int .i64 k ∧ av = .int .i64 (takenS (ks.take k) : Int) ∧ takenS (ks.take k) ≤ 4 * k ∧ ov = .slice A3 k c3 ∧ OwnC wr w.heap.size wr.heap.size 22 1 A3 k c3 cs ∧ CellsII wr w.heap.size wr.heap.size cs ((srcs 0 ks).take k) ∧ Below w.heap.size w wr) (fun _ _ iv _ => ks.length - (intOf iv).toNat)
  case atStart => exact ⟨0, some ⟨w.heap.size, 0, none⟩, 0, [], Nat.zero_le _, rfl, rfl, Nat.le_refl _, rfl, (OwnC.lit _ 1 #[] (Nat.le_refl _) (Nat.zero_le _) rfl).mono (Nat.le_refl _) (by simp), ⟨rfl, fun k xs hx => by simp at hx, fun i j v v' g hi' => by simp at hi'⟩, by (repeat (first | exact Below.refl _ _ | assumption | apply Below.drew | apply below_drewN | (refine Below.alloc ?_ (by first | omega | (simp; done) | (simp; omega)) _) | (refine Below.setCell ?_ (by first | omega | (simp; done) | (simp; omega)) _)))⟩
  case round =>
    obtain ⟨k, A3, c3, cs, hk, rfl, rfl, hts, rfl, ho, hci, hb⟩ := hrel
    have hzs := hb.size
    have r2r := ((hr.below hb hr.lt).c3).2.2
    by_cases hlt : k < ks.length
    · obtain ⟨b, off, x, rfl, hc, hx⟩ := (hks.below hb) k hlt
      have hxs := HM.out x (List.mem_of_getElem? hx)
      have hxt : takenB x = (takenN x : Int) := by rw [takenB, if_pos hxs]
      have ht4 : takenN x ≤ 4 := by rcases stitch_cases hxs with rfl | rfl | rfl | rfl | rfl | rfl | rfl | rfl | rfl | rfl | rfl <;> decide
      have HX : Hid ((srcs 0 ks).take (k + 1) = (srcs 0 ks).take k ++ [cntFrom (takenS (ks.take k)) (takenN x)]) := Lib.hid (by have := srcs_at (a := 0) hx; rw [Nat.zero_add] at this; exact take_snoc this)
      have HTS : Hid (takenS (ks.take (k + 1)) = takenS (ks.take k) + takenN x) := Lib.hid (by rw [take_snoc hx, takenS_append]; simp [takenS])
      have HXT := Lib.hid hxt; clear hxt
      clear hx
      have j1 : (0 : Int) ≤ (k : Int) := by omega
      have j2 : (k : Int) < (ks.length : Int) := by omega
      generalize takenS (ks.take k) = a at *
      have wA : IntKind.i64.wrap ((a : Int) + (takenN x : Int)) = (a : Int) + (takenN x : Int) := IntWalk.i64_in _ ⟨by omega, by omega⟩
      go_wp2_with (fail)
      refine (spec_ColumnsTaken x _).mono ?_; rintro e w3 ⟨rfl, b3⟩
      rw [HXT.out]
      go_wp2_with (fail)
      refine (spec_l20Count a (takenN x) _ (by omega) (by omega)).mono ?_; rintro e w4 ⟨A5, c5, rfl, o5, b5⟩
      have z3 := b3.size
      have z5 := b5.size
      have hb4 : Below w.heap.size w w4 := (hb.trans (b3.mono hzs)).trans (b5.mono (by omega))
      have ho3 := ho.below b3 (Nat.le_refl _)
      have ho' := ho3.below b5 (by omega)
      have hci3 : CellsII w3 w.heap.size wr.heap.size cs ((srcs 0 ks).take k) := hci.keep fun q _ h2 _ => b3.block q h2
      have hci' : CellsII w4 w.heap.size wr.heap.size cs ((srcs 0 ks).take k) := hci3.keep fun q _ h2 _ => b5.block q (by omega)
      clear ho3 hci3
      have ho4 := ho'.mono (Nat.le_refl _) z3
      have hci4 := hci'.mono (Nat.le_refl _) z3
      have HXL := Lib.hid (cntFrom_length a (takenN x))
      go_wp2_with (at_builtin; refine wpList_append1 w4 [.slice A5 (cntFrom a (takenN x)).length c5] _ rfl (.tmp 25) (.tmp 29) _ rfl 22 i1 _ 1 24 Try.underlying54 hi1 hy0 hy1 hy2 rfl (by decide) rfl ho4 (by omega) 1 rfl rfl (by simp [Value.oneCell']) (by omega) (by decide) ?_; intro A6 c6 w6 ho6 hg6 hb6 hz6)
      obtain ⟨_, hN⟩ := stacks_step ho4 hci4 o5 (by omega) z5 hg6 hz6
      go_roundw
      case rel => exact ⟨k + 1, A6, c6, _, by omega, by go_num, by rw [HTS.out]; rfl, by rw [HTS.out]; omega, rfl, ho6, by rw [HX.out]; exact hN, hb4.trans hb6⟩
      case measure => simp [intOf]; omega
    · obtain rfl : k = ks.length := by omega
      have dk : decide ((ks.length : Int) < (ks.length : Int)) = false := decide_eq_false (by omega)
      go_wp2_with (fail)
      go_ret
      rw [take_all (by rw [HSL.out]; exact Nat.le_refl _)] at hci
      exact ⟨A3, c3, rfl, ⟨cs, ho, hci⟩, hb⟩

end Go.Proofs.Ythjamohaeahipaa

/- Knitting by hand, the given side: crossings. -/
namespace Go.Proofs.Ythjamohaeahipaa
open Go Go.RowKit

theorem spec_l03Abs_pos (x : Int) (w : World) (h : 0 ≤ x) : Calls Try.prog 55 #[.int .i64 x] w fun e w' => e = .returned (.int .i64 x) ∧ w = w' := by
  have d1 : decide (x < 0) = false := decide_eq_false (by omega)
  go_enter Try.func55, Try.ntmps55
  go_wp2_with (fail)
  go_ret
  exact ⟨rfl, rfl⟩
theorem spec_l03Abs_neg (x : Int) (w : World) (h : 0 < x) (h2 : x ≤ 1000) : Calls Try.prog 55 #[.int .i64 (-x)] w fun e w' => e = .returned (.int .i64 x) ∧ w = w' := by
  have d1 : decide (-x < 0) = true := decide_eq_true (by omega)
  have d2 : IntKind.i64.wrap (- -x) = x := by rw [Int.neg_neg]; exact IntWalk.i64_in _ ⟨by omega, by omega⟩
  have d3 : IntKind.i64.wrap x = x := IntWalk.i64_in _ ⟨by omega, by omega⟩
  have d4 : decide (0 < x) = true := decide_eq_true h
  go_enter Try.func55, Try.ntmps55
  go_wp2_with (fail)
  go_ret
  exact ⟨rfl, rfl⟩
theorem spec_abs_sign (s x : Int) (hs : s = 1 ∨ s = -1) (w : World) (h : 0 < x) (h2 : x ≤ 1000) : Calls Try.prog 55 #[.int .i64 (s * x)] w fun e w' => e = .returned (.int .i64 x) ∧ w = w' := by
  rcases hs with rfl | rfl
  · rw [Int.one_mul]; exact spec_l03Abs_pos x w (by omega)
  · rw [show (-1 : Int) * x = -x by omega]; exact spec_l03Abs_neg x w h h2

theorem spec_cross_none {z : Option (Nat × Array Value)} {lo g : Nat} {s : HS} {w : World} (h : SHd z lo g w s) {i : Nat} {c : List Int} {k : Int} (hst : isStitchB k = true) (h0 : signI k = 0) :
    Calls Try.prog 34 #[.pointer (some ⟨g, 0, none⟩), .int .i64 (i : Int), .int .i64 k] w fun e w' =>
      e = .returned (.tuple #[]) ∧ SHd z lo g w' (crossTo k i c s) ∧ Below lo w w' := by
  have HM : Hid (crossTo k i c s = s) := Lib.hid (by unfold crossTo; rw [if_pos h0])
  have H0 := Lib.hid h0; clear h0
  go_enter Try.func34, Try.ntmps34
  go_wp2_with (fail)
  refine (spec_l17Sign k hst w).mono ?_; rintro e _ ⟨rfl, rfl⟩
  rw [H0.out]
  go_wp2_with (fail)
  refine bodyPost_ret (v := .tuple #[]) (by simp [results, Try.results34, go_sem]) rfl ?_
  rw [HM.out]
  exact ⟨rfl, h, Below.refl _ _⟩

/-- An event behind the others, its literal just made: what holds behind the store of the box. -/
theorem SHd.push {z : Option (Nat × Array Value)} {lo g : Nat} {w w8 : World} {evs : List EventD} {cells : List (List Int)} {e : EventD} {AE AC A9 : Option Addr} {cE cC c9 : Nat}
    (hk : Blk w g 56 #[.slice AE evs.length cE, .slice AC cells.length cC]) (ho : OwnEvent w lo w.heap.size AE cE evs) (hc : OwnIIz z w lo w.heap.size AC cells.length cC cells) (hlo : lo ≤ g)
    (ho8 : OwnC w8 lo w8.heap.size 49 6 A9 (evs.length + 1) c9 (cellsEvent evs ++ [.int .i64 e.kind, .int .i64 e.place, .int .i64 e.count, .int .i64 e.bed, .int .i64 e.carrier, .int .i64 e.dir]))
    (hg8 : ((World.drew w).alloc (.cells #[.int .i64 e.kind, .int .i64 e.place, .int .i64 e.count, .int .i64 e.bed, .int .i64 e.carrier, .int .i64 e.dir] 49)).grownBy w8 (Value.slice AE evs.length cE).ownBlock)
    (hb8 : Below lo ((World.drew w).alloc (.cells #[.int .i64 e.kind, .int .i64 e.place, .int .i64 e.count, .int .i64 e.bed, .int .i64 e.carrier, .int .i64 e.dir] 49)) w8) :
    Blk w8 g 56 #[.slice AE evs.length cE, .slice AC cells.length cC] ∧ SHd z lo g (w8.setCell ⟨g, 0, none⟩ (.slice A9 (evs.length + 1) c9)) ⟨evs ++ [e], cells⟩ ∧ Below lo w (w8.setCell ⟨g, 0, none⟩ (.slice A9 (evs.length + 1) c9)) ∧
      ∀ (k : Nat) (t : TypeId) (cur : Array Value), t ≠ 49 → t ≠ 56 → Blk w k t cur → Blk w8 k t cur ∧ Blk (w8.setCell ⟨g, 0, none⟩ (.slice A9 (evs.length + 1) c9)) k t cur := by
  have t2 : (56 : TypeId) ≠ 49 := by decide
  have hlz0 : lo ≤ w.heap.size := by have := hk.lt; omega
  have hk8 := (hk.drew1.alloc (.cells #[.int .i64 e.kind, .int .i64 e.place, .int .i64 e.count, .int .i64 e.bed, .int .i64 e.carrier, .int .i64 e.dir] 49)).grownT ((OwnC.drew1 ho).alloc _) t2 hg8
  have hc8 : OwnIIz z w8 lo w.heap.size AC cells.length cC cells := by
    obtain ⟨cs, h1, h2, h3⟩ := hc.ex
    have h2' : CellsII ((World.drew w).alloc (.cells #[.int .i64 e.kind, .int .i64 e.place, .int .i64 e.count, .int .i64 e.bed, .int .i64 e.carrier, .int .i64 e.dir] 49)) lo w.heap.size cs cells := h2.keep fun k _ _ h4 => Below.heap_alloc (World.drew w) _ k h4
    exact ⟨cs, ((OwnC.drew1 h1).alloc _).grownT ((OwnC.drew1 ho).alloc _) (by decide) hg8, h2'.grownT ((OwnC.drew1 ho).alloc _) (by decide) hg8, h3.step fun q cur hq => (hq.drew1.alloc (.cells #[.int .i64 e.kind, .int .i64 e.place, .int .i64 e.count, .int .i64 e.bed, .int .i64 e.carrier, .int .i64 e.dir] 49)).grownT ((OwnC.drew1 ho).alloc _) (by decide) hg8⟩
  have hcat : (evs ++ [e]).length = evs.length + 1 := by simp
  refine ⟨hk8, ⟨⟨A9, c9, AC, cC, ?_, ?_, ?_⟩, hlo⟩, ((Below.alloc (Below.drew (Below.refl _ _)) hlz0 _).trans hb8).setCell hlo _, fun k t cur he1 he2 hb => ?_⟩
  · dsimp only; rw [hcat]; exact hk8.set20 _
  · dsimp only
    show OwnC _ _ _ _ _ _ _ _ _
    rw [hcat, cellsEvent_snoc]
    exact (OwnC.farT ho8 hk8 t2 0 _).mono (Nat.le_refl _) (by simp)
  · exact (OwnIIz.farT hc8 hk8 (by decide) (by decide) 0 _).mono (Nat.le_refl _) (by have := hb8.size; simp at this ⊢; have e : (World.drew w).heap.size = w.heap.size := rfl; omega)
  · have h1 := (hb.drew1.alloc (.cells #[.int .i64 e.kind, .int .i64 e.place, .int .i64 e.count, .int .i64 e.bed, .int .i64 e.carrier, .int .i64 e.dir] 49)).grownT ((OwnC.drew1 ho).alloc _) he1 hg8
    refine ⟨h1, h1.far (p := ⟨g, 0, none⟩) ?_ _⟩
    show k ≠ g
    rintro rfl
    have := hk8.symm.trans h1
    injection this with this
    injection this with _ this
    exact he2 this.symm
theorem OwnC.blkEx {w : World} {lo hi n c g : Nat} {e : TypeId} {sz : Nat} {cs : List Value} (h : OwnC w lo hi e sz (some ⟨g, 0, none⟩) n c cs) : ∃ cur, Blk w g e cur ∧ lo ≤ g ∧ g < hi := by
  rcases h.form with ⟨h1, _⟩ | ⟨q, cur, h1, h3, h4, h2, _⟩
  · cases h1
  · injection h1 with h1
    injection h1 with h1
    subst h1
    exact ⟨cur, h2, h3, h4⟩
theorem Ints.blk {w w' : World} {g : Nat} {t : TypeId} {cur : Array Value} {xs : List Int} (h : Ints w (some ⟨g, 0, none⟩) xs) (hb : Blk w g t cur) (hb' : Blk w' g t cur) : Ints w' (some ⟨g, 0, none⟩) xs := by
  intro k hk
  obtain ⟨b, off, x, hA, hc, hx⟩ := h k hk
  injection hA with hA
  injection hA with hA1 hA2
  subst hA1 hA2
  exact ⟨g, 0, x, rfl, cell_blk hb hb' _ hc, hx⟩

end Go.Proofs.Ythjamohaeahipaa

/- Knitting by hand, plain: what the steps keep. -/
namespace Go.Proofs.Ythjamohaeahipaa
open Go Go.RowKit

theorem crossTo_good {m : Nat} {s : HS} {S : Int} (hG : GoodC m s.cells S) (hS : S ≤ 12) {i : Nat} {c : List Int} (hx : s.cells[i]? = some c) (k : Int) :
    crossStep k i s = crossTo k i c s ∧ GoodC m (crossTo k i c s).cells S ∧ (crossTo k i c s).evs.length ≤ s.evs.length + 144 ∧ (∃ c', (crossTo k i c s).cells[i]? = some c' ∧ c'.length = c.length) ∧ ∀ j, j ≠ i → (crossTo k i c s).cells[j]? = s.cells[j]? := by
  have e : crossStep k i s = crossTo k i c s := by unfold crossStep; rw [hx]
  refine ⟨e, ?_⟩
  obtain ⟨hnn, h4, hle, h0⟩ := hG.at_ hx
  have hT := (hG.take i).1
  unfold crossTo
  split
  · exact ⟨hG, by omega, ⟨c, hx, rfl⟩, fun _ _ => rfl⟩
  · have hP := hnn.part (c.length / 2)
    have hlen : (c.drop (c.length / 2) ++ c.take (c.length / 2)).length = c.length := by
      rw [List.length_append, List.length_drop, List.length_take]; omega
    have hi : i < s.cells.length := (List.getElem?_eq_some_iff.1 hx).1
    refine ⟨?_, ?_, ⟨_, List.getElem?_set_self hi, hlen⟩, fun j hj => List.getElem?_set_ne (Ne.symm hj)⟩
    · have h1 := hG.set hx (c' := c.drop (c.length / 2) ++ c.take (c.length / 2)) (fun x hx => by
        rcases List.mem_append.1 hx with h | h
        · exact hnn.drop _ x h
        · exact hnn.take _ x h) (by rw [hlen]; exact h4)
      have h2 := sumI_split c (c.length / 2)
      rw [sumI_append] at h1
      rw [show S - sumI c + (sumI (c.drop (c.length / 2)) + sumI (c.take (c.length / 2))) = S by omega] at h1
      exact h1
    · rw [List.length_append, crossEvs_length]
      have h1 : (sumI (c.take (c.length / 2))).toNat ≤ 12 := by omega
      have h2 : (sumI (c.drop (c.length / 2))).toNat ≤ 12 := by omega
      have := Nat.mul_le_mul h1 h2
      omega
theorem knitN_good {m : Nat} {s : HS} {S : Int} (hG : GoodC m s.cells S) {i : Nat} {c : List Int} (hx : s.cells[i]? = some c) (d car bed : Int) : ∀ n, n ≤ c.length →
    ∃ c' S', (knitN d car bed i n s).cells[i]? = some c' ∧ c'.length = c.length ∧ GoodC m (knitN d car bed i n s).cells S' ∧ S' ≤ S + n ∧ (knitN d car bed i n s).evs.length = s.evs.length + n ∧ ∀ j, j ≠ i → (knitN d car bed i n s).cells[j]? = s.cells[j]? := by
  intro n
  induction n with
  | zero => intro _; exact ⟨c, S, hx, rfl, hG, by omega, rfl, fun _ _ => rfl⟩
  | succ n ih =>
    intro hn
    obtain ⟨c', S', h1, h2, h3, h4, h5, h6⟩ := ih (by omega)
    obtain ⟨g1, g2, ⟨S2, g3, g4⟩, g5⟩ := knitStep_good h3 h1 (d := d) (car := car) (bed := bed) (t := n) (by omega)
    refine ⟨_, S2, g2, by rw [List.length_set]; exact h2, g4, by omega, by rw [knitN, g5, h5]; omega, fun j hj => ?_⟩
    rw [knitN, g1]
    show (((knitN d car bed i n s).cells.set i _)[j]?) = _
    rw [List.getElem?_set_ne (Ne.symm hj)]
    exact h6 j hj
theorem makeTo_good {m : Nat} {s : HS} {S : Int} (hG : GoodC m s.cells S) {i : Nat} {c : List Int} (hx : s.cells[i]? = some c) (d car k : Int) (h6 : k = 6 → 1 ≤ c.length) :
    ∃ c' S', (makeTo d car k i c s).cells[i]? = some c' ∧ (1 ≤ c.length → 1 ≤ c'.length) ∧ GoodC m (makeTo d car k i c s).cells S' ∧ S' ≤ S + 4 ∧ (makeTo d car k i c s).evs.length ≤ s.evs.length + 4 ∧ ∀ j, j ≠ i → (makeTo d car k i c s).cells[j]? = s.cells[j]? := by
  obtain ⟨hnn, h4, hle, h0⟩ := hG.at_ hx
  have hT := (hG.take i).1
  have hi : i < s.cells.length := (List.getElem?_eq_some_iff.1 hx).1
  have hone : GoodC m (s.cells.set i [1]) (S - sumI c + sumI [1]) := hG.set hx (by intro y hy; simp at hy; omega) (by simp)
  have hs1 : sumI [1] = 1 := rfl
  unfold makeTo
  split
  · rename_i hk
    exact ⟨[1], _, List.getElem?_set_self hi, fun _ => Nat.le_refl _, hone, by omega, by simp, fun j hj => List.getElem?_set_ne (Ne.symm hj)⟩
  · split
    · rename_i hk
      have hc1 := h6 hk
      obtain ⟨x, hy⟩ : ∃ x, c[0]? = some x := ⟨_, List.getElem?_eq_getElem (by omega)⟩
      have hxb := hnn.at_le hy
      have hget : c.getD 0 0 = x := by rw [List.getD_eq_getElem?_getD, hy]; rfl
      rw [hget]
      have h1 := hG.set hx (hnn.set 0 (y := x + 1) (by omega)) (by rw [List.length_set]; exact h4)
      rw [sumI_set hy] at h1
      exact ⟨_, _, List.getElem?_set_self hi, fun h => by rw [List.length_set]; exact h, h1, by omega, by simp, fun j hj => List.getElem?_set_ne (Ne.symm hj)⟩
    · split
      · exact ⟨c, S, hx, id, hG, by omega, by omega, fun _ _ => rfl⟩
      · split
        · rename_i h1 h2 h3 hk
          exact ⟨[1], _, List.getElem?_set_self hi, fun _ => Nat.le_refl _, hone, by omega, by simp, fun j hj => List.getElem?_set_ne (Ne.symm hj)⟩
        · obtain ⟨c', S', g1, g2, g3, g5, g6, g7⟩ := knitN_good hG hx d car (if k = 2 then 2 else 1) c.length (Nat.le_refl _)
          exact ⟨c', S', g1, fun h => by rw [g2]; exact h, g3, by omega, by omega, g7⟩
end Go.Proofs.Ythjamohaeahipaa

/- Knitting by hand, plain: what the crossings and the stitches of a row keep. -/
namespace Go.Proofs.Ythjamohaeahipaa
open Go Go.RowKit

theorem cutC_tot {ks st : List Int} (h : takenS ks = st.length) : tot (cutC ks st) = sumI st := by
  induction ks generalizing st with
  | nil =>
    have : st = [] := List.eq_nil_of_length_eq_zero h.symm
    subst this
    rfl
  | cons k ks ih =>
    rw [takenS] at h
    rw [cutC, tot, ih (by rw [List.length_drop]; omega), sumI_split]
theorem cutC_nn {ks st : List Int} (hs : NN st) (hk : ∀ k ∈ ks, takenN k ≤ 4) : ∀ c ∈ cutC ks st, NN c ∧ c.length ≤ 4 := by
  induction ks generalizing st with
  | nil => intro c hc; simp [cutC] at hc
  | cons k ks ih =>
    intro c hc
    rw [cutC, List.mem_cons] at hc
    rcases hc with rfl | hc
    · have := hk k (by simp)
      exact ⟨hs.take _, by rw [List.length_take]; omega⟩
    · exact ih (hs.drop _) (fun j hj => hk j (by simp [hj])) c hc
theorem takenN_le4 {k : Int} (h : isStitchB k = true) : takenN k ≤ 4 := by rcases stitch_cases h with rfl | rfl | rfl | rfl | rfl | rfl | rfl | rfl | rfl | rfl | rfl <;> decide
theorem cutC_good {ks st : List Int} (hs : NN st) (hk : ∀ k ∈ ks, isStitchB k = true) (h : takenS ks = st.length) : GoodC ks.length (cutC ks st) (sumI st) :=
  ⟨cutC_length ks st, cutC_nn hs (fun k hj => takenN_le4 (hk k hj)), cutC_tot h⟩
theorem cutC_len {ks st : List Int} (h : takenS ks = st.length) {j : Nat} {k : Int} (hk : ks[j]? = some k) : ∃ c : List Int, (cutC ks st)[j]? = some c ∧ c.length = takenN k := by
  refine ⟨_, cutC_at hk, ?_⟩
  have h1 : takenS (ks.take (j + 1)) = takenS (ks.take j) + takenN k := by rw [take_snoc hk, takenS_append]; simp [takenS]
  have h2 := takenS_append (ks.take (j + 1)) (ks.drop (j + 1))
  rw [List.take_append_drop, h] at h2
  rw [List.length_take, List.length_drop]
  omega
/-- What holds behind the crossings of the first n stitches. -/
structure CrossOk (ks st : List Int) (n : Nat) (s : HS) : Prop where
  good : GoodC ks.length s.cells (sumI st)
  evs : s.evs.length ≤ 144 * n
  rest : ∀ j : Nat, n ≤ j → s.cells[j]? = (cutC ks st)[j]?
  len : ∀ (j : Nat) (k : Int), ks[j]? = some k → ∃ c : List Int, s.cells[j]? = some c ∧ c.length = takenN k
theorem crossN_ok {ks st : List Int} (hs : NN st) (hk : ∀ k ∈ ks, isStitchB k = true) (ht : takenS ks = st.length) (hS : sumI st ≤ 12) : ∀ n, n ≤ ks.length → CrossOk ks st n (crossN ks n ⟨[], cutC ks st⟩) := by
  intro n
  induction n with
  | zero => intro _; exact ⟨cutC_good hs hk ht, Nat.zero_le _, fun _ _ => rfl, fun j k hj => cutC_len ht hj⟩
  | succ n ih =>
    intro hn
    obtain ⟨g1, g2, g3, g4⟩ := ih (by omega)
    obtain ⟨kd, hkd⟩ : ∃ kd, ks[n]? = some kd := ⟨_, List.getElem?_eq_getElem (by omega)⟩
    have hgd : ks.getD n 0 = kd := by rw [List.getD_eq_getElem?_getD, hkd]; rfl
    obtain ⟨c, hc, hcl⟩ := g4 n kd hkd
    obtain ⟨e1, e2, e3, ⟨c', e4, e5⟩, e6⟩ := crossTo_good g1 hS hc kd
    have he : crossN ks (n + 1) ⟨[], cutC ks st⟩ = crossTo kd n c (crossN ks n ⟨[], cutC ks st⟩) := by rw [crossN, hgd, e1]
    rw [he]
    refine ⟨e2, by omega, fun j hj => ?_, fun j k hj => ?_⟩
    · rw [e6 j (by omega)]; exact g3 j (by omega)
    · by_cases ej : j = n
      · subst ej
        rw [hkd] at hj
        injection hj with hj
        subst hj
        exact ⟨c', e4, by omega⟩
      · rw [e6 j ej]; exact g4 j k hj
/-- What holds behind the first n stitches. -/
structure MakeOk (ks : List Int) (n : Nat) (s : HS) : Prop where
  good : ∃ S, S ≤ 12 ∧ GoodC ks.length s.cells S
  evs : s.evs.length ≤ 2304 + 4 * n
  len : ∀ (j : Nat) (k : Int), ks[j]? = some k → k ≠ 3 → ∃ c : List Int, s.cells[j]? = some c ∧ 1 ≤ c.length
theorem takenN_pos {k : Int} (h : isStitchB k = true) (h3 : k ≠ 3) : 1 ≤ takenN k := by rcases stitch_cases h with rfl | rfl | rfl | rfl | rfl | rfl | rfl | rfl | rfl | rfl | rfl <;> first | decide | exact absurd rfl h3
theorem MakeOk.start {ks st : List Int} {s : HS} (h : CrossOk ks st ks.length s) (hk : ∀ k ∈ ks, isStitchB k = true) (hl : ks.length ≤ 16) (hS : sumI st ≤ 12) : MakeOk ks 0 s :=
  ⟨⟨_, hS, h.good⟩, by have := h.evs; omega, fun j k hj h3 => by
    obtain ⟨c, h1, h2⟩ := h.len j k hj
    exact ⟨c, h1, by rw [h2]; exact takenN_pos (hk k (List.mem_of_getElem? hj)) h3⟩⟩
theorem orderP_in {d : Int} {n k : Nat} {x : Int} (h : (orderP d n)[k]? = some x) : ∃ i : Nat, x = (i : Int) ∧ i < n := by
  have hk : k < n := by have := (List.getElem?_eq_some_iff.1 h).1; rwa [orderP_length] at this
  by_cases hd : d = 1
  · subst hd
    rw [orderP_at1 hk] at h
    injection h with h
    exact ⟨k, h.symm, hk⟩
  · rw [orderP_at2 hd hk] at h
    injection h with h
    exact ⟨n - 1 - k, by omega, by omega⟩
theorem makeStep_ok {ks : List Int} {n : Nat} {s : HS} (h : MakeOk ks n s) (d car : Int) {i : Nat} {k : Int} (hk : ks[i]? = some k) :
    ∃ c, s.cells[i]? = some c ∧ (k ≠ 3 → 1 ≤ c.length) ∧ makeStep d car ks i s = makeTo d car k i c s ∧ (∃ S, S ≤ 16 ∧ GoodC ks.length (makeTo d car k i c s).cells S) ∧ (makeTo d car k i c s).evs.length ≤ s.evs.length + 4 ∧
      (tot (makeTo d car k i c s).cells ≤ 12 → MakeOk ks (n + 1) (makeTo d car k i c s)) := by
  obtain ⟨S, hS, hG⟩ := h.good
  have hi : i < s.cells.length := by rw [hG.len]; exact (List.getElem?_eq_some_iff.1 hk).1
  have hc : s.cells[i]? = some s.cells[i] := List.getElem?_eq_getElem hi
  have h6 : k ≠ 3 → 1 ≤ s.cells[i].length := by
    intro h3
    obtain ⟨c, h1, h2⟩ := h.len i k hk h3
    rw [hc] at h1
    injection h1 with h1
    rw [h1]; exact h2
  obtain ⟨c', S', e1, e2, e3, e4, e5, e6⟩ := makeTo_good hG hc d car k (fun h => h6 (by omega))
  have hgd : ks.getD i 0 = k := by rw [List.getD_eq_getElem?_getD, hk]; rfl
  refine ⟨_, hc, h6, by unfold makeStep; rw [hc, hgd], ⟨S', by omega, e3⟩, e5, fun hT => ⟨⟨S', by have := e3.sum; omega, e3⟩, by have := h.evs; omega, fun j kj hj h3 => ?_⟩⟩
  by_cases ej : j = i
  · subst ej
    rw [hk] at hj
    injection hj with hj
    subst hj
    exact ⟨c', e1, e2 (h6 h3)⟩
  · rw [e6 j ej]; exact h.len j kj hj h3
theorem makeN_none {d car : Int} {ks ord : List Int} {s : HS} {n : Nat} (h : makeN d car ks ord n s = none) : ∀ m, n ≤ m → makeN d car ks ord m s = none := by
  intro m hm
  induction m with
  | zero =>
    obtain rfl : n = 0 := by omega
    exact h
  | succ m ih =>
    by_cases e : n = m + 1
    · rw [← e]; exact h
    · rw [makeN, ih (by omega)]
theorem makeN_ok {d car : Int} {ks : List Int} {s s' : HS} (h : MakeOk ks 0 s) {n : Nat} (hn : n ≤ ks.length) (hs : makeN d car ks (orderP d ks.length) n s = some s') : MakeOk ks n s' := by
  induction n generalizing s' with
  | zero => rw [makeN] at hs; injection hs with hs; subst hs; exact h
  | succ n ih =>
    rw [makeN] at hs
    cases h1 : makeN d car ks (orderP d ks.length) n s with
    | none => rw [h1] at hs; cases hs
    | some s1 =>
      rw [h1] at hs
      dsimp only at hs
      have ho := ih (by omega) h1
      obtain ⟨x, hx⟩ : ∃ x, (orderP d ks.length)[n]? = some x := ⟨_, List.getElem?_eq_getElem (by rw [orderP_length]; omega)⟩
      obtain ⟨i, rfl, hi⟩ := orderP_in hx
      have hgd : (orderP d ks.length).getD n 0 = (i : Int) := by rw [List.getD_eq_getElem?_getD, hx]; rfl
      obtain ⟨c, e1, e2, e3, _, _, e6⟩ := makeStep_ok ho d car (List.getElem?_eq_getElem hi)
      rw [hgd, Int.toNat_natCast, e3] at hs
      split at hs
      · cases hs
      · injection hs with hs
        subst hs
        exact e6 (by omega)
theorem cells_cnt {m : Nat} {cs : List (List Int)} {S : Int} (h : GoodC m cs S) (hm : m ≤ 16) : cntII cs ≤ 64 := by
  have := cntII_le (xss := cs) (m := 4) (fun r hr => (h.nn r hr).2)
  rw [h.len] at this
  omega
theorem hand_some {d car : Int} {ks st : List Int} {s : HS} (h : handS d car ks st = some s) : handEvs d car ks st = s.evs ∧ handAfter d car ks st = s.cells.flatten := by
  unfold handEvs handAfter
  rw [h]
  exact ⟨rfl, rfl⟩
theorem hand_none {d car : Int} {ks st : List Int} (h : handS d car ks st = none) : handEvs d car ks st = [] ∧ handAfter d car ks st = [] := by
  unfold handEvs handAfter
  rw [h]
  exact ⟨rfl, rfl⟩
end Go.Proofs.Ythjamohaeahipaa

/- Knitting by hand: the hand of the program's side in memory; add. -/
namespace Go.Proofs.Ythjamohaeahipaa
open Go Go.RowKit

theorem Blk.c5 {w : World} {g : Nat} {t : TypeId} {a0 a1 a2 a3 a4 : Value} (h : Blk w g t #[a0, a1, a2, a3, a4]) : w.cell? ⟨g, 0, none⟩ = some a0 ∧ w.cell? ⟨g, 1, none⟩ = some a1 ∧ w.cell? ⟨g, 2, none⟩ = some a2 ∧ w.cell? ⟨g, 3, none⟩ = some a3 ∧ w.cell? ⟨g, 4, none⟩ = some a4 := ⟨h.cell 0, h.cell 1, h.cell 2, h.cell 3, h.cell 4⟩
theorem Blk.setJ {w : World} {g : Nat} {t : TypeId} {cs : Array Value} (h : Blk w g t cs) (j : Nat) (u : Value) : Blk (w.setCell ⟨g, j, none⟩ u) g t (cs.setIfInBounds j u) := by
  unfold Blk at h ⊢
  simp [World.setCell, Array.getElem?_modify, h]
theorem Blk.set53 {w : World} {g : Nat} {t : TypeId} {a0 a1 a2 a3 a4 : Value} (h : Blk w g t #[a0, a1, a2, a3, a4]) (u : Value) : Blk (w.setCell ⟨g, 3, none⟩ u) g t #[a0, a1, a2, u, a4] := h.setJ 3 u
theorem Blk.set54 {w : World} {g : Nat} {t : TypeId} {a0 a1 a2 a3 a4 : Value} (h : Blk w g t #[a0, a1, a2, a3, a4]) (u : Value) : Blk (w.setCell ⟨g, 4, none⟩ u) g t #[a0, a1, a2, a3, u] := h.setJ 4 u
theorem Blk.ne {w : World} {g k : Nat} {t t' : TypeId} {cs cs' : Array Value} (h : Blk w g t cs) (h' : Blk w k t' cs') (ht : t ≠ t') : g ≠ k := by
  rintro rfl
  have := h.symm.trans h'
  injection this with this
  injection this with _ this
  exact ht this

structure IHd (z : Option (Nat × Array Value)) (lo g : Nat) (d car : Int) (vk : Value) (w : World) (s : HS) : Prop where
  ex : ∃ AE cE AC cC, Blk w g 65 #[.int .i64 d, .int .i64 car, vk, .slice AC s.cells.length cC, .slice AE s.evs.length cE] ∧ OwnEvent w lo w.heap.size AE cE s.evs ∧ OwnIIz z w lo w.heap.size AC s.cells.length cC s.cells
  hlo : lo ≤ g
section
variable {z : Option (Nat × Array Value)} {lo g : Nat} {d car : Int} {vk : Value} {w w' w1 : World} {s : HS}
theorem IHd.below (h : IHd z lo g d car vk w s) (hb : Below w.heap.size w w') : IHd z lo g d car vk w' s := by
  obtain ⟨⟨AE, cE, AC, cC, hk, ho, hc⟩, hlo⟩ := h
  exact ⟨⟨AE, cE, AC, cC, hk.below hb hk.lt, (OwnC.below ho hb (Nat.le_refl _)).mono (Nat.le_refl _) hb.size, (hc.below hb (Nat.le_refl _)).mono (Nat.le_refl _) hb.size⟩, hlo⟩
theorem IHd.drewN (h : IHd z lo g d car vk w s) (n : Nat) : IHd z lo g d car vk (w.drewN n) s := h.below (below_drewN (Below.refl _ _) n)
theorem IHd.lt (h : IHd z lo g d car vk w s) : lo ≤ w.heap.size := by
  obtain ⟨⟨AE, cE, AC, cC, hk, _⟩, hlo⟩ := h
  have := hk.lt
  omega
theorem IHd.read (h : IHd z lo g d car vk w s) : ∃ AC cC, w.cell? ⟨g, 0, none⟩ = some (.int .i64 d) ∧ w.cell? ⟨g, 1, none⟩ = some (.int .i64 car) ∧ w.cell? ⟨g, 2, none⟩ = some vk ∧ w.cell? ⟨g, 3, none⟩ = some (.slice AC s.cells.length cC) ∧ Ints2 w AC s.cells ∧ s.cells.length ≤ cC := by
  obtain ⟨⟨AE, cE, AC, cC, hk, _, hc⟩, _⟩ := h
  obtain ⟨h0, h1, h2, h3, _⟩ := hk.c5
  exact ⟨AC, cC, h0, h1, h2, h3, hc.ints2, hc.two.cap⟩
theorem IHd.apart {q : Nat} {cur : Array Value} (h : IHd (some (q, cur)) lo g d car vk w s) : Blk w q 2 cur := by
  obtain ⟨⟨AE, cE, AC, cC, hk, _, hc⟩, _⟩ := h
  obtain ⟨cs, _, _, h3⟩ := hc.ex
  exact (h3 q cur rfl).1
theorem IHd.seal_ (h : IHd none lo g d car vk w s) (hb : Below w.heap.size w w') {q : Nat} {cur : Array Value} (hq : w.heap.size ≤ q) (hk : Blk w' q 2 cur) : IHd (some (q, cur)) lo g d car vk w' s := by
  obtain ⟨⟨AE, cE, AC, cC, hkg, ho, hc⟩, hlo⟩ := h
  obtain ⟨cs, h1, h2, _⟩ := hc.ex
  refine ⟨⟨AE, cE, AC, cC, hkg.below hb hkg.lt, (OwnC.below ho hb (Nat.le_refl _)).mono (Nat.le_refl _) hb.size, ⟨cs, (h1.below hb (Nat.le_refl _)).mono (Nat.le_refl _) hb.size, (h2.keep fun k _ h2 _ => hb.block k (by omega)).mono (Nat.le_refl _) hb.size, ?_⟩⟩, hlo⟩
  intro q' cur' hz
  injection hz with hz
  injection hz with hz1 hz2
  subst hz1 hz2
  refine ⟨hk, fun v hv e => ?_⟩
  obtain ⟨i, hi, rfl⟩ := List.mem_iff_getElem.1 hv
  have hil : i < s.cells.length := by rw [← h2.1]; exact hi
  obtain ⟨A', c', e1, e2⟩ := h2.2.1 i _ (List.getElem?_eq_getElem hil)
  rw [List.getElem?_eq_getElem hi] at e1
  injection e1 with e1
  rw [e1] at e
  have := e2.own.lt q e
  omega
/-- The events grow: what holds behind the store of the box. -/
theorem IHd.grow {wp w8 : World} {evs evs' : List EventD} {cells : List (List Int)} {AE AC A9 : Option Addr} {cE cC c9 m : Nat}
    (hk : Blk wp g 65 #[.int .i64 d, .int .i64 car, vk, .slice AC cells.length cC, .slice AE evs.length cE]) (ho : OwnEvent wp lo m AE cE evs) (hc : OwnIIz z wp lo m AC cells.length cC cells) (hlo : lo ≤ g) (hm : m ≤ wp.heap.size)
    (ho8 : OwnEvent w8 lo w8.heap.size A9 c9 evs') (hg8 : wp.grownBy w8 (Value.slice AE evs.length cE).ownBlock) :
    Blk w8 g 65 #[.int .i64 d, .int .i64 car, vk, .slice AC cells.length cC, .slice AE evs.length cE] ∧ IHd z lo g d car vk (w8.setCell ⟨g, 4, none⟩ (.slice A9 evs'.length c9)) ⟨evs', cells⟩ ∧
      ∀ (k : Nat) (t : TypeId) (cur : Array Value), t ≠ 49 → t ≠ 65 → Blk wp k t cur → Blk w8 k t cur ∧ Blk (w8.setCell ⟨g, 4, none⟩ (.slice A9 evs'.length c9)) k t cur := by
  have hk8 := hk.grownT ho (by decide) hg8
  have hc8 : OwnIIz z w8 lo m AC cells.length cC cells := by
    obtain ⟨cs, h1, h2, h3⟩ := hc.ex
    exact ⟨cs, h1.grownT ho (by decide) hg8, h2.grownT ho (by decide) hg8, h3.step fun q cur hq => hq.grownT ho (by decide) hg8⟩
  refine ⟨hk8, ⟨⟨A9, c9, AC, cC, ?_, ?_, ?_⟩, hlo⟩, fun k t cur he1 he2 hb => ?_⟩
  · exact hk8.set54 _
  · exact (OwnC.farT ho8 hk8 (by decide) 4 _).mono (Nat.le_refl _) (by simp)
  · exact (OwnIIz.farT hc8 hk8 (by decide) (by decide) 4 _).mono (Nat.le_refl _) (by have := hg8.size; simp; omega)
  · have h1 := hb.grownT ho he1 hg8
    exact ⟨h1, h1.far (p := ⟨g, 4, none⟩) (h1.ne hk8 he2) _⟩
end

set_option maxHeartbeats 2000000 in
set_option maxRecDepth 10000 in
theorem impl_hadd {z : Option (Nat × Array Value)} {lo g : Nat} {d car : Int} {vk : Value} {s : HS} {w : World} (h : IHd z lo g d car vk w s) (kind place count bed : Int) (hl : s.evs.length ≤ 100000) :
    Calls Try.prog 70 #[.pointer (some ⟨g, 0, none⟩), .int .i64 kind, .int .i64 place, .int .i64 count, .int .i64 bed] w fun e w' =>
      e = .returned (.tuple #[]) ∧ IHd z lo g d car vk w' ⟨s.evs ++ [evYarn d car kind place count bed], s.cells⟩ ∧ Below lo w w' ∧ Hid ((∀ v, w.cell? ⟨g, 3, none⟩ = some v → w'.cell? ⟨g, 3, none⟩ = some v) ∧
        ∀ (k : Nat) (e : TypeId) (cur : Array Value), e ≠ 49 → e ≠ 65 → Blk w k e cur → Blk w' k e cur) := by
  obtain ⟨iE, hi0, hz0, hz1, hz2⟩ := info_parts info_Event
  have hlz0 := h.lt
  obtain ⟨⟨AE, cE, AC, cC, hk, ho, hc⟩, hlo⟩ := h
  obtain ⟨evs, cells⟩ := s
  obtain ⟨r0, r1, _, p3, p0⟩ := hk.c5
  dsimp only at *
  go_enter Try.func70, Try.ntmps70
  go_upto_region 0 with fail
  (refine wp_region_pops 3 (S := (fun W' => W'.cell? ⟨g, 4, none⟩ = some (.slice AE evs.length cE) ∧ W'.cell? ⟨g, 0, none⟩ = some (.int .i64 d) ∧ W'.cell? ⟨g, 1, none⟩ = some (.int .i64 car))) (pre := ?_) (T := ?_) (n := ?_) (by kernel_rfl) (by kernel_rfl) ?_ ?_ ?_ ?_ (fun hHeld => ?_); rotate_left 3; (focus (simp only [pops, List.pop_toArray, List.dropLast_cons_cons, List.dropLast_singleton]; rfl)); (focus (simp only [tailOf, List.pop_toArray, List.dropLast_cons_cons, List.dropLast_singleton, List.back?_toArray, List.getLast?_cons_cons, List.getLast?_singleton, Option.toList_some, List.nil_append, List.cons_append]; rfl)); (focus rfl); (focus (exact ⟨p0, r0, r1⟩)))
  ((refine wpAnyH_take (i := 0) (v := ?_) rfl (by kernel_rfl) (by kernel_rfl) (by kernel_rfl) (fun _ _ _ h => h) (Or.inl ⟨by rfl, ?_⟩) (by assumption) ?_; rotate_left; (focus (intro W hSw; (try dsimp only at hSw); go_simp; try (with_reducible rfl)))); (try simp only [List.getElem_toArray, List.getElem_cons_zero, Act.put, List.setIfInBounds_toArray, List.set_cons_zero, List.set_cons_succ]); (refine wpAnyH_take (i := 1) (v := ?_) rfl (by kernel_rfl) (by kernel_rfl) (by kernel_rfl) (fun _ _ _ h => h) (Or.inl ⟨by rfl, ?_⟩) (by assumption) ?_; rotate_left; (focus (intro W hSw; (try dsimp only at hSw); go_simp; try (with_reducible rfl)))); (try simp only [List.getElem_toArray, List.getElem_cons_zero, List.getElem_cons_succ, Act.put, List.setIfInBounds_toArray, List.set_cons_zero, List.set_cons_succ]); (refine wpAnyH_take (i := 2) (v := ?_) rfl (by kernel_rfl) (by kernel_rfl) (by kernel_rfl) (fun _ _ _ h => h) (Or.inl ⟨by rfl, ?_⟩) (by assumption) ?_; rotate_left; (focus (intro W hSw; (try dsimp only at hSw); go_simp; try (with_reducible rfl)))); (try simp only [List.getElem_toArray, List.getElem_cons_zero, List.getElem_cons_succ, Act.put, List.setIfInBounds_toArray, List.set_cons_zero, List.set_cons_succ]); (refine wpAnyH_take (i := 3) (v := ?_) rfl (by kernel_rfl) (by kernel_rfl) (by kernel_rfl) (fun _ _ _ h => h) (Or.inl ⟨by rfl, ?_⟩) (by assumption) ?_; rotate_left; (focus (intro W hSw; (try dsimp only at hSw); go_simp; try (with_reducible rfl)))); (try simp only [List.getElem_toArray, List.getElem_cons_zero, List.getElem_cons_succ, Act.put, List.setIfInBounds_toArray, List.set_cons_zero, List.set_cons_succ]); (refine wpAnyH_take (i := 4) (v := ?_) rfl (by kernel_rfl) (by kernel_rfl) (by kernel_rfl) (fun _ _ _ h => h) (Or.inl ⟨by rfl, ?_⟩) (by assumption) ?_; rotate_left; (focus (intro W hSw; (try dsimp only at hSw); go_simp; try (with_reducible rfl)))); (try simp only [List.getElem_toArray, List.getElem_cons_zero, List.getElem_cons_succ, Act.put, List.setIfInBounds_toArray, List.set_cons_zero, List.set_cons_succ]); (refine wpAnyH_take (i := 5) (v := ?_) rfl (by kernel_rfl) (by kernel_rfl) (by kernel_rfl) (fun _ _ _ h => h) (Or.inl ⟨by rfl, ?_⟩) (by assumption) ?_; rotate_left; (focus (intro W hSw; (try dsimp only at hSw); go_simp; try (with_reducible rfl)))); (try simp only [List.getElem_toArray, List.getElem_cons_zero, List.getElem_cons_succ, Act.put, List.setIfInBounds_toArray, List.set_cons_zero, List.set_cons_succ]); (refine wpAnyH_take (i := 6) (v := ?_) rfl (by kernel_rfl) (by kernel_rfl) (by kernel_rfl) (fun _ _ _ h => h) (Or.inl ⟨by rfl, ?_⟩) (by assumption) ?_; rotate_left; (focus (intro W hSw; (try dsimp only at hSw); go_simp; try (with_reducible rfl)))); (try simp only [List.getElem_toArray, List.getElem_cons_zero, List.getElem_cons_succ, Act.put, List.setIfInBounds_toArray, List.set_cons_zero, List.set_cons_succ]); (refine wpAnyH_take (i := 7) (v := ?_) rfl (by kernel_rfl) (by kernel_rfl) (by kernel_rfl) (fun _ _ _ h => h) (Or.inl ⟨by rfl, ?_⟩) (by assumption) ?_; rotate_left; (focus (intro W hSw; (try dsimp only at hSw); go_simp; try (with_reducible rfl)))); (try simp only [List.getElem_toArray, List.getElem_cons_zero, List.getElem_cons_succ, Act.put, List.setIfInBounds_toArray, List.set_cons_zero, List.set_cons_succ]); (refine wpAnyH_take (i := 8) (v := ?_) rfl (by kernel_rfl) (by kernel_rfl) (by kernel_rfl) (fun _ _ _ h => h) (Or.inl ⟨by rfl, ?_⟩) (by assumption) ?_; rotate_left; (focus (intro W hSw; (try dsimp only at hSw); go_simp; try (with_reducible rfl)))); (try simp only [List.getElem_toArray, List.getElem_cons_zero, List.getElem_cons_succ, Act.put, List.setIfInBounds_toArray, List.set_cons_zero, List.set_cons_succ]); (refine wpAnyH_take (i := 9) (v := ?_) rfl (by kernel_rfl) (by kernel_rfl) (by kernel_rfl) (fun _ _ _ h => h) (Or.inl ⟨by rfl, ?_⟩) (by assumption) ?_; rotate_left; (focus (intro W hSw; (try dsimp only at hSw); go_simp; try (with_reducible rfl)))); (try simp only [List.getElem_toArray, List.getElem_cons_zero, List.getElem_cons_succ, Act.put, List.setIfInBounds_toArray, List.set_cons_zero, List.set_cons_succ]); (refine wpAnyH_take (i := 10) (v := ?_) rfl (by kernel_rfl) (by kernel_rfl) (by kernel_rfl) (fun _ _ _ h => h) (Or.inl ⟨by rfl, ?_⟩) (by assumption) ?_; rotate_left; (focus (intro W hSw; (try dsimp only at hSw); go_simp; try (with_reducible rfl)))); (try simp only [List.getElem_toArray, List.getElem_cons_zero, List.getElem_cons_succ, Act.put, List.setIfInBounds_toArray, List.set_cons_zero, List.set_cons_succ]); (refine wpAnyH_take (i := 11) (v := ?_) rfl (by kernel_rfl) (by kernel_rfl) (by kernel_rfl) (fun _ _ _ h => h) (Or.inl ⟨by rfl, ?_⟩) (by assumption) ?_; rotate_left; (focus (intro W hSw; (try dsimp only at hSw); go_simp; try (with_reducible rfl)))); (try simp only [List.getElem_toArray, List.getElem_cons_zero, List.getElem_cons_succ, Act.put, List.setIfInBounds_toArray, List.set_cons_zero, List.set_cons_succ]); (refine wpAnyH_take (i := 12) (v := ?_) rfl (by kernel_rfl) (by kernel_rfl) (by kernel_rfl) (fun _ _ _ h => h) (Or.inl ⟨by rfl, ?_⟩) (by assumption) ?_; rotate_left; (focus (intro W hSw; (try dsimp only at hSw); go_simp; try (with_reducible rfl)))); (try simp only [List.getElem_toArray, List.getElem_cons_zero, List.getElem_cons_succ, Act.put, List.setIfInBounds_toArray, List.set_cons_zero, List.set_cons_succ]); (refine wpAnyH_take (i := 13) (v := ?_) rfl (by kernel_rfl) (by kernel_rfl) (by kernel_rfl) (fun _ _ _ h => h) (Or.inl ⟨by rfl, ?_⟩) (by assumption) ?_; rotate_left; (focus (intro W hSw; (try dsimp only at hSw); go_simp; try (with_reducible rfl)))); (try simp only [List.getElem_toArray, List.getElem_cons_zero, List.getElem_cons_succ, Act.put, List.setIfInBounds_toArray, List.set_cons_zero, List.set_cons_succ]); (refine wpAnyH_take (i := 14) (v := ?_) rfl (by kernel_rfl) (by kernel_rfl) (by kernel_rfl) (fun _ _ _ h => h) (Or.inl ⟨by rfl, ?_⟩) (by assumption) ?_; rotate_left; (focus (intro W hSw; (try dsimp only at hSw); go_simp; try (with_reducible rfl)))); (try simp only [List.getElem_toArray, List.getElem_cons_zero, List.getElem_cons_succ, Act.put, List.setIfInBounds_toArray, List.set_cons_zero, List.set_cons_succ]); (refine wpAnyH_take (i := 15) (v := ?_) rfl (by kernel_rfl) (by kernel_rfl) (by kernel_rfl) (fun _ _ _ h => h) (Or.inl ⟨by rfl, ?_⟩) (by assumption) ?_; rotate_left; (focus (intro W hSw; (try dsimp only at hSw); go_simp; try (with_reducible rfl)))); (try simp only [List.getElem_toArray, List.getElem_cons_zero, List.getElem_cons_succ, Act.put, List.setIfInBounds_toArray, List.set_cons_zero, List.set_cons_succ]); (refine wpAnyH_take (i := 16) (v := ?_) rfl (by kernel_rfl) (by kernel_rfl) (by kernel_rfl) (fun _ _ _ h => h) (Or.inl ⟨by rfl, ?_⟩) (by assumption) ?_; rotate_left; (focus (intro W hSw; (try dsimp only at hSw); go_simp; try (with_reducible rfl)))); (try simp only [List.getElem_toArray, List.getElem_cons_zero, List.getElem_cons_succ, Act.put, List.setIfInBounds_toArray, List.set_cons_zero, List.set_cons_succ]); (refine wpAnyH_take (i := 17) (v := ?_) rfl (by kernel_rfl) (by kernel_rfl) (by kernel_rfl) (fun _ _ _ h => h) (Or.inl ⟨by rfl, ?_⟩) (by assumption) ?_; rotate_left; (focus (intro W hSw; (try dsimp only at hSw); go_simp; try (with_reducible rfl)))); (try simp only [List.getElem_toArray, List.getElem_cons_zero, List.getElem_cons_succ, Act.put, List.setIfInBounds_toArray, List.set_cons_zero, List.set_cons_succ]); (refine wpAnyH_take (i := 18) (v := ?_) rfl (by kernel_rfl) (by kernel_rfl) (by kernel_rfl) (fun _ _ _ h => h) (Or.inl ⟨by rfl, ?_⟩) (by assumption) ?_; rotate_left; (focus (intro W hSw; (try dsimp only at hSw); go_simp; try (with_reducible rfl)))); (try simp only [List.getElem_toArray, List.getElem_cons_zero, List.getElem_cons_succ, Act.put, List.setIfInBounds_toArray, List.set_cons_zero, List.set_cons_succ]); (refine wpAnyH_take (i := 19) (v := ?_) rfl (by kernel_rfl) (by kernel_rfl) (by kernel_rfl) (fun _ _ _ h => h) (Or.inl ⟨by rfl, ?_⟩) (by assumption) ?_; rotate_left; (focus (intro W hSw; (try dsimp only at hSw); go_simp; try (with_reducible rfl)))); (try simp only [List.getElem_toArray, List.getElem_cons_zero, List.getElem_cons_succ, Act.put, List.setIfInBounds_toArray, List.set_cons_zero, List.set_cons_succ]))
  (refine wpAnyH_ready (rs := [20]) (by kernel_rfl) (by simp) ?_; refine AllReadyH.cons rfl (fun K hK => ?_) AllReadyH.nil)
  go_simp
  have hka := hk.drew1.alloc (.cells #[.int .i64 kind, .int .i64 place, .int .i64 count, .int .i64 bed, .int .i64 car, .int .i64 d] 49)
  refine hK.out _ _ ⟨hka.c5.2.2.2.2, hka.c5.1, hka.c5.2.1⟩ (fun hHeld => ?_)
  clear hK K
  (try simp only [List.getElem_toArray, List.getElem_cons_zero, List.getElem_cons_succ, Act.put, List.setIfInBounds_toArray, List.set_cons_zero, List.set_cons_succ])
  have hlz : lo ≤ ((World.drew w).alloc (.cells #[.int .i64 kind, .int .i64 place, .int .i64 count, .int .i64 bed, .int .i64 car, .int .i64 d] 49)).heap.size := by have e : (World.drew w).heap.size = w.heap.size := rfl; rw [World.size_alloc, e]; omega
  have olit := OwnC.news (OwnC.lit (w := World.drew w) (lo := lo) (n := 1) 49 6 #[.int .i64 kind, .int .i64 place, .int .i64 count, .int .i64 bed, .int .i64 car, .int .i64 d] (by have e : (World.drew w).heap.size = w.heap.size := rfl; omega) (by decide) rfl)
  (refine wpAnyH_ready (rs := [21]) (by kernel_rfl) (by simp) ?_; refine AllReadyH.cons rfl (fun K hK => ?_) AllReadyH.nil)
  refine wp_appendC_at ((World.drew w).alloc (.cells #[.int .i64 kind, .int .i64 place, .int .i64 count, .int .i64 bed, .int .i64 car, .int .i64 d] 49)) (.tmp 14) (.tmp 30) _ rfl 49 iE _ 6 48 Try.underlying26 hi0 hz0 hz1 hz2 rfl (by decide) (by simp [Act.eval]) ((OwnC.drew1 ho).alloc _) hlz (some ⟨w.heap.size, 0, none⟩) 1 1 [.int .i64 kind, .int .i64 place, .int .i64 count, .int .i64 bed, .int .i64 car, .int .i64 d] (by simp [Act.eval]) (by simp) olit (by simp [Value.oneCell']) (by unfold maxLen; omega) (by omega) ?_
  intro A9 c9 w8 ho8 hg8 hb8 _
  have hca : OwnIIz z ((World.drew w).alloc (.cells #[.int .i64 kind, .int .i64 place, .int .i64 count, .int .i64 bed, .int .i64 car, .int .i64 d] 49)) lo w.heap.size AC cells.length cC cells := hc.below (Below.alloc (Below.drew (Below.refl _ _)) (Nat.le_refl _) _) (Nat.le_refl _)
  have hcat : (evs ++ [evYarn d car kind place count bed]).length = evs.length + 1 := by simp
  have ho8' : OwnEvent w8 lo w8.heap.size A9 c9 (evs ++ [evYarn d car kind place count bed]) := by
    show OwnC _ _ _ _ _ _ _ _ _
    rw [hcat, cellsEvent_snoc]
    exact ho8
  obtain ⟨hk8, hI8, hX8⟩ := IHd.grow hka ((OwnC.drew1 ho).alloc _) hca hlo (by have e : (World.drew w).heap.size = w.heap.size := rfl; rw [World.size_alloc, e]; omega) ho8' hg8
  rw [hcat] at hI8 hX8
  have HB0 := Lib.hid (((Below.alloc (Below.drew (Below.refl _ _)) hlz0 _).trans hb8).setCell (p := ⟨g, 4, none⟩) hlo (.slice A9 (evs.length + 1) c9))
  refine hK.out _ _ ⟨hk8.c5.2.2.2.2, hk8.c5.1, hk8.c5.2.1⟩ (fun hHeld => ?_)
  clear hK K
  (try simp only [List.getElem_toArray, List.getElem_cons_zero, List.getElem_cons_succ, Act.put, List.setIfInBounds_toArray, List.set_cons_zero, List.set_cons_succ])
  (refine wpAnyH_done (by kernel_rfl) ?_ _; change wpList _ _ _ _ _ _)
  clear hHeld
  have HXX : Hid ((∀ v, w.cell? ⟨g, 3, none⟩ = some v → (w8.setCell ⟨g, 4, none⟩ (.slice A9 (evs.length + 1) c9)).cell? ⟨g, 3, none⟩ = some v) ∧
      ∀ (k : Nat) (e : TypeId) (cur : Array Value), e ≠ 49 → e ≠ 65 → Blk w k e cur → Blk (w8.setCell ⟨g, 4, none⟩ (.slice A9 (evs.length + 1) c9)) k e cur) := Lib.hid ⟨fun v hv => by
        rw [p3] at hv
        rw [← hv]
        exact (hk8.set54 _).c5.2.2.2.1, fun k e cur he1 he2 hb => (hX8 k e cur he1 he2 (hb.drew1.alloc _)).2⟩
  have HI8 := Lib.hid hI8; clear hI8 hX8
  obtain ⟨v0, v1, v2, v3, v4⟩ := hk8.c5
  have e2 := hk8.frozen 4
  clear ho8 ho8' hg8 hb8 hca hcat hka hk8
  go_wp2_with (fail)
  go_end0
  exact ⟨rfl, HI8.out, HB0.out, Lib.hid ⟨HXX.out.1 _ p3, HXX.out.2⟩⟩

end Go.Proofs.Ythjamohaeahipaa
