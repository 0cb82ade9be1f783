/- Steps of the proof, joined from several texts: XN XD XE. -/
import Derived.Test.YtfgbhhkmdeljoaaZ11
import Derived.Lib.AppendZerosOnto
import Derived.Lib.AppendZeros

/- Charts: MirrorChart, the given side. -/
namespace Go.Proofs.Ytfgbhhkmdeljoaa
open Go.RowKit

set_option maxHeartbeats 4000000 in
set_option maxRecDepth 10000 in
theorem spec_MirrorChart (n : Int) (rs : List RowD) (A : Option Addr) (c : Nat) (w : World) (h : RowsR w A rs) (hl : rs.length ≤ 9223372036854775807) :
    Calls Try.prog 30 #[.agg #[.int .i64 n, .slice A rs.length c]] w fun e w' => ∃ A' c', e = .returned (.tuple #[.agg #[.int .i64 (mirX n rs).n, .slice A' (mirX n rs).xs.length c'], .int .i64 (validCode n rs)]) ∧ OwnRows w' w.heap.size w'.heap.size A' (mirX n rs).xs.length c' (mirX n rs).xs ∧ Below w.heap.size w w' := by
  have t1 : (29 : TypeId) ≠ 2 := by decide
  have t2 : (29 : TypeId) ≠ 60 := by decide
  have ht : (60 : TypeId) ≠ 2 := by decide
  have hb1 : Below w.heap.size w ((w.alloc (.cells #[.int .i64 n, .slice A rs.length c] 29)).alloc (.cells #[.int .i64 0, .slice none 0 0] 29)) := by (repeat (first | exact Below.refl _ _ | assumption | apply Below.drew | apply below_drewN | (refine Below.alloc ?_ (by first | omega | (simp; done) | (simp; omega)) _) | (refine Below.setCell ?_ (by first | omega | (simp; done) | (simp; omega)) _)))
  have ka := (Blk.new w 29 #[.int .i64 n, .slice A rs.length c]).alloc (.cells #[.int .i64 0, .slice none 0 0] 29)
  have kz : Blk ((w.alloc (.cells #[.int .i64 n, .slice A rs.length c] 29)).alloc (.cells #[.int .i64 0, .slice none 0 0] 29)) (w.heap.size + 1) 29 #[.int .i64 0, .slice none 0 0] := by simpa using Blk.new (w.alloc (.cells #[.int .i64 n, .slice A rs.length c] 29)) 29 #[.int .i64 0, .slice none 0 0]
  cases hv : chartB n rs
  · have HF := Lib.hid (mirX_bad hv)
    go_enter Try.func30, Try.ntmps30
    go_wp2_with (fail)
    refine (spec_l15Ok _ _ n rs A c _ (h.below hb1) hl ka.c2.1 ka.c2.2).mono ?_; rintro e w2 ⟨rfl, b2⟩
    have hb2 : Below w.heap.size w w2 := hb1.trans (b2.mono (by simp only [World.size_alloc]; omega))
    have kz2 := kz.below b2 (by simp)
    obtain ⟨r0, r1⟩ := kz2.c2
    have g0 := kz2.frozen 0
    have g1 := kz2.frozen 1
    rw [hv]
    go_wp2_with (fail)
    refine bodyPost_ret (v := .tuple #[.agg #[.int .i64 (mirX n rs).n, .slice none (mirX n rs).xs.length 0], .int .i64 (validCode n rs)]) (by rw [HF.out.1, HF.out.2]; simp [results, Try.results30, go_sem, r0, r1]) rfl ⟨none, 0, rfl, ?_, ?_⟩
    · rw [HF.out.1]; exact OwnRows.nil _ _ _
    · (repeat (first | exact Below.refl _ _ | assumption | apply Below.drew | apply below_drewN | (refine Below.alloc ?_ (by first | omega | (simp; done) | (simp; omega)) _) | (refine Below.setCell ?_ (by first | omega | (simp; done) | (simp; omega)) _)))
  · have HF := Lib.hid (mirX_good hv)
    have h8 := (chart_size hv).1
    have HV := Lib.hid (chartB_of hv).2.2
    obtain ⟨i0, hi0, hy0, hy1, hy2⟩ := info_parts info_Row
    obtain ⟨i1, hi1, hz0, hz1, hz2⟩ := info_parts info_int64
    go_enter Try.func30, Try.ntmps30
    go_wp2_with (fail)
    refine (spec_l15Ok _ _ n rs A c _ (h.below hb1) hl ka.c2.1 ka.c2.2).mono ?_; rintro e w2 ⟨rfl, b2⟩
    have hb2 : Below w.heap.size w w2 := hb1.trans (b2.mono (by simp only [World.size_alloc]; omega))
    have ka2 := ka.below b2 (by simp; omega)
    have kz2 := kz.below b2 (by simp)
    have HR := Lib.hid (h.below hb2)
    have z2 : w.heap.size + 1 < w2.heap.size := kz2.lt
    rw [hv]
    clear ka kz hb1 b2 hv
    obtain ⟨q0, q1⟩ := ka2.c2
    obtain ⟨q2, q3⟩ := (ka2.alloc (.cells #[.int .i64 n, .slice none 0 0] 29)).c2
    go_wp2_with (fail)
    go_loopw [5] (fun iv wr => ∃ k : Nat, k ≤ rs.length ∧ iv = .int .i64 k ∧ ChartInv n w2.heap.size w2 wr k ((rs.take k).map mirRow)) (fun iv _ => rs.length - (intOf iv).toNat)
    case atStart => exact ⟨0, Nat.zero_le _, rfl, ChartInv.start _ _⟩
    case round =>
      clear q0 q1 q2 q3
      obtain ⟨k, hk, rfl, hinv⟩ := hrel
      obtain ⟨hdl, hb, hlt, A', c', cs, kb, ho, hcr⟩ := hinv
      have kar := ka2.below hb (by omega)
      have kzr := kz2.below hb (by omega)
      obtain ⟨q0, q1⟩ := kar.c2
      obtain ⟨s0, s1⟩ := kb.c2
      by_cases hkl : k < rs.length
      · obtain ⟨b, off, A7, c7, q, rfl, hx, f0, f1, f2, hi, hil⟩ := (HR.out.below hb) k hkl
        obtain ⟨hqd, _, _, hq16⟩ := rowB_of (HV.out q (List.mem_of_getElem? hx))
        have hqd1 : -1 ≤ q.d ∧ q.d ≤ 1 := by omega
        obtain ⟨hqd1, hqd2⟩ := hqd1
        have HX : Hid ((rs.take (k + 1)).map mirRow = (rs.take k).map mirRow ++ [⟨-q.d, q.r, q.s.reverse.map mirK⟩]) := Lib.hid (by rw [take_snoc hx]; simp [mirRow])
        clear hx hqd
        have j1 : (0 : Int) ≤ (k : Int) := by omega
        have j2 : (k : Int) < (rs.length : Int) := by omega
        obtain ⟨W1, rfl⟩ : ∃ W1, W1 = wr := ⟨wr, rfl⟩
        have kr := (Blk.new W1 60 #[.int .i64 q.d, .int .i64 q.r, .slice A7 q.s.length c7]).alloc (.cells #[] 2)
        obtain ⟨v0, v1, v2⟩ := kr.c3
        go_wp2_with (fail)
        go_loopw [7, 8] (fun lv jv ws => ∃ (j : Nat) (A3 : Option Addr) (c3 : Nat) (out : List Int), j ≤ q.s.length ∧ jv = .int .i64 ((q.s.length : Int) - 1 - j) ∧ lv = .slice A3 out.length c3 ∧ OwnI ws W1.heap.size ws.heap.size A3 c3 out ∧ Below W1.heap.size W1 ws ∧ Blk ws W1.heap.size 60 #[.int .i64 q.d, .int .i64 q.r, .slice A7 q.s.length c7] ∧ Hid (out = (q.s.reverse.map mirK).take j) ∧ out.length ≤ j) (fun _ jv _ => (intOf jv + 1).toNat)
        case atStart =>
          have o1 : OwnC ((W1.alloc (.cells #[.int .i64 q.d, .int .i64 q.r, .slice A7 q.s.length c7] 60)).alloc (.cells #[] 2)) W1.heap.size (W1.heap.size + 2) 2 1 (some ⟨W1.heap.size + 1, 0, none⟩) 0 0 [] := by
            have := OwnC.lit (w := W1.alloc (.cells #[.int .i64 q.d, .int .i64 q.r, .slice A7 q.s.length c7] 60)) (lo := W1.heap.size) (n := 0) 2 1 #[] (by simp) (Nat.zero_le _) rfl
            simpa using this
          exact ⟨0, some ⟨W1.heap.size + 1, 0, none⟩, 0, [], Nat.zero_le _, by simp, rfl, o1.mono (Nat.le_refl _) (by simp), by (repeat (first | exact Below.refl _ _ | assumption | apply Below.drew | apply below_drewN | (refine Below.alloc ?_ (by first | omega | (simp; done) | (simp; omega)) _) | (refine Below.setCell ?_ (by first | omega | (simp; done) | (simp; omega)) _))), kr, Lib.hid rfl, by simp⟩
        case round =>
          clear v0 v1 v2 kr
          obtain ⟨j, A3, c3, out, hj, rfl, rfl, ho3, hb3, kr, HO, hol⟩ := hrel
          have hz3 := hb3.size
          have hzr := kr.lt
          obtain ⟨v0, v1, v2⟩ := kr.c3
          by_cases hjl : j < q.s.length
          · obtain ⟨m, hm⟩ : ∃ m, q.s.length = m + 1 + j := ⟨q.s.length - 1 - j, by omega⟩
            obtain ⟨b1, off1, x, rfl, hcx, hx⟩ := hi m (by omega)
            replace hcx := cells_below hb3 _ _ hcx
            have HRv : Hid ((q.s.reverse.map mirK).take (j + 1) = (q.s.reverse.map mirK).take j ++ [mirK x]) := Lib.hid (take_snoc (by rw [List.getElem?_map, List.getElem?_reverse hjl, show q.s.length - 1 - j = m by omega, hx]; rfl))
            clear hx
            rw [show (q.s.length : Int) - 1 - j = m by omega]
            have m1 : (0 : Int) ≤ (m : Int) := by omega
            have m2 : (m : Int) < (q.s.length : Int) := by omega
            have HM := Lib.hid hm; clear hm
            have HMS : Hid (∀ W, Calls Try.prog 63 #[.int .i64 x] W fun e w' => e = .returned (.int .i64 (mirK x)) ∧ Below W.heap.size W w') := Lib.hid (fun W => spec_MirrorStitch x W)
            generalize mirK x = y at HRv HMS
            go_wp2_with (fail)
            refine (HMS.out _).mono ?_; rintro e w4 ⟨rfl, b4⟩
            have z4 := b4.size
            have ho4 := ho3.below b4 (Nat.le_refl _)
            have kr4 := kr.below b4 hzr
            have hb4 : Below W1.heap.size W1 w4 := hb3.trans (b4.mono hz3)
            go_wp2_with (at_builtin; refine wpList_append1 w4 [.int .i64 y] _ rfl (.tmp 36) (.tmp 43) _ rfl 2 i1 _ 1 8 Try.underlying33 hi1 hz0 hz1 hz2 rfl (by decide) rfl ho4 (by omega) 1 rfl rfl (by simp [Value.oneCell']) (by omega) (by decide) ?_; intro A4 c4 w5 ho5 hg5 hb5 hz5)
            have kr5 := (kr4.alloc (.cells #[.int .i64 y] 2)).grownT (ho4.alloc (.cells #[.int .i64 y] 2)) ht hg5
            go_roundw
            case rel =>
              refine ⟨j + 1, A4, c4, out ++ [y], by omega, int_eq (by have := HM.out; push_cast; omega), by simp, ?_, hb4.trans hb5, kr5, Lib.hid (by rw [HRv.out, HO.out]), by simp; omega⟩
              show OwnC _ _ _ _ _ _ _ _ _
              rw [List.map_append, List.length_append]
              exact ho5
            case measure => first | (simp [intOf]; done) | (simp [intOf]; omega)
          · obtain rfl : j = q.s.length := by omega
            have he := HO.out
            rw [take_all (by simp)] at he
            have HE := Lib.hid he; clear he
            rw [show (q.s.length : Int) - 1 - q.s.length = -1 by omega]
            have kb3 := kb.below hb3 hlt
            obtain ⟨s0', s1'⟩ := kb3.c2
            have hoo := ho.below hb3 (Nat.le_refl _)
            have HK5 : Hid (∀ (A5 : Option Addr) (c5 : Nat) (w5 : World), (wr.alloc (.cells #[.int .i64 (-q.d), .int .i64 q.r, .slice A3 out.length c3] 60)).grownBy w5 (Value.slice A' k c').ownBlock → Blk w5 w2.heap.size 29 #[.int .i64 n, .slice A' k c']) := Lib.hid (fun A5 c5 w5 hg5 => (kb3.alloc (.cells #[.int .i64 (-q.d), .int .i64 q.r, .slice A3 out.length c3] 60)).grownT (hoo.alloc (.cells #[.int .i64 (-q.d), .int .i64 q.r, .slice A3 out.length c3] 60)) t2 hg5)
            go_wp2_with (at_builtin; refine wpList_append1 wr [.int .i64 (-q.d), .int .i64 q.r, .slice A3 out.length c3] _ rfl (.tmp 46) (.tmp 54) _ rfl 60 i0 _ 3 40 Try.underlying27 hi0 hy0 hy1 hy2 rfl (by decide) rfl hoo (by omega) 1 rfl rfl (by simp [Value.oneCell']) (by omega) (by decide) ?_; intro A5 c5 w5 ho5 hg5 hb5 hz5; have kb5 := HK5.out A5 c5 w5 hg5; obtain ⟨u0, u1⟩ := kb5.c2; have u2 := kb5.frozen 1)
            have hinv' := ChartInv.step ⟨-q.d, q.r, out⟩ hdl hb hlt kb ho hcr hb3 ho3 ho5 hg5 hb5 hz5
            refine ⟨⟨k + 1, by omega, by go_num, by rw [HX.out, ← HE.out]; exact hinv'⟩, by simp [intOf]; omega⟩
      · obtain rfl : k = rs.length := by omega
        rw [take_all (Nat.le_refl _)] at hcr hdl
        obtain ⟨A8, c8, kc, oo⟩ := ChartInv.rows ⟨hdl, hb, hlt, A', c', cs, kb, ho, hcr⟩
        obtain ⟨p0, p1⟩ := kc.c2
        obtain ⟨r0, r1⟩ := kzr.c2
        have g0 := kzr.frozen 0
        have g1 := kzr.frozen 1
        have hbw : Below w.heap.size w wr := hb2.trans (hb.mono (by omega))
        clear s0 s1
        go_wp2_with (fail)
        refine bodyPost_ret (v := .tuple #[.agg #[.int .i64 (mirX n rs).n, .slice A8 (mirX n rs).xs.length c8], .int .i64 (validCode n rs)]) (by rw [HF.out.1, HF.out.2]; simp [results, Try.results30, go_sem, r0, r1]) rfl ⟨A8, c8, rfl, ?_, ?_⟩
        · rw [HF.out.1]
          have k1 := kzr.set20 (.int .i64 n)
          show OwnRows _ _ _ _ (rs.map mirRow).length _ (rs.map mirRow)
          rw [hdl]
          exact ((oo.farT kzr t1 t2 0 _).farT k1 t1 t2 1 _).mono (by omega) (by simp)
        · (repeat (first | exact Below.refl _ _ | assumption | apply Below.drew | apply below_drewN | (refine Below.alloc ?_ (by first | omega | (simp; done) | (simp; omega)) _) | (refine Below.setCell ?_ (by first | omega | (simp; done) | (simp; omega)) _)))

end Go.Proofs.Ytfgbhhkmdeljoaa

/- Charts: slices.Grow, slices.Concat, copies of rows. -/
namespace Go.Proofs.Ytfgbhhkmdeljoaa
open Go.RowKit

/-- The cells at an address, wherever they lie. -/
def CellsAt (w : World) (A : Option Addr) (cs : List Value) : Prop := ∀ (j : Nat) (u : Value), cs[j]? = some u → ∃ b off, A = some ⟨b, off, none⟩ ∧ w.cell? ⟨b, off + j, none⟩ = some u
theorem CellsAt.of_cells {w w' : World} {A : Option Addr} {cs : List Value} (h : CellsAt w A cs) (hk : ∀ a v, w.cell? a = some v → w'.cell? a = some v) : CellsAt w' A cs :=
  fun j u hu => by obtain ⟨b, off, hA, hc⟩ := h j u hu; exact ⟨b, off, hA, hk _ _ hc⟩
theorem CellsAt.below {w w' : World} {A : Option Addr} {cs : List Value} (h : CellsAt w A cs) (hb : Below w.heap.size w w') : CellsAt w' A cs := h.of_cells (cells_below hb)
theorem OwnC.cellsAt {w : World} {lo hi : Nat} {e : TypeId} {sz : Nat} {A : Option Addr} {n c : Nat} {cs : List Value} (h : OwnC w lo hi e sz A n c cs) : CellsAt w A cs := by
  intro j u hu
  have hj := (List.getElem?_eq_some_iff.1 hu).1
  obtain ⟨g, hA, _, _, hc, _⟩ := h.cell hj
  refine ⟨g, 0, hA, ?_⟩
  rw [Nat.zero_add, hc, ← hu, List.getElem?_eq_getElem hj]
structure PartD where
  n : Nat
  cs : List Value
def partsN : List PartD → Nat
  | [] => 0
  | p :: r => p.n + partsN r
def partsC : List PartD → List Value
  | [] => []
  | p :: r => p.cs ++ partsC r
theorem partsN_append (a b : List PartD) : partsN (a ++ b) = partsN a + partsN b := by
  induction a with
  | nil => simp [partsN]
  | cons x r ih => simp [partsN, ih]; omega
theorem partsC_append (a b : List PartD) : partsC (a ++ b) = partsC a ++ partsC b := by
  induction a with
  | nil => simp [partsC]
  | cons x r ih => simp [partsC, ih]
theorem partsN_snoc {ps : List PartD} {k : Nat} {p : PartD} (h : ps[k]? = some p) : partsN (ps.take (k + 1)) = partsN (ps.take k) + p.n := by
  rw [take_snoc h, partsN_append]; simp [partsN]
theorem partsC_snoc {ps : List PartD} {k : Nat} {p : PartD} (h : ps[k]? = some p) : partsC (ps.take (k + 1)) = partsC (ps.take k) ++ p.cs := by
  rw [take_snoc h, partsC_append]; simp [partsC]
theorem partsN_take_le (ps : List PartD) (k : Nat) : partsN (ps.take k) ≤ partsN ps := by
  have := partsN_append (ps.take k) (ps.drop k)
  rw [List.take_append_drop] at this
  omega
theorem partsN_at {ps : List PartD} {k : Nat} {p : PartD} (h : ps[k]? = some p) : partsN (ps.take k) + p.n ≤ partsN ps := by
  rw [← partsN_snoc h]; exact partsN_take_le _ _
/-- A slice of slices, whose cells are known. -/
def SlicesAt (w : World) (A : Option Addr) (sz : Nat) (ps : List PartD) : Prop :=
  ∀ k, k < ps.length → ∃ b off A' c' p, A = some ⟨b, off, none⟩ ∧ ps[k]? = some p ∧ p.cs.length = p.n * sz ∧ (∀ u ∈ p.cs, u.oneCell' = true) ∧ w.cell? ⟨b, off + k, none⟩ = some (.slice A' p.n c') ∧ CellsAt w A' p.cs
theorem SlicesAt.of_cells {w w' : World} {A : Option Addr} {sz : Nat} {ps : List PartD} (h : SlicesAt w A sz ps) (hk : ∀ a v, w.cell? a = some v → w'.cell? a = some v) : SlicesAt w' A sz ps :=
  fun k hk' => by
    obtain ⟨b, off, A', c', p, hA, hx, hn, h1, hc, hi⟩ := h k hk'
    exact ⟨b, off, A', c', p, hA, hx, hn, h1, hk _ _ hc, hi.of_cells hk⟩
theorem SlicesAt.below {w w' : World} {A : Option Addr} {sz : Nat} {ps : List PartD} (h : SlicesAt w A sz ps) (hb : Below w.heap.size w w') : SlicesAt w' A sz ps := h.of_cells (cells_below hb)
def partOf (xs : List Int) : PartD := ⟨xs.length, xs.map (Value.int .i64)⟩
theorem partsN_of (xss : List (List Int)) : partsN (xss.map partOf) = cntII xss := by
  induction xss with
  | nil => rfl
  | cons x r ih => simp [partsN, cntII, partOf, ih]
theorem partsC_of (xss : List (List Int)) : partsC (xss.map partOf) = xss.flatten.map (Value.int .i64) := by
  induction xss with
  | nil => rfl
  | cons x r ih => simp [partsC, partOf, ih]
theorem length_flatten (xss : List (List Int)) : xss.flatten.length = cntII xss := by
  induction xss with
  | nil => rfl
  | cons x r ih => simp [cntII, ih]
theorem Ints2.slices {w : World} {A : Option Addr} {xss : List (List Int)} (h : Ints2 w A xss) : SlicesAt w A 1 (xss.map partOf) := by
  intro k hk
  obtain ⟨b, off, A', c', xs, hA, hx, hc, hi, _⟩ := h k (by simpa using hk)
  exact ⟨b, off, A', c', partOf xs, hA, by rw [List.getElem?_map, hx]; rfl, by simp [partOf], ints_one _, hc, hi.news⟩
theorem zeroCells_size (z : Array Value) (k : Nat) : (Builtin.zeroCells z k).size = k * z.size := by simp [Builtin.zeroCells]

set_option maxHeartbeats 2000000 in
set_option maxRecDepth 100000 in
theorem slices_Grow_int64_int64 (n : Nat) (w : World) (hn : n ≤ 1000000) :
    Calls Try.prog 106 #[.slice none 0 0, .int .i64 n] w fun e w' => ∃ A' c', e = .returned (.slice A' 0 c') ∧ OwnC w' w.heap.size w'.heap.size 2 1 A' 0 c' [] ∧ Below w.heap.size w w' := by
  obtain ⟨i0, hi0, hz0, hz1, hz2⟩ := info_parts info_int64
  by_cases h0 : n = 0
  · subst h0
    rw [show ((0 : Nat) : Int) = 0 from rfl]
    go_enter Try.func106, Try.ntmps106
    go_wp2_with (fail)
    go_ret
    exact ⟨none, 0, rfl, OwnC.nil _ _ _ _ _, Below.refl _ _⟩
  · have hpos : 0 < n := by omega
    have hold : (Builtin.firstCells i0.size 0 (.slice none 0 0)).run Try.prog w.drew = .ok ([] : List Value).toArray w.drew := run_firstCells_none w.drew i0.size 0 0 0
    have hrz : ∀ ty, (Builtin.append_ #[33, 3] ty #[.slice none 0 0, .int .i64 n]).run Try.prog w = .ok (.slice (some ⟨w.heap.size, 0, none⟩) (0 + n) (grownCap w (0 + n) 0 2)) (w.drew.alloc (.cells (([] : List Value).toArray ++ Builtin.zeroCells _ n ++ Builtin.zeroCells _ (grownCap w (0 + n) 0 2 - (0 + n))) 2)) := fun ty =>
      Lib.run_append_grow_zeros w 33 3 ty 2 i0 _ .i64 .i64 Try.underlying33 Try.underlying3 hi0 hz0 none 0 0 [] hold n hpos (by rw [hz1]; decide) (by omega) (by omega) (by rw [hz2]; omega) (growslice_fits (by omega) (by rw [hz2]; omega))
    have hGn : 0 + n ≤ grownCap w (0 + n) 0 2 := grownCap_ge w _ _ _
    have hGm : grownCap w (0 + n) 0 2 ≤ maxLen := grownCap_le_maxLen w (0 + n) 0 2 (by unfold maxLen; omega)
    simp only [Nat.zero_add] at hrz hGn hGm
    obtain ⟨G, hG⟩ : ∃ G, G = grownCap w n 0 2 := ⟨_, rfl⟩
    rw [← hG] at hrz hGn hGm
    have hG63 : G ≤ 9223372036854775807 := by unfold maxLen at hGm; omega
    clear hG hold
    have HRZ := Lib.hid hrz; clear hrz
    have HGM := Lib.hid hGm; clear hGm
    go_enter Try.func106, Try.ntmps106
    go_wp2_with (at_builtin; refine Lib.wpList_append_run _ rfl _ _ _ _ rfl _ _ rfl rfl _ _ (HRZ.out _) ?_)
    all_goals go_ret
    all_goals
      refine ⟨_, _, rfl, ⟨⟨rfl, .inr ⟨w.heap.size, G, _, rfl, Nat.le_refl _, heap_alloc_new w.drew _, Nat.zero_le _, HGM.out, ?_, by simp⟩⟩, fun a h => by injection h with h; subst h; simp⟩, ?_⟩
      · simp only [Array.size_append, zeroCells_size, List.size_toArray]
        rw [← Nat.add_mul, Nat.add_sub_cancel' hGn]
        rfl
      · exact ((Below.refl _ _).drew).alloc (Nat.le_refl _) _

set_option maxHeartbeats 2000000 in
set_option maxRecDepth 100000 in
theorem slices_Grow_impl_Row_impl_Row (n : Nat) (w : World) (hn : n ≤ 1000000) :
    Calls Try.prog 107 #[.slice none 0 0, .int .i64 n] w fun e w' => ∃ A' c', e = .returned (.slice A' 0 c') ∧ OwnC w' w.heap.size w'.heap.size 60 3 A' 0 c' [] ∧ Below w.heap.size w w' := by
  obtain ⟨i0, hi0, hz0, hz1, hz2⟩ := info_parts info_Row
  by_cases h0 : n = 0
  · subst h0
    rw [show ((0 : Nat) : Int) = 0 from rfl]
    go_enter Try.func107, Try.ntmps107
    go_wp2_with (fail)
    go_ret
    exact ⟨none, 0, rfl, OwnC.nil _ _ _ _ _, Below.refl _ _⟩
  · have hpos : 0 < n := by omega
    have hold : (Builtin.firstCells i0.size 0 (.slice none 0 0)).run Try.prog w.drew = .ok ([] : List Value).toArray w.drew := run_firstCells_none w.drew i0.size 0 0 0
    have hrz : ∀ ty, (Builtin.append_ #[27, 3] ty #[.slice none 0 0, .int .i64 n]).run Try.prog w = .ok (.slice (some ⟨w.heap.size, 0, none⟩) (0 + n) (grownCap w (0 + n) 0 60)) (w.drew.alloc (.cells (([] : List Value).toArray ++ Builtin.zeroCells _ n ++ Builtin.zeroCells _ (grownCap w (0 + n) 0 60 - (0 + n))) 60)) := fun ty =>
      Lib.run_append_grow_zeros w 27 3 ty 60 i0 _ .i64 .i64 Try.underlying27 Try.underlying3 hi0 hz0 none 0 0 [] hold n hpos (by rw [hz1]; decide) (by omega) (by omega) (by rw [hz2]; omega) (growslice_fits (by omega) (by rw [hz2]; omega))
    have hGn : 0 + n ≤ grownCap w (0 + n) 0 60 := grownCap_ge w _ _ _
    have hGm : grownCap w (0 + n) 0 60 ≤ maxLen := grownCap_le_maxLen w (0 + n) 0 60 (by unfold maxLen; omega)
    simp only [Nat.zero_add] at hrz hGn hGm
    obtain ⟨G, hG⟩ : ∃ G, G = grownCap w n 0 60 := ⟨_, rfl⟩
    rw [← hG] at hrz hGn hGm
    have hG63 : G ≤ 9223372036854775807 := by unfold maxLen at hGm; omega
    clear hG hold
    have HRZ := Lib.hid hrz; clear hrz
    have HGM := Lib.hid hGm; clear hGm
    go_enter Try.func107, Try.ntmps107
    go_wp2_with (at_builtin; refine Lib.wpList_append_run _ rfl _ _ _ _ rfl _ _ rfl rfl _ _ (HRZ.out _) ?_)
    all_goals go_ret
    all_goals
      refine ⟨_, _, rfl, ⟨⟨rfl, .inr ⟨w.heap.size, G, _, rfl, Nat.le_refl _, heap_alloc_new w.drew _, Nat.zero_le _, HGM.out, ?_, by simp⟩⟩, fun a h => by injection h with h; subst h; simp⟩, ?_⟩
      · simp only [Array.size_append, zeroCells_size, List.size_toArray]
        rw [← Nat.add_mul, Nat.add_sub_cancel' hGn]
        rfl
      · exact ((Below.refl _ _).drew).alloc (Nat.le_refl _) _

set_option maxHeartbeats 2000000 in
set_option maxRecDepth 100000 in
theorem slices_Concat_int64_int64 (ps : List PartD) (A : Option Addr) (c : Nat) (w : World) (h : SlicesAt w A 1 ps) (hl : ps.length ≤ 1000000) (hn : partsN ps ≤ 1000000) :
    Calls Try.prog 73 #[.slice A ps.length c] w fun e w' => ∃ A' c', e = .returned (.slice A' (partsN ps) c') ∧ OwnC w' w.heap.size w'.heap.size 2 1 A' (partsN ps) c' (partsC ps) ∧ Below w.heap.size w w' := by
  obtain ⟨i0, hi0, hz0, hz1, hz2⟩ := info_parts info_int64
  go_enter Try.func73, Try.ntmps73
  go_wp2_with (fail)
  go_loop [3, 11] (fun s i => ∃ k : Nat, k ≤ ps.length ∧ i = .int .i64 k ∧ s = .int .i64 (partsN (ps.take k))) (fun _ i => ps.length - (intOf i).toNat)
  case atStart => exact ⟨0, Nat.zero_le _, rfl, rfl⟩
  case round =>
    obtain ⟨k, hk, rfl, rfl⟩ := hrel
    by_cases hlt : k < ps.length
    · obtain ⟨b, off, A', c', p, rfl, hx, hpn, _, hc, hi⟩ := h k hlt
      have hle := partsN_at hx
      have HS : Hid (partsN (ps.take (k + 1)) = partsN (ps.take k) + p.n) := Lib.hid (partsN_snoc hx)
      clear hx
      go_wp2_with (fail)
      go_round
      case rel => exact ⟨k + 1, by omega, by go_num, by rw [HS.out]; go_num⟩
      case measure => simp [intOf]; omega
    · obtain rfl : k = ps.length := by omega
      rw [take_all (Nat.le_refl _)]
      go_wp2_with (fail)
      refine (slices_Grow_int64_int64 (partsN ps) _ hn).mono ?_; rintro e w2 ⟨A2, c2, rfl, o2, b2⟩
      go_wp2_with (fail)
      go_loopw [6, 27] (fun ov iv wr => ∃ (k : Nat) (A3 : Option Addr) (c3 : Nat), k ≤ ps.length ∧ iv = .int .i64 k ∧ ov = .slice A3 (partsN (ps.take k)) c3 ∧ OwnC wr w.heap.size wr.heap.size 2 1 A3 (partsN (ps.take k)) c3 (partsC (ps.take k)) ∧ Below w.heap.size w wr) (fun _ iv _ => ps.length - (intOf iv).toNat)
      case atStart => exact ⟨0, A2, c2, Nat.zero_le _, rfl, rfl, o2, b2⟩
      case round =>
        obtain ⟨k, A3, c3, hk, rfl, rfl, ho, hb⟩ := hrel
        have hzs := hb.size
        by_cases hlt : k < ps.length
        · obtain ⟨b, off, A4, c4, p, rfl, hx, hpn, h1, hc, hi⟩ := (h.below hb) k hlt
          have hle := partsN_at hx
          have HN : Hid (partsN (ps.take (k + 1)) = partsN (ps.take k) + p.n) := Lib.hid (partsN_snoc hx)
          have HC : Hid (partsC (ps.take (k + 1)) = partsC (ps.take k) ++ p.cs) := Lib.hid (partsC_snoc hx)
          have HI := Lib.hid hi
          have H1 := Lib.hid h1
          have HP := Lib.hid hpn
          clear hx hi h1 hpn
          generalize partsN (ps.take k) = m at ho hle HN ⊢
          generalize partsC (ps.take k) = L at ho HC
          go_wp2_with (at_builtin; refine wpList_appendC wr rfl (.tmp 31) (.tmp 32) _ rfl 2 i0 _ 1 8 Try.underlying33 hi0 hz0 hz1 hz2 rfl (by decide) rfl ho hzs A4 p.n c4 p.cs rfl HP.out HI.out H1.out (by unfold maxLen; omega) (by omega) ?_; intro A5 c5 w5 ho5 hg5 hb5)
          go_roundw
          case rel => exact ⟨k + 1, A5, c5, by omega, by go_num, by rw [HN.out], by rw [HN.out, HC.out]; exact ho5, hb.trans hb5⟩
          case measure => simp [intOf]; omega
        · obtain rfl : k = ps.length := by omega
          rw [take_all (Nat.le_refl _)] at ho ⊢
          go_wp2_with (fail)
          go_ret
          exact ⟨A3, c3, rfl, ho, hb⟩

set_option maxHeartbeats 2000000 in
set_option maxRecDepth 100000 in
theorem slices_Concat_impl_Row_impl_Row (ps : List PartD) (A : Option Addr) (c : Nat) (w : World) (h : SlicesAt w A 3 ps) (hl : ps.length ≤ 1000000) (hn : partsN ps ≤ 1000000) :
    Calls Try.prog 74 #[.slice A ps.length c] w fun e w' => ∃ A' c', e = .returned (.slice A' (partsN ps) c') ∧ OwnC w' w.heap.size w'.heap.size 60 3 A' (partsN ps) c' (partsC ps) ∧ Below w.heap.size w w' := by
  obtain ⟨i0, hi0, hz0, hz1, hz2⟩ := info_parts info_Row
  go_enter Try.func74, Try.ntmps74
  go_wp2_with (fail)
  go_loop [3, 11] (fun s i => ∃ k : Nat, k ≤ ps.length ∧ i = .int .i64 k ∧ s = .int .i64 (partsN (ps.take k))) (fun _ i => ps.length - (intOf i).toNat)
  case atStart => exact ⟨0, Nat.zero_le _, rfl, rfl⟩
  case round =>
    obtain ⟨k, hk, rfl, rfl⟩ := hrel
    by_cases hlt : k < ps.length
    · obtain ⟨b, off, A', c', p, rfl, hx, hpn, _, hc, hi⟩ := h k hlt
      have hle := partsN_at hx
      have HS : Hid (partsN (ps.take (k + 1)) = partsN (ps.take k) + p.n) := Lib.hid (partsN_snoc hx)
      clear hx
      go_wp2_with (fail)
      go_round
      case rel => exact ⟨k + 1, by omega, by go_num, by rw [HS.out]; go_num⟩
      case measure => simp [intOf]; omega
    · obtain rfl : k = ps.length := by omega
      rw [take_all (Nat.le_refl _)]
      go_wp2_with (fail)
      refine (slices_Grow_impl_Row_impl_Row (partsN ps) _ hn).mono ?_; rintro e w2 ⟨A2, c2, rfl, o2, b2⟩
      go_wp2_with (fail)
      go_loopw [6, 27] (fun ov iv wr => ∃ (k : Nat) (A3 : Option Addr) (c3 : Nat), k ≤ ps.length ∧ iv = .int .i64 k ∧ ov = .slice A3 (partsN (ps.take k)) c3 ∧ OwnC wr w.heap.size wr.heap.size 60 3 A3 (partsN (ps.take k)) c3 (partsC (ps.take k)) ∧ Below w.heap.size w wr) (fun _ iv _ => ps.length - (intOf iv).toNat)
      case atStart => exact ⟨0, A2, c2, Nat.zero_le _, rfl, rfl, o2, b2⟩
      case round =>
        obtain ⟨k, A3, c3, hk, rfl, rfl, ho, hb⟩ := hrel
        have hzs := hb.size
        by_cases hlt : k < ps.length
        · obtain ⟨b, off, A4, c4, p, rfl, hx, hpn, h1, hc, hi⟩ := (h.below hb) k hlt
          have hle := partsN_at hx
          have HN : Hid (partsN (ps.take (k + 1)) = partsN (ps.take k) + p.n) := Lib.hid (partsN_snoc hx)
          have HC : Hid (partsC (ps.take (k + 1)) = partsC (ps.take k) ++ p.cs) := Lib.hid (partsC_snoc hx)
          have HI := Lib.hid hi
          have H1 := Lib.hid h1
          have HP := Lib.hid hpn
          clear hx hi h1 hpn
          generalize partsN (ps.take k) = m at ho hle HN ⊢
          generalize partsC (ps.take k) = L at ho HC
          go_wp2_with (at_builtin; refine wpList_appendC wr rfl (.tmp 31) (.tmp 32) _ rfl 60 i0 _ 3 40 Try.underlying27 hi0 hz0 hz1 hz2 rfl (by decide) rfl ho hzs A4 p.n c4 p.cs rfl HP.out HI.out H1.out (by unfold maxLen; omega) (by omega) ?_; intro A5 c5 w5 ho5 hg5 hb5)
          go_roundw
          case rel => exact ⟨k + 1, A5, c5, by omega, by go_num, by rw [HN.out], by rw [HN.out, HC.out]; exact ho5, hb.trans hb5⟩
          case measure => simp [intOf]; omega
        · obtain rfl : k = ps.length := by omega
          rw [take_all (Nat.le_refl _)] at ho ⊢
          go_wp2_with (fail)
          go_ret
          exact ⟨A3, c3, rfl, ho, hb⟩

/-- The rows whose cells these are; their slices are read where they lie. -/
def SrcRows (w : World) (cs : List Value) (rs : List RowD) : Prop :=
  cs.length = rs.length * 3 ∧ (∀ u ∈ cs, u.oneCell' = true) ∧ ∀ (k : Nat) (r : RowD), rs[k]? = some r → ∃ A' c', cs[k * 3]? = some (.int .i64 r.d) ∧ cs[k * 3 + 1]? = some (.int .i64 r.r) ∧ cs[k * 3 + 2]? = some (.slice A' r.s.length c') ∧ Ints w A' r.s ∧ r.s.length ≤ 9223372036854775807
theorem RowsR.src {w : World} {A : Option Addr} {rs : List RowD} (h : RowsR w A rs) : ∃ cs, CellsAt w A cs ∧ SrcRows w cs rs := by
  cases rs with
  | nil => exact ⟨[], fun j u hu => by simp at hu, rfl, fun u hu => by simp at hu, fun k r hr => by simp at hr⟩
  | cons r0 rs =>
    obtain ⟨b, off, hA⟩ : ∃ b off, A = some ⟨b, off, none⟩ := by
      obtain ⟨b, off, _, _, _, hA, _⟩ := h 0 (by simp)
      exact ⟨b, off, hA⟩
    subst hA
    generalize hrs : r0 :: rs = qs at h
    clear hrs r0 rs
    have at3 : ∀ k (hk : k < qs.length), ∃ A' c', w.cell? ⟨b, off + k * 3, none⟩ = some (.int .i64 qs[k].d) ∧ w.cell? ⟨b, off + k * 3 + 1, none⟩ = some (.int .i64 qs[k].r) ∧ w.cell? ⟨b, off + k * 3 + 2, none⟩ = some (.slice A' qs[k].s.length c') ∧ Ints w A' qs[k].s ∧ qs[k].s.length ≤ 9223372036854775807 := by
      intro k hk
      obtain ⟨b', off', A', c', r, hA, hx, h0, h1, h2, hi, hl⟩ := h k hk
      injection hA with hA
      injection hA with hb ho
      subst hb ho
      rw [List.getElem?_eq_getElem hk] at hx
      injection hx with hx
      subst hx
      exact ⟨A', c', h0, h1, h2, hi, hl⟩
    have some_at : ∀ j, j < qs.length * 3 → ∃ v, w.cell? ⟨b, off + j, none⟩ = some v ∧ v.oneCell' = true := by
      intro j hj
      obtain ⟨A', c', h0, h1, h2, _⟩ := at3 (j / 3) (by omega)
      have e : j = j / 3 * 3 ∨ j = j / 3 * 3 + 1 ∨ j = j / 3 * 3 + 2 := by omega
      rcases e with e | e | e
      · exact ⟨_, by rw [e]; exact h0, rfl⟩
      · exact ⟨_, by rw [e]; exact h1, rfl⟩
      · exact ⟨_, by rw [e]; exact h2, rfl⟩
    have hat : ∀ j, j < qs.length * 3 → ((List.range (qs.length * 3)).map fun j => (w.cell? ⟨b, off + j, none⟩).getD (.int .i64 0))[j]? = w.cell? ⟨b, off + j, none⟩ := by
      intro j hj
      obtain ⟨v, hv, _⟩ := some_at j hj
      rw [List.getElem?_map, List.getElem?_range hj]
      simp [hv]
    refine ⟨(List.range (qs.length * 3)).map fun j => (w.cell? ⟨b, off + j, none⟩).getD (.int .i64 0), ?_, by simp, ?_, ?_⟩
    · intro j u hu
      have hj : j < qs.length * 3 := by simpa using (List.getElem?_eq_some_iff.1 hu).1
      exact ⟨b, off, rfl, by rw [← hat j hj]; exact hu⟩
    · intro u hu
      obtain ⟨j, hj⟩ := List.getElem?_of_mem hu
      have hjl : j < qs.length * 3 := by simpa using (List.getElem?_eq_some_iff.1 hj).1
      obtain ⟨v, hv, h1⟩ := some_at j hjl
      rw [hat j hjl, hv] at hj
      injection hj with hj
      subst hj
      exact h1
    · intro k r hr
      have hk : k < qs.length := (List.getElem?_eq_some_iff.1 hr).1
      obtain ⟨A', c', h0, h1, h2, h3, h4⟩ := at3 k hk
      rw [List.getElem?_eq_getElem hk] at hr
      injection hr with hr
      subst hr
      exact ⟨A', c', by rw [hat _ (by omega)]; exact h0, by rw [hat _ (by omega)]; exact h1, by rw [hat _ (by omega)]; exact h2, h3, h4⟩
theorem CellsRows.storeT {w : World} {lo hi : Nat} {cs : List Value} {rs : List RowD} {lo2 hi2 : Nat} {e2 : TypeId} {sz2 : Nat} {g n2 c2 : Nat} {cs2 : List Value}
    (h : CellsRows w lo hi cs rs) (h2 : OwnC w lo2 hi2 e2 sz2 (some ⟨g, 0, none⟩) n2 c2 cs2) (ht : (2 : TypeId) ≠ e2) (j : Nat) (u : Value) : CellsRows (w.setCell ⟨g, j, none⟩ u) lo hi cs rs :=
  h.keepT fun k cur _ _ hk => Below.heap_setCell w ⟨g, j, none⟩ u k (by
    rintro rfl
    rcases h2.form with ⟨hA, _⟩ | ⟨q, cur2, hA, _, _, hh, _⟩
    · cases hA
    · injection hA with hA
      injection hA with hA
      subst hA
      rw [hk] at hh
      injection hh with hh
      injection hh with _ hh
      exact ht hh)

set_option maxRecDepth 10000 in
theorem slices_Clone_rows (A : Option Addr) (n c : Nat) (cs : List Value) (w : World) (h : CellsAt w A cs) (hn : cs.length = n * 3) (h1 : ∀ u ∈ cs, u.oneCell' = true) (hl : n ≤ 1000000) :
    Calls Try.prog 104 #[.slice A n c] w fun e w' => ∃ A' c', e = .returned (.slice A' n c') ∧ OwnC w' w.heap.size w'.heap.size 60 3 A' n c' cs ∧ Below w.heap.size w w' := by
  obtain ⟨i0, hi0, hz0, hz1, hz2⟩ := info_parts info_Row
  have qn : ∀ (w : World) (a : Option Addr) (n c n' c' : Nat), (binOp .eql 27 (.slice a n c) (.slice none n' c')).run Try.prog w = .ok (.bool a.isNone) w := fun w a n c n' c' => Lib.run_eql_slice_nil w _ _ a n c n' c' Try.underlying27
  cases A with
  | none =>
    have hx : cs = [] := by
      cases cs with
      | nil => rfl
      | cons x r => obtain ⟨b, off, h1, _⟩ := h 0 x (by simp); cases h1
    subst hx
    obtain rfl : n = 0 := by simp at hn; omega
    go_enter Try.func104, Try.ntmps104
    go_wp2_with (fail)
    go_ret
    exact ⟨none, 0, rfl, OwnC.nil _ _ _ _ _, Below.refl _ _⟩
  | some a =>
    have o1 := OwnC.lit (w := w) (lo := w.heap.size) (n := 0) 60 3 #[] (Nat.le_refl _) (Nat.zero_le _) rfl
    have hb1 : Below w.heap.size w (w.alloc (.cells #[] 60)) := by (repeat (first | exact Below.refl _ _ | assumption | apply Below.drew | apply below_drewN | (refine Below.alloc ?_ (by first | omega | (simp; done) | (simp; omega)) _) | (refine Below.setCell ?_ (by first | omega | (simp; done) | (simp; omega)) _)))
    have O1 := Lib.hid o1; clear o1
    have HN := Lib.hid (h.below hb1)
    have HC := Lib.hid hn; clear hn
    have H1 := Lib.hid h1; clear h1
    go_enter Try.func104, Try.ntmps104
    go_wp2_with (at_builtin; refine wpList_appendC (w.alloc (.cells #[] 60)) rfl (.tmp 5) (.tmp 6) _ rfl 60 i0 _ 3 40 Try.underlying27 hi0 hz0 hz1 hz2 rfl (by decide) rfl O1.out (by simp) (some a) n c cs rfl HC.out HN.out H1.out (by unfold maxLen; omega) (by omega) ?_; intro A5 c5 w5 ho5 hg5 hb5)
    go_ret
    refine ⟨A5, c5, by simp, ?_, hb1.trans hb5⟩
    simpa using ho5

set_option maxHeartbeats 2000000 in
set_option maxRecDepth 10000 in
theorem impl_copyRows (rs : List RowD) (A : Option Addr) (c : Nat) (w : World) (h : RowsR w A rs) (hl : rs.length ≤ 1000000) (hs : ∀ r ∈ rs, r.s.length ≤ 1000000) :
    Calls Try.prog 71 #[.slice A rs.length c] w fun e w' => ∃ A' c', e = .returned (.slice A' rs.length c') ∧ OwnRows w' w.heap.size w'.heap.size A' rs.length c' rs ∧ Below w.heap.size w w' := by
  have ht : (2 : TypeId) ≠ 60 := by decide
  obtain ⟨ds, hda, hdl, hd1, hds⟩ := h.src
  have HS := Lib.hid hs; clear hs
  have HD := Lib.hid hds; clear hds
  have HL := Lib.hid hdl; clear hdl
  go_enter Try.func71, Try.ntmps71
  go_wp2_with (fail)
  refine (slices_Clone_rows A rs.length c ds _ hda HL.out hd1 hl).mono ?_; rintro e w2 ⟨A2, c2, rfl, o2, b2⟩
  clear hda hd1
  go_wp2_with (fail)
  go_loopw [9] (fun iv wr => ∃ (k : Nat) (cs : List Value), k ≤ rs.length ∧ iv = .int .i64 k ∧ OwnC wr w.heap.size wr.heap.size 60 3 A2 rs.length c2 cs ∧ CellsRows wr w.heap.size wr.heap.size (cs.take (k * 3)) (rs.take k) ∧ Hid (cs.drop (k * 3) = ds.drop (k * 3)) ∧ Below w.heap.size w wr) (fun iv _ => rs.length - (intOf iv).toNat)
  case atStart => exact ⟨0, ds, Nat.zero_le _, rfl, o2, by simpa using CellsRows.nil, Lib.hid rfl, b2⟩
  case round =>
    obtain ⟨k, cs, hk, rfl, ho, hcr, HR, hb⟩ := hrel
    have hzs := hb.size
    by_cases hlt : k < rs.length
    · have hx : rs[k]? = some rs[k] := List.getElem?_eq_getElem hlt
      obtain ⟨A4, c4, e0, e1, e2, hi, _⟩ := HD.out k _ hx
      have hle := HS.out _ (List.mem_of_getElem? hx)
      generalize rs[k] = q at hx e0 e1 e2 hi hle
      have hcl := ho.len
      have drop_at : ∀ j v, k * 3 ≤ j → ds[j]? = some v → cs[j]? = some v := by
        intro j v hj hv
        have h1 : (cs.drop (k * 3))[j - k * 3]? = (ds.drop (k * 3))[j - k * 3]? := by rw [HR.out]
        rw [List.getElem?_drop, List.getElem?_drop, Nat.add_sub_cancel' hj] at h1
        rw [h1, hv]
      have f0 := drop_at _ _ (Nat.le_refl _) e0
      have f1 := drop_at _ _ (by omega) e1
      have f2 := drop_at _ _ (by omega) e2
      obtain ⟨g, rfl, hg1, hg2, s2, z2⟩ := ho.cell (j := k * 3 + 2) (by omega)
      have f2' := f2
      rw [List.getElem?_eq_getElem (by omega)] at f2'
      injection f2' with f2'
      rw [f2'] at s2
      have F0 := Lib.hid f0
      have F1 := Lib.hid f1
      have HX := Lib.hid hx
      have HCL := Lib.hid hcl
      clear f0 f1 f2 f2' e0 e1 e2 hx hcl drop_at
      go_wp2_with (fail)
      refine (slices_Clone A4 c4 q.s _ (hi.below hb) (by omega)).mono ?_; rintro e w4 ⟨A5, c5, rfl, o5, b5⟩
      have z5 := b5.size
      have ho' := ho.below b5 (Nat.le_refl _)
      have hcr' : CellsRows w4 w.heap.size wr.heap.size (cs.take (k * 3)) (rs.take k) := hcr.keep fun x _ h2 _ => b5.block x h2
      obtain ⟨_, hA, _, _, s2', z2'⟩ := ho'.cell (j := k * 3 + 2) (by rw [HCL.out]; omega)
      injection hA with hA
      injection hA with hA
      subst hA
      have hb4 := hb.trans (b5.mono hzs)
      go_wp2_with (fail)
      go_roundw
      case rel =>
        have hst := ho'.store (j := k * 3 + 2) (Value.slice A5 q.s.length c5)
        have e : (cs.set (k * 3 + 2) (Value.slice A5 q.s.length c5)).take ((k + 1) * 3) = cs.take (k * 3) ++ [.int .i64 q.d, .int .i64 q.r, .slice A5 q.s.length c5] := by
          have hh := HCL.out
          have e0 := F0.out
          have e1 := F1.out
          rw [show (k + 1) * 3 = k * 3 + 2 + 1 by omega, take_set_succ _ _ _ (by omega), show k * 3 + 2 = k * 3 + 1 + 1 by omega, take_snoc e1, take_snoc e0]
          simp
        refine ⟨k + 1, cs.set (k * 3 + 2) (.slice A5 q.s.length c5), by omega, by go_num, hst.1.mono (Nat.le_refl _) (by simp; omega), ?_, Lib.hid ?_, by (repeat (first | exact Below.refl _ _ | assumption | apply Below.drew | apply below_drewN | (refine Below.alloc ?_ (by first | omega | (simp; done) | (simp; omega)) _) | (refine Below.setCell ?_ (by first | omega | (simp; done) | (simp; omega)) _)))⟩
        · rw [e, take_snoc HX.out]
          exact (((hcr'.storeT ho' ht _ _).snoc (m := wr.heap.size) (OwnC.keepT o5 fun x cur _ _ hx' => Below.heap_setCell w4 _ _ x (by
            rintro rfl
            rcases ho'.form with ⟨hA, _⟩ | ⟨q', cur2, hA, _, _, hh, _⟩
            · cases hA
            · injection hA with hA
              injection hA with hA
              subst hA
              rw [hx'] at hh
              injection hh with hh
              injection hh with _ hh
              exact ht hh)) hzs z5)).mono (Nat.le_refl _) (by simp)
        · rw [List.drop_set_of_lt (by omega)]
          have := HR.out
          rw [show (k + 1) * 3 = k * 3 + 3 by omega, ← List.drop_drop, ← List.drop_drop, this]
      case measure => simp [intOf]; omega
    · obtain rfl : k = rs.length := by omega
      have hcl := ho.len
      rw [take_all (Nat.le_refl _), take_all (by omega)] at hcr
      go_wp2_with (fail)
      go_ret
      exact ⟨A2, c2, rfl, ⟨cs, ho, hcr⟩, hb⟩

end Go.Proofs.Ytfgbhhkmdeljoaa

/- Charts: ifChart, the last columns, own copies. -/
namespace Go.Proofs.Ytfgbhhkmdeljoaa
open Go.RowKit

theorem chartStacks_last {n : Int} {rs : List RowD} (h : chartB n rs = true) : ∃ m xs, (chartStacks n rs).length = m + 1 ∧ (chartStacks n rs)[m]? = some xs ∧ lastOf n rs = (xs.length : Int) := by
  have h1 := (chartB_of h).2.1.1
  have h2 : (chartStacks n rs).length = rs.length := by rw [chartStacks, if_pos h, stacksFrom_length]
  obtain ⟨m, hm⟩ : ∃ m, (chartStacks n rs).length = m + 1 := ⟨rs.length - 1, by omega⟩
  obtain ⟨xs, hx⟩ : ∃ xs, (chartStacks n rs)[m]? = some xs := ⟨_, List.getElem?_eq_getElem (by omega)⟩
  refine ⟨m, xs, hm, hx, ?_⟩
  unfold lastOf
  rw [List.getLast?_eq_getElem?, hm, Nat.add_sub_cancel, hx]
  rfl

theorem spec_l15Last (g o : Nat) (n : Int) (rs : List RowD) (A : Option Addr) (c : Nat) (w : World) (h : RowsR w A rs) (hl : rs.length ≤ 9223372036854775807) (hv : chartB n rs = true)
    (c0 : w.cell? ⟨g, o, none⟩ = some (.int .i64 n)) (c1 : w.cell? ⟨g, o + 1, none⟩ = some (.slice A rs.length c)) :
    Calls Try.prog 67 #[.pointer (some ⟨g, o, none⟩)] w fun e w' => e = .returned (.int .i64 (lastOf n rs)) ∧ Below w.heap.size w w' := by
  have h8 := (chartStacks_size n rs).1
  obtain ⟨m, xs, hm, hx, hlast⟩ := chartStacks_last hv
  have HLA := Lib.hid hlast; clear hlast
  go_enter Try.func67, Try.ntmps67
  go_wp2_with (fail)
  refine (spec_l15Stacks g o n rs A c _ h hl c0 c1).mono ?_; rintro e w2 ⟨A', c', rfl, o2, b2⟩
  clear hv
  generalize chartStacks n rs = xss at o2 hm hx h8 ⊢
  obtain ⟨b, off, A4, c4, ys, rfl, hy, hc, hi, hyl⟩ := o2.ints2 m (by omega)
  obtain rfl : xs = ys := by rw [hx] at hy; injection hy
  rw [hm]
  have hm8 : m + 1 ≤ 8 := by omega
  clear hx hy o2 hm h8
  go_wp2_with (fail)
  go_ret
  exact ⟨ret_int HLA.out.symm, b2⟩

theorem impl_columnsAtEnd (n : Int) (rs : List RowD) (A : Option Addr) (c : Nat) (w : World) (h : RowsR w A rs) (hl : rs.length ≤ 9223372036854775807) (hv : chartB n rs = true) :
    Calls Try.prog 70 #[.agg #[.int .i64 n, .slice A rs.length c]] w fun e w' => e = .returned (.int .i64 (lastOf n rs)) ∧ Below w.heap.size w w' := by
  have h8 := (chartStacks_size n rs).1
  obtain ⟨m, xs, hm, hx, hlast⟩ := chartStacks_last hv
  have HLA := Lib.hid hlast; clear hlast
  have hb1 : Below w.heap.size w (w.alloc (.cells #[.int .i64 n, .slice A rs.length c] 29)) := by (repeat (first | exact Below.refl _ _ | assumption | apply Below.drew | apply below_drewN | (refine Below.alloc ?_ (by first | omega | (simp; done) | (simp; omega)) _) | (refine Below.setCell ?_ (by first | omega | (simp; done) | (simp; omega)) _)))
  go_enter Try.func70, Try.ntmps70
  go_wp2_with (fail)
  refine (impl_allStacks n rs A c _ (h.below hb1) hl).mono ?_; rintro e w2 ⟨A', c', rfl, o2, b2⟩
  have hb2 : Below w.heap.size w w2 := hb1.trans (b2.mono (by simp))
  clear hv
  generalize chartStacks n rs = xss at o2 hm hx h8 ⊢
  obtain ⟨b, off, A4, c4, ys, rfl, hy, hc, hi, hyl⟩ := o2.ints2 m (by omega)
  obtain rfl : xs = ys := by rw [hx] at hy; injection hy
  rw [hm]
  have hm8 : m + 1 ≤ 8 := by omega
  clear hx hy o2 hm h8
  go_wp2_with (fail)
  go_ret
  exact ⟨ret_int HLA.out.symm, hb2⟩

set_option maxHeartbeats 1000000 in
theorem impl_ifChart (n : Int) (rs : List RowD) (A : Option Addr) (c : Nat) (w : World) (h : RowsR w A rs) (hl : rs.length ≤ 9223372036854775807) :
    Calls Try.prog 72 #[.agg #[.int .i64 n, .slice A rs.length c]] w fun e w' => e = .returned (.tuple #[.agg #[.int .i64 (if chartB n rs then n else 0), .slice (if chartB n rs then A else none) (if chartB n rs then rs.length else 0) (if chartB n rs then c else 0)], .int .i64 (if chartB n rs then 0 else 5)]) ∧ Below w.heap.size w w' := by
  have hb1 : Below w.heap.size w ((w.alloc (.cells #[.int .i64 n, .slice A rs.length c] 29)).alloc (.cells #[.int .i64 0, .slice none 0 0] 29)) := by (repeat (first | exact Below.refl _ _ | assumption | apply Below.drew | apply below_drewN | (refine Below.alloc ?_ (by first | omega | (simp; done) | (simp; omega)) _) | (refine Below.setCell ?_ (by first | omega | (simp; done) | (simp; omega)) _)))
  have ka := (Blk.new w 29 #[.int .i64 n, .slice A rs.length c]).alloc (.cells #[.int .i64 0, .slice none 0 0] 29)
  have kz : Blk ((w.alloc (.cells #[.int .i64 n, .slice A rs.length c] 29)).alloc (.cells #[.int .i64 0, .slice none 0 0] 29)) (w.heap.size + 1) 29 #[.int .i64 0, .slice none 0 0] := by simpa using Blk.new (w.alloc (.cells #[.int .i64 n, .slice A rs.length c] 29)) 29 #[.int .i64 0, .slice none 0 0]
  cases hv : chartB n rs
  · go_enter Try.func72, Try.ntmps72
    go_wp2_with (fail)
    refine (impl_ValidChart n rs A c _ (h.below hb1) hl).mono ?_; rintro e w2 ⟨rfl, b2⟩
    have hb2 : Below w.heap.size w w2 := hb1.trans (b2.mono (by simp only [World.size_alloc]; omega))
    have ka2 := ka.below b2 (by simp; omega)
    have kz2 := kz.below b2 (by simp)
    obtain ⟨q0, q1⟩ := ka2.c2
    obtain ⟨r0, r1⟩ := kz2.c2
    have g0 := kz2.frozen 0
    have g1 := kz2.frozen 1
    rw [hv]
    go_wp2_with (fail)
    refine bodyPost_ret (v := .tuple #[.agg #[.int .i64 0, .slice none 0 0], .int .i64 5]) (by simp [results, Try.results72, go_sem, r0, r1]) rfl ⟨rfl, ?_⟩
    (repeat (first | exact Below.refl _ _ | assumption | apply Below.drew | apply below_drewN | (refine Below.alloc ?_ (by first | omega | (simp; done) | (simp; omega)) _) | (refine Below.setCell ?_ (by first | omega | (simp; done) | (simp; omega)) _)))
  · go_enter Try.func72, Try.ntmps72
    go_wp2_with (fail)
    refine (impl_ValidChart n rs A c _ (h.below hb1) hl).mono ?_; rintro e w2 ⟨rfl, b2⟩
    have hb2 : Below w.heap.size w w2 := hb1.trans (b2.mono (by simp only [World.size_alloc]; omega))
    have ka2 := ka.below b2 (by simp; omega)
    have kz2 := kz.below b2 (by simp)
    obtain ⟨q0, q1⟩ := ka2.c2
    obtain ⟨r0, r1⟩ := kz2.c2
    have g0 := kz2.frozen 0
    have g1 := kz2.frozen 1
    rw [hv]
    go_wp2_with (fail)
    refine bodyPost_ret (v := .tuple #[.agg #[.int .i64 n, .slice A rs.length c], .int .i64 0]) (by simp [results, Try.results72, go_sem, r0, r1]) rfl ⟨rfl, ?_⟩
    (repeat (first | exact Below.refl _ _ | assumption | apply Below.drew | apply below_drewN | (refine Below.alloc ?_ (by first | omega | (simp; done) | (simp; omega)) _) | (refine Below.setCell ?_ (by first | omega | (simp; done) | (simp; omega)) _)))


end Go.Proofs.Ytfgbhhkmdeljoaa
