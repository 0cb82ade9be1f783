/- The law FnFloats walked. -/
import Derived.Test.YtnjgmhdmjaijgaaZ12
import Derived.Test.YtnjgmhdmjaijgaaZ13
import Derived.Test.YtnjgmhdmjaijgaaZ9
namespace Go.Proofs.Ytnjgmhdmjaijgaa
open Go Go.RowKit

theorem long_step {fs : List FloatD} {k : Nat} {f : FloatD} (h : fs[k]? = some f) (hw : 0 ≤ wide f ∧ wide f ≤ 100) : longOf (fs.take (k + 1)) = max64 (longOf (fs.take k)) (wide f) := by
  have e : wrap64 (wrap64 (f.stop - f.start) - 1) = wide f := by
    unfold wide at hw ⊢
    have e1 : wrap64 (f.stop - f.start) = f.stop - f.start := by unfold wrap64; omega
    rw [e1]
    unfold wrap64
    omega
  rw [take_snoc h, longOf_snoc, e]
theorem codes_ff {n : Int} {xss : List (List Int)} (h : coloursB n xss = true) : colCode n xss = 0 ∧ floatsP n xss = fAll xss xss.length ∧ longP n xss = longOf (fAll xss xss.length) ∧ mirCode n xss = 0 ∧ mirC n xss = ⟨n, xss.map List.reverse⟩ := by
  refine ⟨by rw [colCode, if_pos h], by rw [floatsP, if_pos h], by rw [longP, floatsP, if_pos h], by rw [mirCode, if_pos h], by rw [mirC, if_pos h]⟩
/-- What the law looks at along a row: the last stitch that is no slip. -/
def LastAt (s : List Int) (k : Nat) (l : Int) : Prop := (l = -1 ∧ ∀ t, t < k → s[t]? = some 7) ∨ ∃ q : Nat, l = q ∧ q < k ∧ (∃ y, s[q]? = some y ∧ y ≠ 7) ∧ ∀ t, q < t → t < k → s[t]? = some 7
theorem LastAt.slip {s : List Int} {k : Nat} {l : Int} (h : LastAt s k l) (hk : s[k]? = some 7) : LastAt s (k + 1) l := by
  rcases h with ⟨h1, h2⟩ | ⟨q, h1, h2, h3, h4⟩
  · refine .inl ⟨h1, fun t ht => ?_⟩
    by_cases e : t = k
    · subst e; exact hk
    · exact h2 t (by omega)
  · refine .inr ⟨q, h1, by omega, h3, fun t ht1 ht2 => ?_⟩
    by_cases e : t = k
    · subst e; exact hk
    · exact h4 t ht1 (by omega)
theorem LastAt.hit {s : List Int} {k : Nat} {y : Int} (hk : s[k]? = some y) (hy : y ≠ 7) : LastAt s (k + 1) (k : Int) := .inr ⟨k, rfl, by omega, ⟨y, hk, hy⟩, fun t h1 h2 => absurd h2 (by omega)⟩
theorem LastAt.gap {most : Int} {a s : List Int} {k : Nat} {l y : Int} (h : LastAt s k l) (hc : Caught most a s) (hk : s[k]? = some y) (hy : y ≠ 7) : l = -1 ∨ (0 ≤ l ∧ l < k ∧ (k : Int) - l - 1 ≤ most) := by
  rcases h with ⟨h1, _⟩ | ⟨q, h1, h2, ⟨z, h3, h5⟩, h4⟩
  · exact .inl h1
  · right
    subst h1
    exact ⟨by omega, by omega, hc.2.2 q k z y h2 h3 h5 hk hy h4⟩

set_option maxHeartbeats 8000000 in
set_option maxRecDepth 10000 in
theorem law_FnFloats (bs : List Int) (A : Option Addr) (c : Nat) (ms : List Int) (B : Option Addr) (d : Nat) (w : World) (h : Bytes w A bs) (_l : bs.length ≤ 9223372036854775807) (hm : Bytes w B ms) (_lm : ms.length ≤ 9223372036854775807) :
    Calls Try.prog 4 #[.slice A bs.length c, .slice B ms.length d] w fun e w' => e = .returned (.bool true) ∧ Below w.heap.size w w' := by
  cases hlong : (decide (3000 < bs.length) || decide (3000 < ms.length))
  · rw [Bool.or_eq_false_iff] at hlong
    have hl1 := of_decide_eq_false hlong.1
    have hl2 := of_decide_eq_false hlong.2
    go_enter Try.func4, Try.ntmps4
    go_wp2_with (fail)
    refine (laws_a2Long A B bs.length c ms.length d w).mono ?_; rintro e _ ⟨rfl, rfl⟩
    rw [hlong.1, hlong.2]
    clear hlong
    go_wp2_with (fail)
    refine (spec_A2Colours A c bs w h (by omega)).mono ?_
    rintro e w1 ⟨n, xss, A1, c1, rfl, hv, o1, b1⟩
    obtain ⟨hn1, hn8, hx1, hx8, hrow⟩ := colours_row hv
    obtain ⟨q1, q2, q3, q4, q5⟩ := codes_ff hv
    have hv' := mir_colours hv
    obtain ⟨q1', q2', q3', q4', q5'⟩ := codes_ff hv'
    have hlm := long_mirror hv
    have HV := Lib.hid hv
    have HFOK := Lib.hid (fun f (hf : f ∈ fAll xss xss.length) => float_ok hv hf)
    have HWID := Lib.hid (wide_ok hv)
    have HROW := Lib.hid hrow; clear hrow
    have HC1 := Lib.hid q1; have HC2 := Lib.hid q2; have HC3 := Lib.hid q3; have HC4 := Lib.hid q4; have HC5 := Lib.hid q5; have HM1 := Lib.hid q1'; have HM3 := Lib.hid (q3'.trans hlm)
    clear q1 q2 q3 q4 q5 q1' q2' q3' q4' q5' hlm hv' hv
    obtain ⟨w2, hw2⟩ : ∃ w2, w2 = w1.alloc (.cells #[.int .i64 n, .slice A1 xss.length c1] 43) := ⟨_, rfl⟩
    obtain ⟨gc, hgc⟩ : ∃ gc, gc = w1.heap.size := ⟨_, rfl⟩
    have kc : Blk w2 gc 43 #[.int .i64 n, .slice A1 xss.length c1] := by rw [hw2, hgc]; exact Blk.new w1 _ _
    have b12 : Below w1.heap.size w1 w2 := by rw [hw2]; (repeat (first | exact Below.refl _ _ | assumption | apply Below.drew | apply below_drewN | (refine Below.alloc ?_ (by first | omega | (simp; done) | (simp; omega)) _) | (refine Below.setCell ?_ (by first | omega | (simp; done) | (simp; omega)) _)))
    have i2 : Ints2 w2 A1 xss := o1.ints2.below b12
    have B2 : Below w.heap.size w w2 := b1.trans (b12.mono b1.size)
    have hm2 : Bytes w2 B ms := hm.of_cells (cells_below B2)
    go_upto_region 4 with fail
    rw [← hw2, ← hgc]
    clear hw2 hgc o1 b1 b12
    go_wp2_with (fail)
    refine (laws_a2At ms B d 0 4 w2 hm2 (by omega) (by omega)).mono ?_; rintro e _ ⟨x0, rfl, x1, x2, rfl⟩
    have wx : IntKind.i64.wrap (1 + x0) = 1 + x0 := IntWalk.i64_in _ ⟨by omega, by omega⟩
    obtain ⟨M, hMx⟩ : ∃ M, M = 1 + x0 := ⟨_, rfl⟩
    have hM : 1 ≤ M ∧ M ≤ 4 := by omega
    rw [← hMx] at wx
    have wx' : IntKind.i64.wrap (1 + x0) = M := by rw [← hMx]; exact wx
    clear hMx wx x1 x2 hm2
    obtain ⟨p0, p1⟩ := kc.c2
    go_wp2_with (fail)
    refine (impl_FloatsOf n xss A1 c1 w2 i2 (by omega)).mono ?_; rintro e w3 ⟨A3, c3, rfl, o3, b3⟩
    rw [HC1.out]
    rw [HC2.out] at o3 ⊢
    have kc3 := kc.below b3 kc.lt
    have i3 := i2.below b3
    have B3 : Below w.heap.size w w3 := B2.trans (b3.mono B2.size)
    clear kc i2 b3 B2 p0 p1
    obtain ⟨p0, p1⟩ := kc3.c2
    have fl3 : Floats w3 A3 (fAll xss xss.length) := OwnC.floats o3
    have HFN : Hid ((fAll xss xss.length).length ≤ 256) := Lib.hid (fAll_small HV.out (Nat.le_refl _))
    clear o3
    obtain ⟨fs, hfs⟩ : ∃ fs, fs = fAll xss xss.length := ⟨_, rfl⟩
    rw [← hfs] at fl3 HFN HFOK HWID HC3 HM3 ⊢
    have HFS := Lib.hid hfs; clear hfs
    go_wp2_with (fail)
    refine (impl_LongestFloat n xss A1 c1 w3 i3 (by omega)).mono ?_; rintro e w4 ⟨rfl, b4⟩
    rw [HC1.out, HC3.out]
    have kc4 := kc3.below b4 kc3.lt
    have i4 := i3.below b4
    have fl4 := fl3.below b4
    have B4 : Below w.heap.size w w4 := B3.trans (b4.mono B3.size)
    clear kc3 i3 fl3 b4 B3 p0 p1
    obtain ⟨p0, p1⟩ := kc4.c2
    obtain ⟨L, hL⟩ : ∃ L, L = longOf fs := ⟨_, rfl⟩
    rw [← hL]
    have HLL := Lib.hid hL; clear hL
    have hfn := HFN.out
    have hgc4 := kc4.lt
    go_wp2_with (fail)
    go_loopw [11, 12] (fun bv iv wr => ∃ i : Nat, i ≤ fs.length ∧ iv = .int .i64 (i : Int) ∧ bv = .int .i64 (longOf (fs.take i)) ∧ Below w4.heap.size w4 wr) (fun _ iv _ => fs.length - (intOf iv).toNat)
    case atStart => exact ⟨0, Nat.zero_le _, rfl, by rw [List.take_zero]; rfl, Below.refl _ _⟩
    case round =>
      clear p0 p1
      obtain ⟨i, hi, rfl, rfl, hb⟩ := hrel
      have hzr := hb.size
      have kc5 := kc4.below hb hgc4
      obtain ⟨p0, p1⟩ := kc5.c2
      by_cases hil : i < fs.length
      · have di : decide ((i : Int) < (fs.length : Int)) = true := decide_eq_true (by omega)
        obtain ⟨b2, off2, p, rfl, hp, e0, e1, e2, e3⟩ := (fl4.below hb) i hil
        obtain ⟨jf, ps, pe, row, hxj, hrj, hst, hen, hpq, hpn, hp8, hjx, hcs, hce, hrl⟩ := HFOK.out p (List.mem_of_getElem? hp)
        have hwp := HWID.out p (List.mem_of_getElem? hp)
        have HLS := Lib.hid (long_step hp hwp)
        obtain ⟨lc1, lc2⟩ := hwp
        have hlb : 0 ≤ longOf (fs.take i) ∧ longOf (fs.take i) ≤ 100 := (longOf_facts _ (fun f hf => HWID.out f (List.mem_of_mem_take hf))).1
        clear hp
        obtain ⟨r1, r2, r3, r4⟩ := p
        simp only at e0 e1 e2 e3 hrj hst hen hcs hce
        subst hrj hst hen
        unfold wide at HLS lc1 lc2
        simp only at HLS lc1 lc2
        obtain ⟨b3, off3, A7, c7, row', rfl, hx', hc', hir, _⟩ := (i4.below hb) jf hjx
        rw [hxj] at hx'
        injection hx' with hx'
        subst hx'
        obtain ⟨b5, off5, y1, rfl, hy1, hyy1⟩ := hir ps (by omega)
        obtain ⟨b6, off6, y2, hA6, hy2, hyy2⟩ := hir pe (by omega)
        injection hA6 with hA6
        injection hA6 with hA61 hA62
        subst hA61 hA62
        rw [hcs] at hyy1
        injection hyy1 with hyy1
        rw [hce] at hyy2
        injection hyy2 with hyy2
        subst hyy1 hyy2
        have HXJ := Lib.hid hxj; clear hxj hcs hce
        obtain ⟨lb, hlbv⟩ : ∃ lb, lb = longOf (fs.take i) := ⟨_, rfl⟩
        rw [← hlbv] at HLS hlb ⊢
        clear hlbv
        have j1 : (0 : Int) ≤ (i : Int) := by omega
        have j2 : (i : Int) < (fs.length : Int) := by omega
        have f0 : decide ((jf : Int) < 0) = false := decide_eq_false (by omega)
        have f1 : decide ((jf : Int) ≥ (xss.length : Int)) = false := decide_eq_false (by omega)
        have f2 : decide ((ps : Int) < 0) = false := decide_eq_false (by omega)
        have f3 : decide ((pe : Int) ≥ n) = false := decide_eq_false (by omega)
        have wq : IntKind.i64.wrap ((pe : Int) - (ps : Int)) = (pe : Int) - (ps : Int) := IntWalk.i64_in _ ⟨by omega, by omega⟩
        have wq2 : IntKind.i64.wrap ((pe : Int) - (ps : Int) - 1) = (pe : Int) - (ps : Int) - 1 := IntWalk.i64_in _ ⟨by omega, by omega⟩
        have f4 : decide ((pe : Int) - (ps : Int) < 2) = false := decide_eq_false (by omega)
        have k1 : (0 : Int) ≤ (jf : Int) := by omega
        have k2 : (jf : Int) < (xss.length : Int) := by omega
        have k3 : (0 : Int) ≤ (ps : Int) := by omega
        have k4 : (ps : Int) < (row.length : Int) := by omega
        have k5 : (0 : Int) ≤ (pe : Int) := by omega
        have k6 : (pe : Int) < (row.length : Int) := by omega
        have f5 : (r2 != r2) = false := by simp
        have HRL := Lib.hid hrl; clear hrl
        obtain ⟨w7, hw7⟩ : ∃ w7, w7 = wr.alloc (.cells #[.int .i64 (jf : Int), .int .i64 r2, .int .i64 (ps : Int), .int .i64 (pe : Int)] 52) := ⟨_, rfl⟩
        obtain ⟨gf, hgf⟩ : ∃ gf, gf = wr.heap.size := ⟨_, rfl⟩
        have kf : Blk w7 gf 52 #[.int .i64 (jf : Int), .int .i64 r2, .int .i64 (ps : Int), .int .i64 (pe : Int)] := by rw [hw7, hgf]; exact Blk.new wr _ _
        have b7 : Below w4.heap.size w4 w7 := by rw [hw7]; exact Below.alloc hb hb.size _
        have z0 : w7.cell? ⟨gf, 0, none⟩ = some (.int .i64 (jf : Int)) := kf.cell 0
        have z1 : w7.cell? ⟨gf, 1, none⟩ = some (.int .i64 r2) := kf.cell 1
        have z2 : w7.cell? ⟨gf, 2, none⟩ = some (.int .i64 (ps : Int)) := kf.cell 2
        have z3 : w7.cell? ⟨gf, 3, none⟩ = some (.int .i64 (pe : Int)) := kf.cell 3
        have p0' : w7.cell? ⟨gc, 0, none⟩ = some (.int .i64 n) := by rw [hw7]; exact cell_alloc p0 _
        have p1' : w7.cell? ⟨gc, 1, none⟩ = some (.slice (some ⟨b3, off3, none⟩) xss.length c1) := by rw [hw7]; exact cell_alloc p1 _
        have hc7 : w7.cell? ⟨b3, off3 + jf, none⟩ = some (.slice (some ⟨b5, off5, none⟩) row.length c7) := by rw [hw7]; exact cell_alloc hc' _
        have hy17 : w7.cell? ⟨b5, off5 + ps, none⟩ = some (.int .i64 r2) := by rw [hw7]; exact cell_alloc hy1 _
        have hy27 : w7.cell? ⟨b5, off5 + pe, none⟩ = some (.int .i64 r2) := by rw [hw7]; exact cell_alloc hy2 _
        go_upto_region 14 with fail
        rw [← hw7, ← hgf]
        clear hw7 hgf hb e0 e1 e2 e3 kc5 p0 p1 hc' hy1 hy2 hir kf
        by_cases hgt : (pe : Int) - (ps : Int) - 1 > lb
        · have dgt : decide ((pe : Int) - (ps : Int) - 1 > lb) = true := decide_eq_true hgt
          have HV2 : Hid (longOf (fs.take (i + 1)) = (pe : Int) - (ps : Int) - 1) := Lib.hid (by rw [HLS.out, max64, if_neg (by omega)])
          clear hgt
          go_wp2_with (fail)
          go_quiet (fail)
          go_wp2_with (fail)
          exact ⟨⟨i + 1, by omega, by go_num, by rw [HV2.out], below_drewN b7 nq⟩, by simp [intOf]; omega⟩
        · have dgt : decide ((pe : Int) - (ps : Int) - 1 > lb) = false := decide_eq_false hgt
          have HV2 : Hid (longOf (fs.take (i + 1)) = lb) := Lib.hid (by
            rw [HLS.out, max64]
            split
            · rfl
            · omega)
          clear hgt
          go_wp2_with (fail)
          go_quiet (fail)
          go_wp2_with (fail)
          exact ⟨⟨i + 1, by omega, by go_num, by rw [HV2.out], below_drewN b7 nq⟩, by simp [intOf]; omega⟩
      · obtain rfl : i = fs.length := by omega
        have di : decide ((fs.length : Int) < (fs.length : Int)) = false := decide_eq_false (by omega)
        have HBE : Hid (longOf (fs.take fs.length) = L) := Lib.hid (by rw [take_all (Nat.le_refl _), HLL.out])
        rw [HBE.out]
        have i5 := i4.below hb
        have B5 : Below w.heap.size w wr := B4.trans (hb.mono B4.size)
        clear HFOK HWID fl4 kc4 i4 hb B4
        go_wp2_with (fail)
        refine (impl_MirrorColours n xss A1 c1 wr i5 (by omega)).mono ?_; rintro e w6 ⟨A6, c6, rfl, o6, b6⟩
        rw [HC4.out]
        rw [HC5.out] at o6 ⊢
        have kc6 := kc5.below b6 kc5.lt
        have i6 := i5.below b6
        have B6 : Below w.heap.size w w6 := B5.trans (b6.mono B5.size)
        have im6 : Ints2 w6 A6 (xss.map List.reverse) := o6.ints2
        clear kc5 i5 b6 B5 o6 p0 p1
        have hml : (xss.map List.reverse).length = xss.length := List.length_map ..
        generalize xss.map List.reverse = yss at *
        rw [hml]
        have HML := Lib.hid hml; clear hml
        obtain ⟨w7, hw7⟩ : ∃ w7, w7 = w6.alloc (.cells #[.int .i64 n, .slice A6 xss.length c6] 43) := ⟨_, rfl⟩
        obtain ⟨gm, hgm⟩ : ∃ gm, gm = w6.heap.size := ⟨_, rfl⟩
        have km : Blk w7 gm 43 #[.int .i64 n, .slice A6 xss.length c6] := by rw [hw7, hgm]; exact Blk.new w6 _ _
        have b67 : Below w6.heap.size w6 w7 := by rw [hw7]; (repeat (first | exact Below.refl _ _ | assumption | apply Below.drew | apply below_drewN | (refine Below.alloc ?_ (by first | omega | (simp; done) | (simp; omega)) _) | (refine Below.setCell ?_ (by first | omega | (simp; done) | (simp; omega)) _)))
        have kc7 := kc6.below b67 kc6.lt
        have i7 := i6.below b67
        have im7 := im6.below b67
        have B7 : Below w.heap.size w w7 := B6.trans (b67.mono B6.size)
        go_upto_region 19 with fail
        rw [← hw7, ← hgm]
        clear hw7 hgm kc6 i6 im6 b67 B6
        obtain ⟨m0, m1⟩ := km.c2
        go_wp2_with (fail)
        refine ((by have := impl_LongestFloat n yss A6 c6 w7 im7 (by rw [HML.out]; omega); rwa [HML.out] at this) : Calls Try.prog 22 #[.agg #[.int .i64 n, .slice A6 xss.length c6]] w7 fun e w' => e = .returned (.tuple #[.int .i64 (longP n yss), .int .i64 (colCode n yss)]) ∧ Below w7.heap.size w7 w').mono ?_
        rintro e w8 ⟨rfl, b8⟩
        rw [HM1.out, HM3.out, ← HLL.out]
        have kc8 := kc7.below b8 kc7.lt
        have km8 := km.below b8 km.lt
        have i8 := i7.below b8
        have B8 : Below w.heap.size w w8 := B7.trans (b8.mono B7.size)
        clear kc7 km i7 im7 b8 B7 m0 m1
        obtain ⟨m0, m1⟩ := km8.c2
        obtain ⟨p0, p1⟩ := kc8.c2
        have hLL : (L != L) = false := by simp
        have hxl : ((xss.length : Int) != (xss.length : Int)) = false := by simp
        go_wp2_with (fail)
        refine (impl_ChartOfColours n xss A1 c1 w8 i8 (by omega)).mono ?_
        rintro e w9 ⟨A9, c9, rfl, o9, b9⟩
        have kc9 := kc8.below b9 kc8.lt
        have i9 := i8.below b9
        have B9 : Below w.heap.size w w9 := B8.trans (b9.mono B8.size)
        have r9 := o9.rowsR
        clear kc8 km8 i8 b9 B8 m0 m1 p0 p1 o9
        have hm2 : 2 ≤ M + 1 ∧ M + 1 ≤ 9 := by omega
        have HRC := Lib.hid (rows_caught hm2 xss)
        obtain ⟨w10, hw10⟩ : ∃ w10, w10 = w9.alloc (.cells #[.int .i64 (cofX n xss).n, .slice A9 (cofX n xss).xs.length c9] 57) := ⟨_, rfl⟩
        obtain ⟨gp, hgp⟩ : ∃ gp, gp = w9.heap.size := ⟨_, rfl⟩
        have kp : Blk w10 gp 57 #[.int .i64 (cofX n xss).n, .slice A9 (cofX n xss).xs.length c9] := by rw [hw10, hgp]; exact Blk.new w9 _ _
        have b910 : Below w9.heap.size w9 w10 := by rw [hw10]; (repeat (first | exact Below.refl _ _ | assumption | apply Below.drew | apply below_drewN | (refine Below.alloc ?_ (by first | omega | (simp; done) | (simp; omega)) _) | (refine Below.setCell ?_ (by first | omega | (simp; done) | (simp; omega)) _)))
        have kc10 := kc9.below b910 kc9.lt
        have i10 := i9.below b910
        have r10 := r9.below b910
        have B10 : Below w.heap.size w w10 := B9.trans (b910.mono B9.size)
        go_upto_region 23 with fail
        rw [← hw10, ← hgp]
        clear hw10 hgp kc9 i9 r9 b910 B9
        obtain ⟨p0, p1⟩ := kc10.c2
        go_wp2_with (fail)
        refine (impl_CatchFloats M (by omega) n xss A1 c1 w10 i10 (by omega) HV.out).mono ?_
        rintro e w11 ⟨A11, c11, rfl, o11, b11⟩
        have kp11 := kp.below b11 kp.lt
        have r11 := r10.below b11
        have B11 : Below w.heap.size w w11 := B10.trans (b11.mono B10.size)
        have x11 := o11.rowsR
        clear kc10 kp i10 r10 b11 B10 p0 p1 o11
        by_cases hd0 : cofCode n xss = 0
        · by_cases he0 : catCode n (M + 1) xss = 0
          · have hcx : cofX n xss = ⟨n, cofRows xss⟩ := by
              rw [cofX]
              have hvv := HV.out
              cases hcb : chartB n (cofRows xss)
              · rw [cofCode, if_pos hvv, if_neg (by rw [hcb]; decide)] at hd0
                simp at hd0
              · rw [hvv]; rfl
            have hax : catX n (M + 1) xss = ⟨n, catRows (M + 1) xss⟩ := by
              rw [catX]
              cases hcb : chartB n (catRows (M + 1) xss)
              · rw [catCode, if_neg (by rw [hcb]; decide)] at he0
                simp at he0
              · rfl
            rw [hcx] at kp11 r11
            rw [hax] at x11 ⊢
            rw [hd0, he0]
            have hlen := HRC.out.len
            have hl32 : (catRows (M + 1) xss).length ≤ 32 := catRows_small HV.out
            clear hcx hax hd0 he0
            simp only at kp11 r11 x11 ⊢
            generalize cofRows xss = ra at *
            generalize catRows (M + 1) xss = rb at *
            rw [hlen] at kp11
            have HLEN := Lib.hid hlen; clear hlen
            have hee : ((rb.length : Int) != (rb.length : Int)) = false := by simp
            obtain ⟨w12, hw12⟩ : ∃ w12, w12 = w11.alloc (.cells #[.int .i64 n, .slice A11 rb.length c11] 57) := ⟨_, rfl⟩
            obtain ⟨gx, hgx⟩ : ∃ gx, gx = w11.heap.size := ⟨_, rfl⟩
            have kx : Blk w12 gx 57 #[.int .i64 n, .slice A11 rb.length c11] := by rw [hw12, hgx]; exact Blk.new w11 _ _
            have b1112 : Below w11.heap.size w11 w12 := by rw [hw12]; (repeat (first | exact Below.refl _ _ | assumption | apply Below.drew | apply below_drewN | (refine Below.alloc ?_ (by first | omega | (simp; done) | (simp; omega)) _) | (refine Below.setCell ?_ (by first | omega | (simp; done) | (simp; omega)) _)))
            have kp := kp11.below b1112 kp11.lt
            have ra12 := r11.below b1112
            have rb12 := x11.below b1112
            have B12 : Below w.heap.size w w12 := B11.trans (b1112.mono B11.size)
            go_upto_region 24 with fail
            rw [← hw12, ← hgx]
            clear hw12 hgx kp11 r11 x11 b1112 B11
            obtain ⟨p0, p1⟩ := kp.c2
            obtain ⟨q0, q1⟩ := kx.c2
            go_wp2_with (fail)
            go_loopw [18] (fun iv wr => ∃ i : Nat, i ≤ rb.length ∧ iv = .int .i64 (i : Int) ∧ ∃ q, wr = w12.drewN q) (fun iv _ => rb.length - (intOf iv).toNat)
            case atStart => exact ⟨0, Nat.zero_le _, rfl, 0, rfl⟩
            case round =>
              obtain ⟨i, hi, rfl, q, rfl⟩ := hrel
              by_cases hil : i < rb.length
              · have di : decide ((i : Int) < (rb.length : Int)) = true := decide_eq_true (by omega)
                obtain ⟨b1, off1, A1', c1', a, rfl, ha, _, _, ha2, hia, _⟩ := ra12 i (by rw [HLEN.out]; exact hil)
                obtain ⟨b2, off2, A2', c2', x, rfl, hx, _, _, hx2, hix, hbl⟩ := rb12 i hil
                have hca := HRC.out.at ha hx
                have HCA := Lib.hid hca
                have hsl := hca.1
                rw [show M + 1 - 1 = M by omega] at HCA
                clear hca ha hx
                obtain ⟨as_, hasE⟩ : ∃ as_, as_ = a.s := ⟨_, rfl⟩
                obtain ⟨bs_, hbsE⟩ : ∃ bs_, bs_ = x.s := ⟨_, rfl⟩
                rw [← hasE] at ha2 hia HCA hsl
                rw [← hbsE] at hx2 hix HCA hsl hbl
                clear hasE hbsE
                rw [hsl] at ha2
                have HSL := Lib.hid hsl; clear hsl
                have j1 : (0 : Int) ≤ (i : Int) := by omega
                have j2 : (i : Int) < (rb.length : Int) := by omega
                have hee2 : ((bs_.length : Int) != (bs_.length : Int)) = false := by simp
                go_wp2_with (fail)
                go_quiet (fail)
                go_wp2_with (fail)
                go_loopw [19, 20] (fun lv kv wr => ∃ (k : Nat) (l : Int), k ≤ bs_.length ∧ kv = .int .i64 (k : Int) ∧ lv = .int .i64 l ∧ Hid (LastAt bs_ k l) ∧ (-1 ≤ l ∧ l < k) ∧ ∃ q, wr = w12.drewN q) (fun _ kv _ => bs_.length - (intOf kv).toNat)
                case atStart => exact ⟨0, -1, Nat.zero_le _, rfl, rfl, Lib.hid (.inl ⟨rfl, fun t ht => absurd ht (Nat.not_lt_zero _)⟩), by omega, q + nq, by rw [World.drewN_drewN]⟩
                case round =>
                  obtain ⟨k, l, hk, rfl, rfl, HLA, ⟨hl0, hl1⟩, q3, rfl⟩ := hrel
                  by_cases hkl : k < bs_.length
                  · have dk : decide ((k : Int) < (bs_.length : Int)) = true := decide_eq_true (by omega)
                    obtain ⟨b5, off5, x1, rfl, hcx, hxx⟩ := hia k (by rw [HSL.out]; exact hkl)
                    obtain ⟨b6, off6, y1, rfl, hcy, hyy⟩ := hix k hkl
                    have hxy := HCA.out.2.1 k x1 y1 hxx hyy
                    have HY := Lib.hid hyy
                    have HGAP : Hid (y1 ≠ 7 → l = -1 ∨ (0 ≤ l ∧ l < k ∧ (k : Int) - l - 1 ≤ M)) := Lib.hid (fun hne => HLA.out.gap HCA.out hyy hne)
                    clear hxx hyy
                    have k1 : (0 : Int) ≤ (k : Int) := by omega
                    have k2 : (k : Int) < (bs_.length : Int) := by omega
                    have wk : IntKind.i64.wrap ((k : Int) + 1) = (k : Int) + 1 := IntWalk.i64_in _ ⟨by omega, by omega⟩
                    by_cases hy7 : y1 = 7
                    · obtain rfl : x1 = 7 := by omega
                      subst hy7
                      clear hxy
                      have HSLIP := Lib.hid (HLA.out.slip HY.out)
                      go_wp2_with (fail)
                      exact ⟨⟨k + 1, l, by omega, by go_num, rfl, HSLIP, by omega, _, rfl⟩, by first | (simp [intOf]; done) | (simp [intOf]; omega)⟩
                    · have hgap := HGAP.out hy7
                      rcases hxy with hxy | ⟨hx7, hy6⟩
                      · subst hxy
                        have e1 : (x1 != x1) = false := by simp
                        have e2 : (x1 == 7) = false := by simpa using hy7
                        have HN7 := Lib.hid hy7
                        rcases hgap with hgap | ⟨g1, g2, g3⟩
                        · subst hgap
                          clear hy7
                          go_wp2_with (fail)
                          exact ⟨⟨k + 1, (k : Int), by omega, by go_num, rfl, Lib.hid (LastAt.hit HY.out HN7.out), by omega, _, rfl⟩, by first | (simp [intOf]; done) | (simp [intOf]; omega)⟩
                        · have g4 : decide (l ≥ 0) = true := decide_eq_true g1
                          have g5 : IntKind.i64.wrap ((k : Int) - l) = (k : Int) - l := IntWalk.i64_in _ ⟨by omega, by omega⟩
                          have g6 : IntKind.i64.wrap ((k : Int) - l - 1) = (k : Int) - l - 1 := IntWalk.i64_in _ ⟨by omega, by omega⟩
                          have g7 : decide ((k : Int) - l - 1 > M) = false := decide_eq_false (by omega)
                          clear hy7
                          go_wp2_with (fail)
                          exact ⟨⟨k + 1, (k : Int), by omega, by go_num, rfl, Lib.hid (LastAt.hit HY.out HN7.out), by omega, _, rfl⟩, by first | (simp [intOf]; done) | (simp [intOf]; omega)⟩
                      · subst hx7 hy6
                        clear hy7
                        rcases hgap with hgap | ⟨g1, g2, g3⟩
                        · subst hgap
                          go_wp2_with (fail)
                          exact ⟨⟨k + 1, (k : Int), by omega, by go_num, rfl, Lib.hid (LastAt.hit HY.out (by decide)), by omega, _, rfl⟩, by first | (simp [intOf]; done) | (simp [intOf]; omega)⟩
                        · have g4 : decide (l ≥ 0) = true := decide_eq_true g1
                          have g5 : IntKind.i64.wrap ((k : Int) - l) = (k : Int) - l := IntWalk.i64_in _ ⟨by omega, by omega⟩
                          have g6 : IntKind.i64.wrap ((k : Int) - l - 1) = (k : Int) - l - 1 := IntWalk.i64_in _ ⟨by omega, by omega⟩
                          have g7 : decide ((k : Int) - l - 1 > M) = false := decide_eq_false (by omega)
                          go_wp2_with (fail)
                          exact ⟨⟨k + 1, (k : Int), by omega, by go_num, rfl, Lib.hid (LastAt.hit HY.out (by decide)), by omega, _, rfl⟩, by first | (simp [intOf]; done) | (simp [intOf]; omega)⟩
                  · have dk : decide ((k : Int) < (bs_.length : Int)) = false := decide_eq_false (by omega)
                    go_wp2_with (fail)
                    exact ⟨⟨i + 1, by omega, by go_num, q3, rfl⟩, by first | (simp [intOf]; done) | (simp [intOf]; omega)⟩
              · have di : decide ((i : Int) < (rb.length : Int)) = false := decide_eq_false (by omega)
                go_wp2_with (fail)
                go_ret
                exact ⟨rfl, below_drewN B12 q⟩
          · have he5 : catCode n (M + 1) xss = 5 := by
              unfold catCode at he0 ⊢
              split
              · rename_i hh; rw [if_pos hh] at he0; exact absurd rfl he0
              · rfl
            rw [hd0, he5]
            clear hd0 he0 he5
            generalize catX n (M + 1) xss = X at *
            generalize cofX n xss = Y at *
            go_wp2_with (fail)
            go_ret
            exact ⟨rfl, Below.alloc B11 B11.size _⟩
        · have he5 : catCode n (M + 1) xss = 5 := cat_full hm2 HV.out hd0
          have hdb : (cofCode n xss != 0) = true := by simpa using hd0
          rw [he5]
          clear hd0 he5
          generalize catX n (M + 1) xss = X at *
          generalize cofX n xss = Y at *
          generalize cofCode n xss = Z at *
          go_wp2_with (fail)
          go_ret
          exact ⟨rfl, Below.alloc B11 B11.size _⟩
  · go_enter Try.func4, Try.ntmps4
    go_wp2_with (fail)
    refine (laws_a2Long A B bs.length c ms.length d w).mono ?_; rintro e _ ⟨rfl, rfl⟩
    rw [hlong]
    go_wp2_with (fail)
    go_ret
    exact ⟨rfl, Below.refl _ _⟩

end Go.Proofs.Ytnjgmhdmjaijgaa
