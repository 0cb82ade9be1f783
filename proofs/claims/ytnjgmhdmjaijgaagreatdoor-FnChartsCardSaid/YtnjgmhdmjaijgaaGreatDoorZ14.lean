/- Steps of the proof, joined from several texts: JC DM DN JE JF O6. -/
import Derived.Test.YtnjgmhdmjaijgaaGreatDoorZ13
import Derived.Test.YtnjgmhdmjaijgaaGreatDoorZ6
import Derived.Test.YtnjgmhdmjaijgaaGreatDoorZ11
import Derived.Test.YtnjgmhdmjaijgaaGreatDoorZ3
import Derived.Test.YtnjgmhdmjaijgaaGreatDoorRows
import Derived.MakeChecks
import Derived.LaidLaws
import Derived.Stop.LaidErr
import Derived.Lib.LaidTab

/- Reading of charts, the program's side: the row of a line. -/
namespace Go.Proofs.YtnjgmhdmjaijgaaGreatDoor
open Go Go.RowKit

theorem words_len (l : ByteArray) : (wordsI l).length = Lib.countB l ⟨#[32]⟩ + 1 := Lib.splitB_all ⟨#[32]⟩ (by decide) 0 _ l rfl
theorem words_size {l x : ByteArray} (h : x ∈ wordsI l) : x.size ≤ l.size := by
  have h1 : x.data.toList ∈ cutL 32 l.data.toList := by rw [← words_cut]; exact List.mem_map_of_mem h
  have key : ∀ (t : List UInt8), ∀ y ∈ cutL 32 t, y.length ≤ t.length := by
    intro t
    induction t with
    | nil => intro y hy; simp [cutL] at hy; subst hy; simp
    | cons b r ih =>
      intro y hy
      rw [cutL] at hy
      split at hy
      · rcases List.mem_cons.1 hy with rfl | hy
        · simp
        · have := ih y hy; simp; omega
      · split at hy
        · rename_i hc; exact absurd hc (cutL_ne 32 r)
        · rename_i x xs hc
          rcases List.mem_cons.1 hy with rfl | hy
          · have := ih x (by rw [hc]; simp); simp; omega
          · have := ih y (by rw [hc]; simp [hy]); simp; omega
  have := key _ _ h1
  rw [ba_size, ba_size]
  exact this
theorem rowI_not3 {l : ByteArray} (h : (wordsI l).length ≠ 3) : rowI l = none := by
  unfold rowI
  split
  · rename_i a b c e; rw [e] at h; exact absurd rfl h
  · rfl
theorem rowI_3 {l a b c : ByteArray} (h : wordsI l = [a, b, c]) : rowI l = if (rdDec b).2 && readOk c then some ⟨if a = ⟨#[60]⟩ then -1 else 1, (rdDec b).1, readP c⟩ else none := by
  unfold rowI
  rw [h]
theorem three {α : Type} {l : List α} (h : l.length = 3) : ∃ a b c, l = [a, b, c] := by
  match l, h with
  | [a, b, c], _ => exact ⟨a, b, c, rfl⟩

set_option maxHeartbeats 4000000 in
set_option maxRecDepth 10000 in
theorem impl_rowOf (s : ByteArray) (w : World) (hs : s.size ≤ 1000000000) (hL : Lw w) :
    Calls Tryz.prog 26 #[.string s] w fun e w' => ∃ (d r : Int) (xs : List Int) (A' : Option Addr) (c' : Nat), e = .returned (.tuple #[.agg #[.int .i64 d, .int .i64 r, .slice A' xs.length c'], .bool (rowI s).isSome]) ∧ (∀ q, rowI s = some q → q = ⟨d, r, xs⟩) ∧ OwnI w' w.heap.size w'.heap.size A' c' xs ∧ xs.length ≤ 16 ∧ Below w.heap.size w w' := by
  have t1 : (42 : TypeId) ≠ 2 := by decide
  have kz0 := Blk.new w 42 #[.int .i64 0, .int .i64 0, .slice none 0 0]
  have hb0 : Below w.heap.size w (w.alloc (.cells #[.int .i64 0, .int .i64 0, .slice none 0 0] 42)) := by (repeat (first | exact Below.refl _ _ | assumption | apply Below.drew | apply below_drewN | (refine Below.alloc ?_ (by first | omega | (simp; done) | (simp; omega)) _) | (refine Below.setCell ?_ (by first | omega | (simp; done) | (simp; omega)) _)))
  obtain ⟨w1, hw1⟩ : ∃ w1, w1 = w.alloc (.cells #[.int .i64 0, .int .i64 0, .slice none 0 0] 42) := ⟨_, rfl⟩
  rw [← hw1] at kz0 hb0
  obtain ⟨m, hm⟩ := (hL.below hb0).sp
  have hsp := shelf_strings_Split s ⟨#[32]⟩ m w1 (by omega) hm (by decide)
  rw [← words_len] at hsp
  have HSP := Lib.hid hsp; clear hsp hm
  have hws : ∀ x ∈ wordsI s, x.size ≤ 1000000000 := fun x hx => Nat.le_trans (words_size hx) hs
  have HWL := Lib.hid (words_len s)
  have HN3 := Lib.hid (fun h => rowI_not3 (l := s) h)
  have HR3 := Lib.hid (fun a b c h => rowI_3 (l := s) (a := a) (b := b) (c := c) h)
  have hwl9 : (wordsI s).length ≤ 1000000001 := by
    have := Lib.countB_le ⟨#[32]⟩ (by decide) s.size s (Nat.le_refl _)
    rw [words_len]; omega
  have hspl : Lib.splitB ⟨#[32]⟩ 0 (Lib.countB s ⟨#[32]⟩) s = wordsI s := rfl
  have HSPL := Lib.hid hspl; clear hspl
  go_enter Tryz.func26, Tryz.ntmps26
  go_upto_region 1 with fail
  rw [← hw1]
  clear hw1
  go_wp2_with (fail)
  refine HSP.out.mono ?_; rintro e w2 ⟨rfl, hw2⟩
  rw [HSPL.out] at hw2
  clear HSP HSPL HWL
  generalize wordsI s = ws at *
  have b2 : Below w1.heap.size w1 w2 := by rw [hw2]; (repeat (first | exact Below.refl _ _ | assumption | apply Below.drew | apply below_drewN | (refine Below.alloc ?_ (by first | omega | (simp; done) | (simp; omega)) _) | (refine Below.setCell ?_ (by first | omega | (simp; done) | (simp; omega)) _)))
  have kz2 := kz0.below b2 kz0.lt
  have hb2 : Below w.heap.size w w2 := hb0.trans (b2.mono hb0.size)
  by_cases h3 : ws.length = 3
  · obtain ⟨a, b, c, habc⟩ := three h3
    have hcs : w2.heap[w1.heap.size]? = some (.cells (ws.map Value.string).toArray 9 (0, 0)) := by rw [hw2]; exact (Blk.new w1 _ _ : Blk _ _ _ _)
    have kw : Blk w2 w1.heap.size 9 #[.string a, .string b, .string c] := by rw [habc] at hcs; exact hcs
    have hsb := hws b (by rw [habc]; simp)
    have hsc := hws c (by rw [habc]; simp)
    have HR := Lib.hid (HR3.out a b c habc)
    rw [h3]
    clear hcs hws HN3 HR3 habc hwl9 h3 hw2
    obtain ⟨gw, hgw⟩ : ∃ gw, gw = w1.heap.size := ⟨_, rfl⟩
    rw [← hgw] at kw ⊢
    have hg1 : w.heap.size < gw := by rw [hgw]; exact kz0.lt
    clear hgw b2 kz0 hb0
    obtain ⟨w3, hw3⟩ : ∃ w3, w3 = w2.alloc (.cells #[.int .i64 1, .int .i64 0, .slice none 0 0] 42) := ⟨_, rfl⟩
    obtain ⟨gr, hgr⟩ : ∃ gr, gr = w2.heap.size := ⟨_, rfl⟩
    have kr3 : Blk w3 gr 42 #[.int .i64 1, .int .i64 0, .slice none 0 0] := by rw [hw3, hgr]; exact Blk.new w2 _ _
    have kz3 : Blk w3 w.heap.size 42 #[.int .i64 0, .int .i64 0, .slice none 0 0] := by rw [hw3]; exact kz2.alloc _
    have kw3 : Blk w3 gw 9 #[.string a, .string b, .string c] := by rw [hw3]; exact kw.alloc _
    have hb3 : Below w.heap.size w w3 := by rw [hw3]; exact Below.alloc hb2 hb2.size _
    have hgwr : gw < gr := by rw [hgr]; exact kw.lt
    obtain ⟨v0, v1, v2⟩ := kw3.c3
    go_upto_region 5 with fail
    rw [← hw3, ← hgr]
    clear hw3 hgr kw kz2 hb2
    obtain ⟨d, hd⟩ : ∃ d : Int, d = if a = ⟨#[60]⟩ then -1 else 1 := ⟨_, rfl⟩
    rw [← hd] at HR
    go_upto_if 20 with fail
    have hq1 : (a.toList == [60]) = decide (a = ⟨#[60]⟩) := by
      by_cases ha : a = ⟨#[60]⟩
      · rw [decide_eq_true ha, ha, ByteArray.toList_eq]; rfl
      · rw [decide_eq_false ha, beq_eq_false_iff_ne]
        exact fun e => ha (ba_toList (by rw [e, ByteArray.toList_eq]))
    have hd2 : d = if decide (a = ⟨#[60]⟩) = true then -1 else 1 := by rw [hd]; simp
    rw [hq1]
    clear hq1 hd
    generalize decide (a = ⟨#[60]⟩) = bq at *
    go_cut [] (fun wx => Blk wx gr 42 #[.int .i64 d, .int .i64 0, .slice none 0 0] ∧ Blk wx w.heap.size 42 #[.int .i64 0, .int .i64 0, .slice none 0 0] ∧ Blk wx gw 9 #[.string a, .string b, .string c] ∧ Below w.heap.size w wx)
    case first =>
      have fr := kr3.frozen 0
      obtain ⟨z0, z1, z2⟩ := kr3.c3
      cases bq
      · have HD : Hid (d = 1) := Lib.hid (by rw [hd2]; rfl)
        clear hd2
        go_wp2_with (fail)
        go_meet
        rw [HD.out]
        exact ⟨kr3, kz3, kw3, hb3⟩
      · have HD : Hid (d = -1) := Lib.hid (by rw [hd2]; rfl)
        clear hd2
        go_wp2_with (fail)
        go_meet
        rw [HD.out]
        exact ⟨kr3.set30 _, kz3.far (p := ⟨gr, 0, none⟩) (by show w.heap.size ≠ gr; omega) _, kw3.far (p := ⟨gr, 0, none⟩) (by show gw ≠ gr; omega) _, hb3.setCell (by show w.heap.size ≤ gr; omega) _⟩
    case rest =>
    clear kr3 kz3 kw3 hb3 v0 v1 v2 hd2
    obtain ⟨kr, kz, kw, hb⟩ := hcut
    obtain ⟨v0, v1, v2⟩ := kw.c3
    have hL4 := hL.below hb
    go_wp2_with (fail)
    refine (impl_ReadDecimal b wc hsb hL4).mono ?_; rintro e w5 ⟨rfl, b5⟩
    have kr5 := kr.below b5 kr.lt
    have kz5 := kz.below b5 kz.lt
    have kw5 := kw.below b5 kw.lt
    have hb5 : Below w.heap.size w w5 := hb.trans (b5.mono hb.size)
    clear kr kz kw hb b5 v0 v1 v2 hL4
    obtain ⟨v0, v1, v2⟩ := kw5.c3
    obtain ⟨rd, hrd⟩ : ∃ rd, rd = rdDec b := ⟨_, rfl⟩
    rw [← hrd] at HR ⊢
    clear hrd
    obtain ⟨rn, ro⟩ := rd
    simp only at HR ⊢
    have hlt5 := kr5.lt
    go_wp2_with (fail)
    refine (impl_ReadStitches c w5 (by omega)).mono ?_; rintro e w6 ⟨A6, c6, rfl, o6, b6⟩
    have kr6 := kr5.below b6 kr5.lt
    have kz6 := kz5.below b6 kz5.lt
    have hb6 : Below w.heap.size w w6 := hb5.trans (b6.mono hb5.size)
    have HP16 := Lib.hid (readP_length c)
    clear kr5 kz5 kw5 hb5 v0 v1 v2
    generalize readP c = xs at *
    have hxl := HP16.out
    have hz6 := b6.size
    have f1 := kr6.frozen 1
    have f2 := kr6.frozen 2
    have g0 := kz6.frozen 0
    have g1 := kz6.frozen 1
    have g2 := kz6.frozen 2
    obtain ⟨r0, r1, r2⟩ := kr6.c3
    obtain ⟨y0, y1, y2⟩ := kz6.c3
    have hne : ¬ w.heap.size = gr := by omega
    have hne2 : ¬ gr = w.heap.size := by omega
    have HFIN : Hid ((rowI s).isSome = (ro && readOk c) ∧ ∀ q, rowI s = some q → q = ⟨d, rn, xs⟩) := Lib.hid (by
      rw [HR.out]
      cases hh : (ro && readOk c)
      · exact ⟨rfl, fun q hq => by simp at hq⟩
      · refine ⟨rfl, fun q hq => ?_⟩
        rw [if_pos rfl] at hq
        injection hq with hq
        exact hq.symm)
    clear HR b6
    have hb7 : Below w.heap.size w ((w6.setCell ⟨gr, 1, none⟩ (.int .i64 rn)).setCell ⟨gr, 2, none⟩ (.slice A6 xs.length c6)) := (hb6.setCell (by show w.heap.size ≤ gr; omega) _).setCell (by show w.heap.size ≤ gr; omega) _
    have kr7 := (kr6.set31 (.int .i64 rn)).set32 (.slice A6 xs.length c6)
    have kz7 := (kz6.far (p := ⟨gr, 1, none⟩) (by show w.heap.size ≠ gr; omega) (.int .i64 rn)).far (p := ⟨gr, 2, none⟩) (by show w.heap.size ≠ gr; omega) (.slice A6 xs.length c6)
    have o7 : OwnC ((w6.setCell ⟨gr, 1, none⟩ (.int .i64 rn)).setCell ⟨gr, 2, none⟩ (.slice A6 xs.length c6)) w5.heap.size w6.heap.size 2 1 A6 xs.length c6 (xs.map (Value.int .i64)) := (OwnC.farT o6 kr6 t1 1 _).farT (kr6.set31 (.int .i64 rn)) t1 2 _
    go_upto_region 11 with fail
    obtain ⟨w7, hw7⟩ : ∃ w7, w7 = (w6.setCell ⟨gr, 1, none⟩ (.int .i64 rn)).setCell ⟨gr, 2, none⟩ (.slice A6 xs.length c6) := ⟨_, rfl⟩
    have hz7 : w6.heap.size = w7.heap.size := by rw [hw7]; simp
    rw [← hw7] at hb7 kr7 kz7 o7 ⊢
    clear hw7 kr6 kz6 o6 hb6 f1 f2 g0 g1 g2 r0 r1 r2 y0 y1 y2
    have g0 := kz7.frozen 0
    have g1 := kz7.frozen 1
    have g2 := kz7.frozen 2
    obtain ⟨r0, r1, r2⟩ := kr7.c3
    obtain ⟨y0, y1, y2⟩ := kz7.c3
    have hzz : w.heap.size ≤ w5.heap.size := by omega
    have k1 := kz7.set30 (.int .i64 d)
    have k2 := k1.set31 (.int .i64 rn)
    have k3 := k2.set32 (.slice A6 xs.length c6)
    have HFO : Hid (OwnI (((w7.setCell ⟨w.heap.size, 0, none⟩ (.int .i64 d)).setCell ⟨w.heap.size, 1, none⟩ (.int .i64 rn)).setCell ⟨w.heap.size, 2, none⟩ (.slice A6 xs.length c6)) w.heap.size (((w7.setCell ⟨w.heap.size, 0, none⟩ (.int .i64 d)).setCell ⟨w.heap.size, 1, none⟩ (.int .i64 rn)).setCell ⟨w.heap.size, 2, none⟩ (.slice A6 xs.length c6)).heap.size A6 c6 xs) := Lib.hid (OwnC.mono (((OwnC.farT o7 kz7 t1 0 _).farT k1 t1 1 _).farT k2 t1 2 _) hzz (by simp; omega))
    have HFB : Hid (Below w.heap.size w (((w7.setCell ⟨w.heap.size, 0, none⟩ (.int .i64 d)).setCell ⟨w.heap.size, 1, none⟩ (.int .i64 rn)).setCell ⟨w.heap.size, 2, none⟩ (.slice A6 xs.length c6))) := Lib.hid (((hb7.setCell (Nat.le_refl _) _).setCell (Nat.le_refl _) _).setCell (Nat.le_refl _) _)
    obtain ⟨s0, s1, s2⟩ := k3.c3
    have HS := Lib.hid s0; have HS1 := Lib.hid s1; have HS2 := Lib.hid s2
    clear s0 s1 s2 k1 k2 k3 o7 hb7
    cases ro
    · go_wp2_with (fail)
      have s0 := HS.out
      have s1 := HS1.out
      have s2 := HS2.out
      refine bodyPost_ret (v := .tuple #[.agg #[.int .i64 d, .int .i64 rn, .slice A6 xs.length c6], .bool (rowI s).isSome]) (by rw [HFIN.out.1]; simp [results, Tryz.results26, go_sem, s0, s1, s2]) rfl ⟨d, rn, xs, A6, c6, rfl, HFIN.out.2, HFO.out, HP16.out, HFB.out⟩
    · go_wp2_with (fail)
      have s0 := HS.out
      have s1 := HS1.out
      have s2 := HS2.out
      refine bodyPost_ret (v := .tuple #[.agg #[.int .i64 d, .int .i64 rn, .slice A6 xs.length c6], .bool (rowI s).isSome]) (by rw [HFIN.out.1]; simp [results, Tryz.results26, go_sem, s0, s1, s2]) rfl ⟨d, rn, xs, A6, c6, rfl, HFIN.out.2, HFO.out, HP16.out, HFB.out⟩
  · have HF := Lib.hid (HN3.out h3)
    have hb3 : ((ws.length : Int) != 3) = true := by simp; omega
    have g0 := kz2.frozen 0
    have g1 := kz2.frozen 1
    have g2 := kz2.frozen 2
    obtain ⟨y0, y1, y2⟩ := kz2.c3
    clear h3 hws HN3 HR3 hw2
    go_wp2_with (fail)
    refine bodyPost_ret (v := .tuple #[.agg #[.int .i64 0, .int .i64 0, .slice none 0 0], .bool (rowI s).isSome]) (by rw [HF.out]; simp [results, Tryz.results26, go_sem, y0, y1, y2]) rfl ⟨0, 0, [], none, 0, rfl, fun q hq => by rw [HF.out] at hq; simp at hq, OwnC.nil _ _ _ _ _, by simp, ?_⟩
    (repeat (first | exact Below.refl _ _ | assumption | apply Below.drew | apply below_drewN | (refine Below.alloc ?_ (by first | omega | (simp; done) | (simp; omega)) _) | (refine Below.setCell ?_ (by first | omega | (simp; done) | (simp; omega)) _)))

end Go.Proofs.YtnjgmhdmjaijgaaGreatDoor

/- ReadColours: the given side. -/
namespace Go.Proofs.YtnjgmhdmjaijgaaGreatDoor
open Go Go.RowKit

theorem lnAt_size (s : ByteArray) (i : Nat) : ∀ l ∈ (lnAt s i).1, l.size ≤ s.size := by
  induction i with
  | zero => intro l hl; cases hl
  | succ i ih =>
    rw [lnAt]
    split
    · intro l hl
      rcases List.mem_append.1 hl with hl | hl
      · exact ih l hl
      · rw [List.mem_singleton.1 hl, ByteArray.size_extract]; omega
    · exact ih
def rowOfL (l : ByteArray) : List Int := l.data.toList.map digS
theorem rowOfL_length (l : ByteArray) : (rowOfL l).length = l.size := by rw [rowOfL, List.length_map, ← ba_size]
theorem rowOfL_at (l : ByteArray) (j : Nat) (h : j < l.size) : (rowOfL l).take (j + 1) = (rowOfL l).take j ++ [digS (l[j]'h)] := by
  apply take_snoc
  rw [rowOfL, List.getElem?_map, Array.getElem?_toList, Array.getElem?_eq_getElem h]
  rfl

end Go.Proofs.YtnjgmhdmjaijgaaGreatDoor

/- ReadColours: what strings.Split gives. -/
namespace Go.Proofs.YtnjgmhdmjaijgaaGreatDoor
open Go Go.RowKit

theorem ba_inj {a b : ByteArray} (h : a.data.toList = b.data.toList) : a = b := ByteArray.ext (Array.toList_inj.1 h)
theorem bas_inj : ∀ {xs ys : List ByteArray}, xs.map (·.data.toList) = ys.map (·.data.toList) → xs = ys
  | [], [], _ => rfl
  | [], _ :: _, h => by simp at h
  | _ :: _, [], h => by simp at h
  | x :: xs, y :: ys, h => by
    rw [List.map_cons, List.map_cons] at h
    injection h with h1 h2
    rw [ba_inj h1, bas_inj h2]
/-- What stands behind the last end of a line. -/
def restP (s : ByteArray) : ByteArray := s.extract (lnAt s s.size).2 s.size
theorem split_eq (s : ByteArray) : Lib.splitB ⟨#[10]⟩ 0 (Lib.countB s ⟨#[10]⟩) s = linesP s ++ [restP s] := by
  apply bas_inj
  have h := split_lines s
  have hc : Lib.countB s ⟨#[10]⟩ = Lib.count s.data.toList [10] := rfl
  rw [hc, h, List.map_append, List.map_cons, List.map_nil, restP, ext_list s _ s.size (Nat.le_refl _)]
  congr 2
  rw [List.take_of_length_le]
  rw [List.length_drop, ba_size]
  omega
theorem split_count (s : ByteArray) : Lib.countB s ⟨#[10]⟩ + 1 = (linesP s).length + 1 := by
  have h := Lib.splitB_all ⟨#[10]⟩ (by decide) 0 _ s rfl
  rw [split_eq, List.length_append] at h
  simp only [List.length_cons, List.length_nil] at h
  omega
theorem rest_ok (s : ByteArray) : linesOk s = (restP s).toList.isEmpty := by
  rw [lines_last, ByteArray.toList_eq, restP, ext_list s _ s.size (Nat.le_refl _)]
  rw [List.take_of_length_le (by rw [List.length_drop, ba_size]; omega)]
  cases s.data.toList.drop (lnAt s s.size).2 with
  | nil => rfl
  | cons => simp

theorem impl_Split (s : ByteArray) (m : Int) (w : World) (hl : s.size ≤ 1000000000) (hm : w.cell? SK_cell = some (.int .i64 m)) :
    Calls Tryz.prog 23 #[.string s, .string ⟨#[10]⟩] w fun e w' => e = .returned (.slice (some ⟨w.heap.size, 0, none⟩) ((linesP s).length + 1) ((linesP s).length + 1)) ∧ w' = w.alloc (.cells ((linesP s ++ [restP s]).map Value.string).toArray 9) := by
  have h := shelf_strings_Split s ⟨#[10]⟩ m w (by omega) hm (by decide)
  rw [split_eq, split_count] at h
  exact h

end Go.Proofs.YtnjgmhdmjaijgaaGreatDoor

/- Reading of charts, the program's side. -/
namespace Go.Proofs.YtnjgmhdmjaijgaaGreatDoor
open Go Go.RowKit

theorem rdI_len {s : ByteArray} (hn : ¬ (2 ≤ (linesP s).length ∧ (linesP s).length ≤ 9)) : rdI s = none := by
  unfold rdI
  cases hl : linesP s with
  | nil => rfl
  | cons h ls =>
    rw [hl, List.length_cons] at hn
    simp only
    rw [if_neg (by omega)]
theorem rdI_row {s h : ByteArray} {ls : List ByteArray} (hl : linesP s = h :: ls) (hn : optAll rowI ls = none) : rdI s = none := by
  unfold rdI
  rw [hl]
  simp only
  split
  · rw [hn]
  · rfl
theorem rdI_end {s h : ByteArray} {ls : List ByteArray} {rs : List RowD} (hl : linesP s = h :: ls) (h1 : 1 ≤ ls.length ∧ ls.length ≤ 8) (hn : optAll rowI ls = some rs) : rdI s = if ((rdDec (trimP h)).2 && chartB (rdDec (trimP h)).1 rs) && decide (chTo (rdDec (trimP h)).1 rs = s) then some ((rdDec (trimP h)).1, rs) else none := by
  unfold rdI
  rw [hl]
  simp only
  rw [if_pos h1, hn]
theorem trimP_size (h : ByteArray) : (trimP h).size ≤ h.size := by
  rw [ba_size, ba_size]
  unfold trimP
  rw [List.toList_toArray]
  unfold Lib.trimPrefix
  split
  · rw [List.length_drop]; omega
  · exact Nat.le_refl _
theorem optAll_lt {f : ByteArray → Option RowD} : ∀ {ls : List ByteArray} {l : ByteArray}, l ∈ ls → f l = none → optAll f ls = none := optAll_none

set_option maxHeartbeats 8000000 in
set_option maxRecDepth 10000 in
theorem impl_ReadChart (s : ByteArray) (w : World) (hl : s.size ≤ 1000000000) (hLw : Lw w) :
    Calls Tryz.prog 6 #[.string s] w fun e w' => ∃ A' c', e = .returned (.tuple #[.agg #[.int .i64 (rdN s), .slice A' (rdR s).length c'], .bool (rdOk s)]) ∧ OwnRows w' w.heap.size w'.heap.size A' (rdR s).length c' (rdR s) ∧ Below w.heap.size w w' := by
  have hb1 : Below w.heap.size w (w.alloc (.cells #[.int .i64 0, .slice none 0 0] 24)) := by (repeat (first | exact Below.refl _ _ | assumption | apply Below.drew | apply below_drewN | (refine Below.alloc ?_ (by first | omega | (simp; done) | (simp; omega)) _) | (refine Below.setCell ?_ (by first | omega | (simp; done) | (simp; omega)) _)))
  have t1 : (24 : TypeId) ≠ 2 := by decide
  have t2 : (24 : TypeId) ≠ 42 := by decide
  obtain ⟨iR, hi1, hy0, hy1, hy2⟩ := info_parts info_Row
  obtain ⟨m, hm⟩ := (hLw.below hb1).sp
  obtain ⟨w1, hw1⟩ : ∃ w1, w1 = w.alloc (.cells #[.int .i64 0, .slice none 0 0] 24) := ⟨_, rfl⟩
  have kz1 : Blk w1 w.heap.size 24 #[.int .i64 0, .slice none 0 0] := by rw [hw1]; exact Blk.new w _ _
  rw [← hw1] at hb1 hm
  have HSP := Lib.hid (impl_Split s m w1 hl hm)
  have hlsz := lnAt_sizes s s.size
  have HLS : Hid (∀ l ∈ linesP s, l.size ≤ 1000000000) := Lib.hid (fun l h => Nat.le_trans (hlsz l h) hl)
  have hL9 : (linesP s).length ≤ 1000000000 := Nat.le_trans (lnAt_le s s.size).2 hl
  have HLEN := Lib.hid (fun hn => rdI_len (s := s) hn)
  have HROW := Lib.hid (fun h ls hl hn => rdI_row (s := s) (h := h) (ls := ls) hl hn)
  have HEND := Lib.hid (fun h ls rs hl h1 hn => rdI_end (s := s) (h := h) (ls := ls) (rs := rs) hl h1 hn)
  clear hlsz hm
  go_enter Tryz.func6, Tryz.ntmps6
  go_upto_region 1 with fail
  rw [← hw1]
  clear hw1
  go_wp2_with (fail)
  refine HSP.out.mono ?_; rintro e w2 ⟨rfl, hw2⟩
  clear HSP
  generalize restP s = rest at hw2
  generalize linesP s = L at *
  have b2 : Below w1.heap.size w1 w2 := by rw [hw2]; (repeat (first | exact Below.refl _ _ | assumption | apply Below.drew | apply below_drewN | (refine Below.alloc ?_ (by first | omega | (simp; done) | (simp; omega)) _) | (refine Below.setCell ?_ (by first | omega | (simp; done) | (simp; omega)) _)))
  have kz2 := kz1.below b2 kz1.lt
  have hb2 : Below w.heap.size w w2 := hb1.trans (b2.mono hb1.size)
  have kS : Blk w2 w1.heap.size 9 ((L ++ [rest]).map Value.string).toArray := by rw [hw2]; exact Blk.new w1 _ _
  obtain ⟨gS, hgS⟩ : ∃ gS, gS = w1.heap.size := ⟨_, rfl⟩
  have hgS1 : w.heap.size < gS := by rw [hgS]; exact kz1.lt
  rw [← hgS] at kS ⊢
  have hgS2 := kS.lt
  clear hw2 b2 kz1 hb1 hgS
  by_cases hn2 : 2 ≤ L.length ∧ L.length ≤ 9
  · obtain ⟨h, ls, rfl⟩ : ∃ h ls, L = h :: ls := by
      cases L with
      | nil => simp at hn2
      | cons h ls => exact ⟨h, ls, rfl⟩
    have hll : 1 ≤ ls.length ∧ ls.length ≤ 8 := by rw [List.length_cons] at hn2; omega
    have HE := Lib.hid (fun rs hn => HEND.out h ls rs rfl hll hn)
    have HR := Lib.hid (fun hn => HROW.out h ls rfl hn)
    have hc0 : w2.cell? ⟨gS, 0, none⟩ = some (.string h) := by rw [kS.cell]; rfl
    have HLC : Hid (∀ k l, ls[k]? = some l → w2.cell? ⟨gS, 1 + k, none⟩ = some (.string l)) := Lib.hid (fun k l hk => by
      rw [kS.cell, List.getElem?_toArray, List.getElem?_map, show 1 + k = k + 1 by omega]
      simp only [List.cons_append, List.getElem?_cons_succ]
      rw [List.getElem?_append_left (List.getElem?_eq_some_iff.1 hk).1, hk]
      rfl)
    have HLSZ : Hid (∀ l ∈ ls, l.size ≤ 1000000000) := Lib.hid (fun l hl => HLS.out l (by simp [hl]))
    have hhs := HLS.out h (by simp)
    have htz : (trimP h).size ≤ 1000000000 := Nat.le_trans (trimP_size h) hhs
    have hNN : (h :: ls).length = ls.length + 1 := rfl
    obtain ⟨N, hN⟩ : ∃ N, N = (h :: ls).length := ⟨_, rfl⟩
    rw [← hN]
    have HN : Hid (N = ls.length + 1) := Lib.hid (by rw [hN]; rfl)
    have hN2 : 2 ≤ N ∧ N ≤ 9 := by have := HN.out; omega
    clear hN hNN kS HLS HLEN HEND HROW hn2
    have d3 : decide ((N : Int) + 1 < 3) = false := decide_eq_false (by omega)
    have d10 : decide ((N : Int) + 1 > 10) = false := decide_eq_false (by omega)
    have i0 : (0 : Int) < (N : Int) + 1 := by omega
    have HTP := Lib.hid (shelf_strings_TrimPrefix h ⟨#[99, 104, 97, 114, 116, 32]⟩)
    have HDC := Lib.hid (fun W (hW : Lw W) => impl_ReadDecimal (trimP h) W htz hW)
    obtain ⟨rd, hrd⟩ : ∃ rd, rd = rdDec (trimP h) := ⟨_, rfl⟩
    rw [← hrd] at HDC HE
    have hL2 := hLw.below hb2
    clear hrd
    obtain ⟨cn, ok⟩ := rd
    simp only at HDC HE
    go_wp2_with (fail)
    refine (HTP.out _).mono ?_; rintro e _ ⟨rfl, rfl⟩
    go_wp2_with (fail)
    refine (HDC.out _ hL2).mono ?_; rintro e w3 ⟨rfl, b3⟩
    have kz3 := kz2.below b3 kz2.lt
    have hb3 : Below w.heap.size w w3 := hb2.trans (b3.mono hb2.size)
    have HLC3 : Hid (∀ W, Below w3.heap.size w3 W → ∀ k l, ls[k]? = some l → W.cell? ⟨gS, 1 + k, none⟩ = some (.string l)) := Lib.hid (fun W hW k l hk => cells_below hW _ _ (cells_below b3 _ _ (HLC.out k l hk)))
    clear kz2 hc0 b3 hL2 HLC HDC HTP hgS2
    obtain ⟨w4, hw4⟩ : ∃ w4, w4 = w3.alloc (.cells #[.int .i64 cn, .slice none 0 0] 24) := ⟨_, rfl⟩
    obtain ⟨gC, hgC⟩ : ∃ gC, gC = w3.heap.size := ⟨_, rfl⟩
    have kx4 : Blk w4 gC 24 #[.int .i64 cn, .slice none 0 0] := by rw [hw4, hgC]; exact Blk.new w3 _ _
    have kz4 : Blk w4 w.heap.size 24 #[.int .i64 0, .slice none 0 0] := by rw [hw4]; exact kz3.alloc _
    have hzC : w.heap.size < gC := by rw [hgC]; exact kz3.lt
    have hbc4 : Below gC w3 w4 := by rw [hw4, hgC]; exact (Below.refl _ _).alloc (Nat.le_refl _) _
    have HCB : Hid (∀ W, Below gC w3 W → Below w3.heap.size w3 W) := Lib.hid (fun W hW => by rw [← hgC]; exact hW)
    have HCW : Hid (∀ W, Below gC w3 W → Below w.heap.size w W) := Lib.hid (fun W hW => hb3.trans (hW.mono (by omega)))
    have HCL : Hid (∀ W, Below gC w3 W → Lw W) := Lib.hid (fun W hW => hLw.below (HCW.out W hW))
    have hlx := kx4.lt
    have hG4 : GrowInv cn gC (gC + 1) w4 0 [] := ⟨rfl, by omega, by omega, none, 0, [], kx4, OwnC.nil _ _ _ _ _, CellsRows.nil⟩
    have wN : IntKind.i64.wrap ((N : Int) + 1 - 1) = (N : Int) := by rw [show (N : Int) + 1 - 1 = (N : Int) by omega]; exact IntWalk.i64_in _ ⟨by omega, by omega⟩
    have s1 : (1 : Int) ≤ (N : Int) := by omega
    have s2 : (N : Int) ≤ (N : Int) + 1 := by omega
    have s3 : ((N : Int) - 1).toNat = ls.length := by have := HN.out; omega
    have s4 : N - 1 = ls.length := by have := HN.out; omega
    have s5 : ¬ N + 1 - 1 = 0 := by omega
    go_upto_region 6 with fail
    rw [← hw4, ← hgC]
    clear hw4 hgC kz3 kx4 hb3
    go_upto_region 7 with fail
    go_loopw [39] (fun iv wr => ∃ (k : Nat) (done : List RowD), k ≤ ls.length ∧ iv = .int .i64 (k : Int) ∧ Blk wr w.heap.size 24 #[.int .i64 0, .slice none 0 0] ∧ GrowInv cn gC (gC + 1) wr k done ∧ Hid (optAll rowI (ls.take k) = some done) ∧ Below gC w3 wr) (fun iv _ => ls.length - (intOf iv).toNat)
    case atStart => exact ⟨0, [], Nat.zero_le _, rfl, kz4, hG4, Lib.hid rfl, hbc4⟩
    case round =>
      clear kz4 hG4 hbc4 hlx
      obtain ⟨k, done, hk, rfl, kz, hG, HDONE, hbc⟩ := hrel
      obtain ⟨hdl, hlt, hlo, A', c', cs, kb, ho, hcr⟩ := hG
      by_cases hkl : k < ls.length
      · have hx : ls[k]? = some (ls[k]'hkl) := List.getElem?_eq_getElem _
        obtain ⟨l, hle⟩ : ∃ l, l = ls[k]'hkl := ⟨_, rfl⟩
        rw [← hle] at hx
        clear hle
        have hcl := HLC3.out wr (HCB.out _ hbc) k l hx
        have hls := HLSZ.out l (List.mem_of_getElem? hx)
        have HX := Lib.hid hx; clear hx
        have dk : decide ((k : Int) < (ls.length : Int)) = true := decide_eq_true (by omega)
        have j1 : (0 : Int) ≤ (k : Int) := by omega
        have j2 : (k : Int) < (ls.length : Int) := by omega
        obtain ⟨hW, hhW⟩ : ∃ hW, hW = wr.heap.size := ⟨_, rfl⟩
        have HRO := Lib.hid (impl_rowOf l wr hls (HCL.out _ hbc))
        have HNO := Lib.hid (fun hn : rowI l = none => HR.out (optAll_none (List.mem_of_getElem? HX.out) hn))
        go_wp2_with (fail)
        refine HRO.out.mono ?_; rintro e w5 ⟨d, r, xs, A5, c5, rfl, hrw, o5, hx16, b5⟩
        have kz5 := kz.below b5 kz.lt
        have kb5 := kb.below b5 kb.lt
        have hbc5 : Below gC w3 w5 := hbc.trans (b5.mono (by omega))
        have hz5 := b5.size
        have ho5 : OwnC w5 (gC + 1) hW 42 3 A' k c' cs := by rw [hhW]; exact ho.below b5 (Nat.le_refl _)
        have hcr5 : CellsRows w5 (gC + 1) hW cs done := by rw [hhW]; exact hcr.keep fun q _ h2 _ => b5.block q (by omega)
        rw [← hhW] at o5 hlo hz5
        clear kz kb ho hcr hbc b5 HRO hhW
        obtain ⟨w6, hw6⟩ : ∃ w6, w6 = w5.alloc (.cells #[.int .i64 d, .int .i64 r, .slice A5 xs.length c5] 42) := ⟨_, rfl⟩
        obtain ⟨gr, hgr⟩ : ∃ gr, gr = w5.heap.size := ⟨_, rfl⟩
        have kr : Blk w6 gr 42 #[.int .i64 d, .int .i64 r, .slice A5 xs.length c5] := by rw [hw6, hgr]; exact Blk.new w5 _ _
        have kz : Blk w6 w.heap.size 24 #[.int .i64 0, .slice none 0 0] := by rw [hw6]; exact kz5.alloc _
        have kb : Blk w6 gC 24 #[.int .i64 cn, .slice A' k c'] := by rw [hw6]; exact kb5.alloc _
        have ho : OwnC w6 (gC + 1) hW 42 3 A' k c' cs := by rw [hw6]; exact ho5.alloc _
        have hcr : CellsRows w6 (gC + 1) hW cs done := by rw [hw6]; exact hcr5.keep fun q _ _ h3 => Below.heap_alloc w5 _ q h3
        have hbc : Below gC w3 w6 := by rw [hw6]; exact Below.alloc hbc5 (by omega) _
        have hWc : hW ≤ w6.heap.size := by rw [hw6]; simp; omega
        have o4' : OwnI w6 hW w6.heap.size A5 c5 xs := by rw [hw6]; exact OwnC.mono (OwnC.alloc o5 _) (Nat.le_refl _) (by simp)
        cases hri : (rowI l).isSome
        · have HRN : Hid (rdI s = none) := Lib.hid (HNO.out (by cases hh : rowI l with | none => rfl | some q => rw [hh] at hri; simp at hri))
          go_upto_region 10 with fail
          (try rw [hri])
          rw [← hw6]
          clear hw6 hgr kz5 kb5 ho5 hcr5 o5 hbc5
          clear hri hrw
          have HF := Lib.hid (rd_none' (by rw [← rd_eq]; exact HRN.out))
          have g0 := kz.frozen 0
          have g1 := kz.frozen 1
          obtain ⟨r0, r1⟩ := kz.c2
          go_wp2_with (fail)
          refine bodyPost_ret (v := .tuple #[.agg #[.int .i64 (rdN s), .slice none (rdR s).length 0], .bool (rdOk s)]) (by rw [HF.out.1, HF.out.2.1, HF.out.2.2]; simp [results, Tryz.results6, go_sem, r0, r1]) rfl ⟨none, 0, rfl, ?_, ?_⟩
          · rw [HF.out.2.1]; exact OwnRows.nil _ _ _
          · have hbb := HCW.out _ hbc
            (repeat (first | exact Below.refl _ _ | assumption | apply Below.drew | apply below_drewN | (refine Below.alloc ?_ (by first | omega | (simp; done) | (simp; omega)) _) | (refine Below.setCell ?_ (by first | omega | (simp; done) | (simp; omega)) _)))
        · have hrl : rowI l = some ⟨d, r, xs⟩ := by
            cases hh : rowI l with
            | none => rw [hh] at hri; simp at hri
            | some q => rw [hrw q hh]
          have HSNOC : Hid (optAll rowI (ls.take (k + 1)) = some (done ++ [⟨d, r, xs⟩])) := Lib.hid (by rw [take_snoc HX.out]; exact optAll_snoc HDONE.out hrl)
          have hk9 : k ≤ 1000000001 := by omega
          have hlo2 : gC + 1 ≤ w6.heap.size := by omega
          go_upto_region 10 with fail
          (try rw [hri])
          rw [← hw6]
          rw [← hgr]
          clear hw6 hgr kz5 kb5 ho5 hcr5 o5 hbc5 hri hrw hrl
          obtain ⟨z0, z1, z2⟩ := kr.c3
          obtain ⟨s0, s1'⟩ := kb.c2
          go_wp2_with (at_builtin; refine wpList_append1 w6 [.int .i64 d, .int .i64 r, .slice A5 xs.length c5] _ rfl (.tmp 52) (.tmp 54) _ rfl 42 iR _ 3 40 Tryz.underlying22 hi1 hy0 hy1 hy2 rfl (by decide) rfl ho hlo2 1 rfl rfl (by simp [Value.oneCell']) (by omega) (by decide) ?_; intro A9 c9 w8 ho8 hg8 hb8 hz8; have kb8 := (kb.alloc (.cells #[.int .i64 d, .int .i64 r, .slice A5 xs.length c5] 42)).grownT (ho.alloc (.cells #[.int .i64 d, .int .i64 r, .slice A5 xs.length c5] 42)) t2 hg8; obtain ⟨x0', x1'⟩ := kb8.c2; have f1 := kb8.frozen 1)
          have kz8 := (kz.alloc (.cells #[.int .i64 d, .int .i64 r, .slice A5 xs.length c5] 42)).grownT (ho.alloc (.cells #[.int .i64 d, .int .i64 r, .slice A5 xs.length c5] 42)) t2 hg8
          have gi' := GrowInv.step ⟨d, r, xs⟩ hdl hlt hlo hWc kb ho hcr o4' ho8 hg8 hz8
          refine ⟨⟨k + 1, done ++ [⟨d, r, xs⟩], by omega, by go_num, kz8.far (p := ⟨gC, 1, none⟩) (by show w.heap.size ≠ gC; omega) _, gi', HSNOC, ?_⟩, by first | (simp [intOf]; done) | (simp [intOf]; omega)⟩
          exact (hbc.trans (hb8.mono (by omega))).setCell (by show gC ≤ gC; omega) _
      · obtain rfl : k = ls.length := by omega
        have dk : decide ((ls.length : Int) < (ls.length : Int)) = false := decide_eq_false (by omega)
        have HDN : Hid (optAll rowI ls = some done) := Lib.hid (by have := HDONE.out; rwa [take_all (Nat.le_refl _)] at this)
        have HEE := Lib.hid (HE.out done HDN.out)
        have oo : OwnRows wr (gC + 1) wr.heap.size A' ls.length c' done := ⟨cs, ho, hcr⟩
        rw [← hdl] at oo kb
        have hdn : done.length ≤ 9 := by omega
        have hbw := HCW.out _ hbc
        clear HDN HDONE ho hcr hbc
        have HDL := Lib.hid hdl; clear hdl
        obtain ⟨s0, s1'⟩ := kb.c2
        cases ok
        · have HRN : Hid (rdI s = none) := Lib.hid (by rw [HEE.out]; rfl)
          have HF := Lib.hid (rd_none' (by rw [← rd_eq]; exact HRN.out))
          have g0 := kz.frozen 0
          have g1 := kz.frozen 1
          obtain ⟨r0, r1⟩ := kz.c2
          go_wp2_with (fail)
          refine bodyPost_ret (v := .tuple #[.agg #[.int .i64 (rdN s), .slice none (rdR s).length 0], .bool (rdOk s)]) (by rw [HF.out.1, HF.out.2.1, HF.out.2.2]; simp [results, Tryz.results6, go_sem, r0, r1]) rfl ⟨none, 0, rfl, ?_, ?_⟩
          · rw [HF.out.2.1]; exact OwnRows.nil _ _ _
          · have hbb := hbw
            (repeat (first | exact Below.refl _ _ | assumption | apply Below.drew | apply below_drewN | (refine Below.alloc ?_ (by first | omega | (simp; done) | (simp; omega)) _) | (refine Below.setCell ?_ (by first | omega | (simp; done) | (simp; omega)) _)))
        · go_wp2_with (fail)
          refine (impl_ValidChart cn done A' c' wr oo.rowsR (by omega)).mono ?_; rintro e w9 ⟨rfl, b9⟩
          have kz9 := kz.below b9 kz.lt
          have kb9 := kb.below b9 kb.lt
          have o9 := oo.below b9 (Nat.le_refl _)
          have hb9 : Below w.heap.size w w9 := hbw.trans (b9.mono hbw.size)
          have hz9 := b9.size
          clear kz kb oo hbw b9 s0 s1'
          cases hcv : chartB cn done
          · have HRN : Hid (rdI s = none) := Lib.hid (by rw [HEE.out, hcv]; rfl)
            clear hcv
            have HF := Lib.hid (rd_none' (by rw [← rd_eq]; exact HRN.out))
            have g0 := kz9.frozen 0
            have g1 := kz9.frozen 1
            obtain ⟨r0, r1⟩ := kz9.c2
            go_wp2_with (fail)
            refine bodyPost_ret (v := .tuple #[.agg #[.int .i64 (rdN s), .slice none (rdR s).length 0], .bool (rdOk s)]) (by rw [HF.out.1, HF.out.2.1, HF.out.2.2]; simp [results, Tryz.results6, go_sem, r0, r1]) rfl ⟨none, 0, rfl, ?_, ?_⟩
            · rw [HF.out.2.1]; exact OwnRows.nil _ _ _
            · have hbb := hb9
              (repeat (first | exact Below.refl _ _ | assumption | apply Below.drew | apply below_drewN | (refine Below.alloc ?_ (by first | omega | (simp; done) | (simp; omega)) _) | (refine Below.setCell ?_ (by first | omega | (simp; done) | (simp; omega)) _)))
          · obtain ⟨s0, s1'⟩ := kb9.c2
            have HCV := Lib.hid hcv
            clear hcv
            go_wp2_with (fail)
            refine (impl_chartText cn done A' c' w9 o9.rowsR HCV.out).mono ?_; rintro e w10 ⟨rfl, b10⟩
            have kz10 := kz9.below b10 kz9.lt
            have kb10 := kb9.below b10 kb9.lt
            have o10 := o9.below b10 hz9
            have hb10 : Below w.heap.size w w10 := hb9.trans (b10.mono hb9.size)
            have hz10 := b10.size
            clear kz9 kb9 o9 hb9 b10 s0 s1'
            obtain ⟨T, hT⟩ : ∃ T, T = chTo cn done := ⟨_, rfl⟩
            rw [← hT]
            have HEF : Hid (rdI s = if decide (T = s) = true then some (cn, done) else none) := Lib.hid (by rw [HEE.out, HCV.out, hT]; simp)
            clear hT
            by_cases hTs : T = s
            · have hbs : (T.toList == s.toList) = true := by rw [hTs]; simp
              have HF := Lib.hid (rd_some' (show rdS s = some (cn, done) by rw [← rd_eq, HEF.out, if_pos (decide_eq_true hTs)]))
              clear hTs
              have g0 := kz10.frozen 0
              have g1 := kz10.frozen 1
              obtain ⟨y0, y1⟩ := kz10.c2
              obtain ⟨s0, s1'⟩ := kb10.c2
              have k1 := kz10.set20 (.int .i64 cn)
              have k2 := k1.set21 (.slice A' done.length c')
              have HO : Hid (OwnRows ((w10.setCell ⟨w.heap.size, 0, none⟩ (.int .i64 cn)).setCell ⟨w.heap.size, 1, none⟩ (.slice A' done.length c')) w.heap.size ((w10.setCell ⟨w.heap.size, 0, none⟩ (.int .i64 cn)).setCell ⟨w.heap.size, 1, none⟩ (.slice A' done.length c')).heap.size A' done.length c' done) := Lib.hid (((o10.farT kz10 t1 t2 0 _).farT k1 t1 t2 1 _).mono (by omega) (by simp; omega))
              have HBB : Hid (Below w.heap.size w ((w10.setCell ⟨w.heap.size, 0, none⟩ (.int .i64 cn)).setCell ⟨w.heap.size, 1, none⟩ (.slice A' done.length c'))) := Lib.hid ((hb10.setCell (Nat.le_refl _) _).setCell (Nat.le_refl _) _)
              obtain ⟨v0, v1⟩ := k2.c2
              have HV0 := Lib.hid v0; have HV1 := Lib.hid v1
              clear v0 v1 k1 k2 o10 hb10
              go_wp2_with (fail)
              have r0 := HV0.out
              have r1 := HV1.out
              refine bodyPost_ret (v := .tuple #[.agg #[.int .i64 cn, .slice A' done.length c'], .bool true]) (by simp [results, Tryz.results6, go_sem, r0, r1]) rfl ⟨A', c', by rw [HF.out.1, HF.out.2.1, HF.out.2.2], by rw [HF.out.2.1]; exact HO.out, HBB.out⟩
            · have hbs : (T.toList == s.toList) = false := by
                rw [beq_eq_false_iff_ne]
                intro e
                exact hTs (ba_toList e)
              have HRN : Hid (rdI s = none) := Lib.hid (by rw [HEF.out, if_neg (by simp [hTs])])
              clear hTs
              obtain ⟨s0, s1'⟩ := kb10.c2
              have HF := Lib.hid (rd_none' (by rw [← rd_eq]; exact HRN.out))
              have g0 := kz10.frozen 0
              have g1 := kz10.frozen 1
              obtain ⟨r0, r1⟩ := kz10.c2
              go_wp2_with (fail)
              refine bodyPost_ret (v := .tuple #[.agg #[.int .i64 (rdN s), .slice none (rdR s).length 0], .bool (rdOk s)]) (by rw [HF.out.1, HF.out.2.1, HF.out.2.2]; simp [results, Tryz.results6, go_sem, r0, r1]) rfl ⟨none, 0, rfl, ?_, ?_⟩
              · rw [HF.out.2.1]; exact OwnRows.nil _ _ _
              · have hbb := hb10
                (repeat (first | exact Below.refl _ _ | assumption | apply Below.drew | apply below_drewN | (refine Below.alloc ?_ (by first | omega | (simp; done) | (simp; omega)) _) | (refine Below.setCell ?_ (by first | omega | (simp; done) | (simp; omega)) _)))
  · have HB := Lib.hid (HLEN.out hn2)
    clear HEND HROW HLEN HLS
    generalize L.length = N at *
    by_cases h3 : N + 1 < 3
    · have d3 : decide ((N : Int) + 1 < 3) = true := decide_eq_true (by omega)
      clear h3 hn2
      have HF := Lib.hid (rd_none' (by rw [← rd_eq]; exact HB.out))
      have g0 := kz2.frozen 0
      have g1 := kz2.frozen 1
      obtain ⟨r0, r1⟩ := kz2.c2
      go_wp2_with (fail)
      refine bodyPost_ret (v := .tuple #[.agg #[.int .i64 (rdN s), .slice none (rdR s).length 0], .bool (rdOk s)]) (by rw [HF.out.1, HF.out.2.1, HF.out.2.2]; simp [results, Tryz.results6, go_sem, r0, r1]) rfl ⟨none, 0, rfl, ?_, ?_⟩
      · rw [HF.out.2.1]; exact OwnRows.nil _ _ _
      · have hbb := hb2
        (repeat (first | exact Below.refl _ _ | assumption | apply Below.drew | apply below_drewN | (refine Below.alloc ?_ (by first | omega | (simp; done) | (simp; omega)) _) | (refine Below.setCell ?_ (by first | omega | (simp; done) | (simp; omega)) _)))
    · have d3 : decide ((N : Int) + 1 < 3) = false := decide_eq_false (by omega)
      have d10 : decide ((N : Int) + 1 > 10) = true := decide_eq_true (by omega)
      clear h3 hn2
      have HF := Lib.hid (rd_none' (by rw [← rd_eq]; exact HB.out))
      have g0 := kz2.frozen 0
      have g1 := kz2.frozen 1
      obtain ⟨r0, r1⟩ := kz2.c2
      go_wp2_with (fail)
      refine bodyPost_ret (v := .tuple #[.agg #[.int .i64 (rdN s), .slice none (rdR s).length 0], .bool (rdOk s)]) (by rw [HF.out.1, HF.out.2.1, HF.out.2.2]; simp [results, Tryz.results6, go_sem, r0, r1]) rfl ⟨none, 0, rfl, ?_, ?_⟩
      · rw [HF.out.2.1]; exact OwnRows.nil _ _ _
      · have hbb := hb2
        (repeat (first | exact Below.refl _ _ | assumption | apply Below.drew | apply below_drewN | (refine Below.alloc ?_ (by first | omega | (simp; done) | (simp; omega)) _) | (refine Below.setCell ?_ (by first | omega | (simp; done) | (simp; omega)) _)))

end Go.Proofs.YtnjgmhdmjaijgaaGreatDoor

/- ReadChart: what both functions return. -/
namespace Go.Proofs.YtnjgmhdmjaijgaaGreatDoor
open Go Go.RowKit

/-- What the library's variables hold; the number is of no account. -/
def CellAt (w : World) (_m : Int) : Prop := Lw w
theorem CellAt.below {w w' : World} {m : Int} (h : CellAt w m) (hb : Below w.heap.size w w') : CellAt w' m := Lw.below h hb
def rdX (s : ByteArray) : ChX := ⟨rdN s, rdR s⟩
theorem rdX_size (s : ByteArray) : (rdX s).xs.length ≤ 9 ∧ cntRows (rdX s).xs ≤ 1000 := rdR_size s

theorem impl_ReadChartX (s : ByteArray) (m : Int) (w : World) (hl : s.size ≤ 1000000000) (hm : CellAt w m) :
    Calls Tryz.prog 6 #[.string s] w fun e w' => ∃ A' c', e = .returned (.tuple #[.agg #[.int .i64 (rdX s).n, .slice A' (rdX s).xs.length c'], .bool (rdOk s)]) ∧ OwnRows w' w.heap.size w'.heap.size A' (rdX s).xs.length c' (rdX s).xs ∧ Below w.heap.size w w' := impl_ReadChart s w hl hm
theorem spec_ReadChartX (s : ByteArray) (w : World) (hl : s.size ≤ 1000000000) :
    Calls Tryz.prog 5 #[.string s] w fun e w' => ∃ A' c', e = .returned (.tuple #[.agg #[.int .i64 (rdX s).n, .slice A' (rdX s).xs.length c'], .bool (rdOk s)]) ∧ OwnRows w' w.heap.size w'.heap.size A' (rdX s).xs.length c' (rdX s).xs ∧ Below w.heap.size w w' := spec_ReadChart s w hl

end Go.Proofs.YtnjgmhdmjaijgaaGreatDoor

/- Doors: what a row of the '.ZD' seat hands its proof: the shape of the world, and what its listed variables hold. -/
namespace Go.Proofs.YtnjgmhdmjaijgaaGreatDoor
open Go Go.RowKit

section
variable {H : Type} {enc : TypeId × Value → H}
theorem handed_shapedX_and {a : Assume} {C : Checked} {os : Os} {f : FuncId} {fn : Func} {s : ChangeSpec} {conds : List PathCond} {apart fresh handsOn again : Bool} {X : World → Array Value → Prop}
    (hX : ∀ (w w' : World) (args : Array Value), w.heap = w'.heap → X w args → X w' args)
    (own : ownKnob C.prog.godebug = none) (started : os.Started) (noInit : C.prog.inits.idxOf? f = none) (hfn : C.prog.funcs[f]? = some fn)
    (witness : ∃ (w : World) (tape : Tape) (i : Input), w.os = os ∧ (w.forCall tape i).Shaped C.prog ∧ i.vars = [] ∧ Input.okWide C.prog (w.forCall tape i) .any w.heap.size f i ∧
      ((s.pre enc C.prog fn conds apart (w.forCall tape i).memory i.args ∧ X (w.forCall tape i).memory i.args) ∧ sizedMet enc C.prog fn (OpenSpec.ofChange s) apart (w.forCall tape i).memory i.args) ∧ a.holds C.prog (lone (Frame.enter C.prog f i.args .normal) [] (w.forCall tape i)))
    (contract : ∀ (W : World) (base : Nat) (args : Array Value) (ds gs : List (DataW H)) (before : List MemPlace),
      (∀ (j : Nat) t v, fn.params[j]? = some t → args[j]? = some v → Value.okWide C.prog W .any base t v) →
      DataW.Whole enc C.prog fn.params.toList s.vars apart W args.toList ds gs before →
      W.ShapedOpen C.prog → X W args →
      Calls C.prog f args W fun e W' => ∃ v, e = .returned v ∧ s.post enc C.prog fn apart fresh handsOn again W args v W') :
    ReturnsInHanded a C os f .any (fun w args => (s.pre enc C.prog fn conds apart w args ∧ X w args) ∧ sizedMet enc C.prog fn (OpenSpec.ofChange s) apart w args) (s.post enc C.prog fn apart fresh handsOn again) := by
  refine returnsInHanded_of_calls own started noInit witness ?_
  intro w tape i _ hsh _ hok hpre _
  obtain ⟨_, _, _, fn', hfn', _, _, _, _, hval⟩ := hok
  have e : fn' = fn := Option.some.inj (hfn'.symm.trans hfn)
  subst e
  obtain ⟨⟨⟨ds, gs, before, hw, hc⟩, hx⟩, hz⟩ := hpre
  have hw' := DataW.Whole.of_heap (w' := w.forCall tape i) (by rfl) hw
  refine (contract (w.forCall tape i) w.heap.size i.args ds gs before hval hw' hsh (hX _ _ _ (by rfl) hx)).mono fun e W' ⟨v, he, hp⟩ => ?_
  subst he
  exact ChangeSpec.post_blind hp
end

/-- What the rows of this seat list. -/
def laidL : List (String × DataW Unit) := [("math/bits.deBruijn32tab", Rows.laid_math_bits_deBruijn32tab), ("math/bits.deBruijn64tab", Rows.laid_math_bits_deBruijn64tab), ("internal/strconv.uint64pow10", Rows.laid_internal_strconv_uint64pow10), ("unicode/utf8.acceptRanges", Rows.laid_unicode_utf8_acceptRanges), ("strconv.ErrRange", Rows.laid_strconv_ErrRange), ("strconv.ErrSyntax", Rows.laid_strconv_ErrSyntax), ("unicode/utf8.first", Rows.laid_unicode_utf8_first)]
theorem star_err : "*" ++ "errors.errorString" = "*errors.errorString" := by decide
theorem row_err (u : TypeId) (h : Tryz.prog.typeName? 3 u = some "*errors.errorString") : u = 154 :=
  typeName_ptr_named (nm := "errors.errorString") (by rw [star_err]; kernel_rfl) (by kernel_rfl) (by decide) u (by rw [star_err]; exact h)
theorem pow10_data : (Rows.laid_internal_strconv_uint64pow10 : DataW Unit) = Lib.tabData .u64 Lib.pow10Tab := by kernel_rfl
theorem lw_of {W : World} (hsh : W.ShapedOpen Tryz.prog) (h : laidMetH Tryz.prog laidL W) : Lw W := by
  rw [MakeChecks.laidMetH_plain _ _ _ (by kernel_rfl)] at h
  have h3 := h.tail.tail
  have h4 := h.tail.tail.tail.tail
  obtain ⟨a1, s1, hv1, _, _, _⟩ := laid_sentinel (g := 2) h4 (by kernel_rfl) (by kernel_rfl) Tryz.underlying80 row_err Tryz.underlying154 Tryz.underlying156 rfl rfl Tryz.underlying9 (by kernel_rfl) (by kernel_rfl)
  obtain ⟨a2, s2, hv2, _, _, _⟩ := laid_sentinel (g := 1) h4.tail (by kernel_rfl) (by kernel_rfl) Tryz.underlying80 row_err Tryz.underlying154 Tryz.underlying156 rfl rfl Tryz.underlying9 (by kernel_rfl) (by kernel_rfl)
  rw [pow10_data] at h3
  exact ⟨split_cell hsh, ⟨_, _, hv2⟩, ⟨_, _, hv1⟩, Lib.tabIs_of_head (g := 5) (by kernel_rfl) (by kernel_rfl) Tryz.underlying158 Tryz.underlying89 (by kernel_rfl) (by kernel_rfl) h3⟩

end Go.Proofs.YtnjgmhdmjaijgaaGreatDoor
