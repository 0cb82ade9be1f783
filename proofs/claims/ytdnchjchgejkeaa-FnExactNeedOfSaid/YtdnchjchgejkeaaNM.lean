/- measure, eachPiece and the closure between them. -/
import Derived.Test.YtdnchjchgejkeaaNS
import Derived.Test.YtdnchjchgejkeaaVR
import Derived.RegionTactic
namespace Go.Proofs.Ytdnchjchgejkeaa
open Go.RowKit

/-- The four sums that measure keeps in boxes. -/
structure Boxes (w : World) (g : Nat) (C S O1 O2 : Int) : Prop where
  b0 : Blk w g 2 #[.int .i64 C]
  b1 : Blk w (g + 1) 2 #[.int .i64 S]
  b2 : Blk w (g + 2) 2 #[.int .i64 O1]
  b3 : Blk w (g + 3) 2 #[.int .i64 O2]
set_option maxHeartbeats 2000000 in
theorem measure1_plain (p : PieceD) (A' : Option Addr) (n c' g : Nat) (C S O1 O2 : Int) (w : World) (hb : Boxes w g C S O1 O2) (hk : p.kind ≠ 12) :
    Calls Try.prog 151 #[.agg #[.int .i64 p.kind, .int .i64 p.times, .int .i64 p.len], .slice A' n c', .pointer (some ⟨g, 0, none⟩), .pointer (some ⟨g + 1, 0, none⟩), .pointer (some ⟨g + 2, 0, none⟩), .pointer (some ⟨g + 3, 0, none⟩)] w fun e w' =>
      e = .returned (.tuple #[]) ∧ Boxes w' g (wrap64 (C + wrap64 (p.times * takenB p.kind))) (wrap64 (S + p.times)) O1 O2 ∧ Below g w w' := by
  have hk' : (p.kind != 12) = true := by simp [hk]
  obtain ⟨h0, h1, h2, h3⟩ := hb
  have l3 := h3.lt
  have hba : Below g w (w.alloc (.cells #[.int .i64 p.kind, .int .i64 p.times, .int .i64 p.len] 102)) := (Below.refl _ _).alloc (by omega) _
  have k0 := h0.alloc (.cells #[.int .i64 p.kind, .int .i64 p.times, .int .i64 p.len] 102)
  have k1 := h1.alloc (.cells #[.int .i64 p.kind, .int .i64 p.times, .int .i64 p.len] 102)
  have k2 := h2.alloc (.cells #[.int .i64 p.kind, .int .i64 p.times, .int .i64 p.len] 102)
  have k3 := h3.alloc (.cells #[.int .i64 p.kind, .int .i64 p.times, .int .i64 p.len] 102)
  have kp := Blk.new w 102 #[.int .i64 p.kind, .int .i64 p.times, .int .i64 p.len]
  obtain ⟨u0, u1, u2⟩ := kp.c3
  have c0 := k0.c1
  have f0 := k0.frozen 0
  have c1 := k1.c1
  have f1 := k1.frozen 0
  have n1 : w.heap.size ≠ g := by omega
  have n2 : g + 1 ≠ g := by omega
  clear hk
  go_enter Try.func151, Try.ntmps151
  go_wp2_with (fail)
  go_region_law (go_simp; go_at_call 126; refine (impl_ColumnsTaken _ _).mono ?_; rintro e _ ⟨rfl, rfl⟩)
  all_goals
    have m1 := k1.far (p := ⟨g, 0, none⟩) (by show g + 1 ≠ g; omega) (.int .i64 (wrap64 (C + wrap64 (p.times * takenB p.kind))))
    have mp := kp.far (p := ⟨g, 0, none⟩) (by show w.heap.size ≠ g; omega) (.int .i64 (wrap64 (C + wrap64 (p.times * takenB p.kind))))
    obtain ⟨v0, v1, v2⟩ := mp.c3
    have d1 := m1.c1
    have e1 := m1.frozen 0
    go_wp2_with (fail)
  all_goals
    refine bodyPost_ret (results_none rfl _ _ _) rfl ?_
    refine ⟨rfl, ⟨?_, ?_, ?_, ?_⟩, ?_⟩
    · exact ((k0.set1 (.int .i64 (wrap64 (C + wrap64 (p.times * takenB p.kind))))).far (by show g ≠ g + 1; omega) _)
    · exact m1.set1 _
    · exact (k2.far (by show g + 2 ≠ g; omega) _).far (by show g + 2 ≠ g + 1; omega) _
    · exact (k3.far (by show g + 3 ≠ g; omega) _).far (by show g + 3 ≠ g + 1; omega) _
    · (repeat (first | exact Below.refl _ _ | assumption | apply Below.drew | apply below_drewN | (refine Below.alloc ?_ (by first | omega | (simp; done) | (simp; omega)) _) | (refine Below.setCell ?_ (by first | omega | (simp; done) | (simp; omega)) _)))
set_option maxHeartbeats 2000000 in
theorem measure1_group (p : PieceD) (qs : List PieceD) (A' : Option Addr) (c' g : Nat) (C S O1 O2 : Int) (w : World) (hb : Boxes w g C S O1 O2) (hk : p.kind = 12)
    (HM : Hid (∀ W, Below w.heap.size w W → Calls Try.prog 102 #[.slice A' qs.length c'] W fun e w' => e = .returned (.tuple #[.int .i64 (sumP false qs 0), .int .i64 (sumP true qs 0), .int .i64 (openP false qs 0), .int .i64 (openP true qs 0)]) ∧ Below W.heap.size W w')) :
    Calls Try.prog 151 #[.agg #[.int .i64 p.kind, .int .i64 p.times, .int .i64 p.len], .slice A' qs.length c', .pointer (some ⟨g, 0, none⟩), .pointer (some ⟨g + 1, 0, none⟩), .pointer (some ⟨g + 2, 0, none⟩), .pointer (some ⟨g + 3, 0, none⟩)] w fun e w' =>
      e = .returned (.tuple #[]) ∧ Boxes w' g (wrap64 (C + wrap64 (p.times * sumP false qs 0))) (wrap64 (S + wrap64 (p.times * sumP true qs 0))) (if p.times = 0 then sumP false qs 0 else O1) (if p.times = 0 then sumP true qs 0 else O2) ∧ Below g w w' := by
  have hk' : (p.kind != 12) = false := by simp [hk]
  obtain ⟨h0, h1, h2, h3⟩ := hb
  have l3 := h3.lt
  have hba : Below w.heap.size w (w.alloc (.cells #[.int .i64 p.kind, .int .i64 p.times, .int .i64 p.len] 102)) := by (repeat (first | exact Below.refl _ _ | assumption | apply Below.drew | apply below_drewN | (refine Below.alloc ?_ (by first | omega | (simp; done) | (simp; omega)) _) | (refine Below.setCell ?_ (by first | omega | (simp; done) | (simp; omega)) _)))
  have hbg : Below g w (w.alloc (.cells #[.int .i64 p.kind, .int .i64 p.times, .int .i64 p.len] 102)) := (Below.refl _ _).alloc (by omega) _
  have k0 := h0.alloc (.cells #[.int .i64 p.kind, .int .i64 p.times, .int .i64 p.len] 102)
  have k1 := h1.alloc (.cells #[.int .i64 p.kind, .int .i64 p.times, .int .i64 p.len] 102)
  have k2 := h2.alloc (.cells #[.int .i64 p.kind, .int .i64 p.times, .int .i64 p.len] 102)
  have k3 := h3.alloc (.cells #[.int .i64 p.kind, .int .i64 p.times, .int .i64 p.len] 102)
  have kp := Blk.new w 102 #[.int .i64 p.kind, .int .i64 p.times, .int .i64 p.len]
  obtain ⟨u0, u1, u2⟩ := kp.c3
  clear hk
  generalize hX : sumP false qs 0 = X at HM ⊢
  generalize hY : sumP true qs 0 = Y at HM ⊢
  clear hX hY
  obtain ⟨Z1, hZ1⟩ : ∃ Z, Z = if p.times = 0 then X else O1 := ⟨_, rfl⟩
  obtain ⟨Z2, hZ2⟩ : ∃ Z, Z = if p.times = 0 then Y else O2 := ⟨_, rfl⟩
  rw [← hZ1, ← hZ2]
  have HZ := Lib.hid (And.intro hZ1 hZ2); clear hZ1 hZ2
  go_enter Try.func151, Try.ntmps151
  go_wp2_with (fail)
  refine (HM.out _ hba).mono ?_; rintro e w2 ⟨rfl, b2⟩
  simp only [World.size_alloc] at b2
  have m0 := k0.below b2 (by omega)
  have m1 := k1.below b2 (by omega)
  have m2 := k2.below b2 (by omega)
  have m3 := k3.below b2 (by omega)
  have mp := kp.below b2 (by omega)
  have hb2 : Below g w w2 := hbg.trans (b2.mono (by omega))
  have z2 := b2.size
  simp only [World.size_alloc] at z2
  clear u0 u1 u2 k0 k1 k2 k3 kp hba hbg b2
  have c0 := m0.c1
  have f0 := m0.frozen 0
  obtain ⟨v0, v1, v2⟩ := mp.c3
  have n1 := m1.far (p := ⟨g, 0, none⟩) (by show g + 1 ≠ g; omega) (.int .i64 (wrap64 (C + wrap64 (p.times * X))))
  have np := mp.far (p := ⟨g, 0, none⟩) (by show w.heap.size ≠ g; omega) (.int .i64 (wrap64 (C + wrap64 (p.times * X))))
  have np2 := np.far (p := ⟨g + 1, 0, none⟩) (by show w.heap.size ≠ g + 1; omega) (.int .i64 (wrap64 (S + wrap64 (p.times * Y))))
  obtain ⟨x0, x1, x2⟩ := np.c3
  obtain ⟨y0, y1, y2⟩ := np2.c3
  have d1 := n1.c1
  have e1 := n1.frozen 0
  have n2 := (m2.far (p := ⟨g, 0, none⟩) (by show g + 2 ≠ g; omega) (.int .i64 (wrap64 (C + wrap64 (p.times * X))))).far (p := ⟨g + 1, 0, none⟩) (by show g + 2 ≠ g + 1; omega) (.int .i64 (wrap64 (S + wrap64 (p.times * Y))))
  have n3 := (m3.far (p := ⟨g, 0, none⟩) (by show g + 3 ≠ g; omega) (.int .i64 (wrap64 (C + wrap64 (p.times * X))))).far (p := ⟨g + 1, 0, none⟩) (by show g + 3 ≠ g + 1; omega) (.int .i64 (wrap64 (S + wrap64 (p.times * Y))))
  have n0 := (m0.set1 (.int .i64 (wrap64 (C + wrap64 (p.times * X))))).far (p := ⟨g + 1, 0, none⟩) (by show g ≠ g + 1; omega) (.int .i64 (wrap64 (S + wrap64 (p.times * Y))))
  have n1' := n1.set1 (.int .i64 (wrap64 (S + wrap64 (p.times * Y))))
  have d2 := n2.c1
  have e2 := n2.frozen 0
  have e3 := (n3.far (p := ⟨g + 2, 0, none⟩) (by show g + 3 ≠ g + 2; omega) (.int .i64 X)).frozen 0
  have d3 := (n3.far (p := ⟨g + 2, 0, none⟩) (by show g + 3 ≠ g + 2; omega) (.int .i64 X)).c1
  by_cases ht : p.times = 0
  · have ht' : (p.times == 0) = true := by simp [ht]
    have HT : Hid (Z1 = X ∧ Z2 = Y) := Lib.hid ⟨by rw [HZ.out.1, if_pos ht], by rw [HZ.out.2, if_pos ht]⟩
    clear ht
    go_wp2_with (fail)
    go_end0
    rw [HT.out.1, HT.out.2]
    refine ⟨rfl, ⟨?_, ?_, ?_, ?_⟩, ?_⟩
    · exact (n0.far (by show g ≠ g + 2; omega) _).far (by show g ≠ g + 3; omega) _
    · exact (n1'.far (by show g + 1 ≠ g + 2; omega) _).far (by show g + 1 ≠ g + 3; omega) _
    · exact (n2.set1 _).far (by show g + 2 ≠ g + 3; omega) _
    · exact (n3.far (by show g + 3 ≠ g + 2; omega) _).set1 _
    · (repeat (first | exact Below.refl _ _ | assumption | apply Below.drew | apply below_drewN | (refine Below.alloc ?_ (by first | omega | (simp; done) | (simp; omega)) _) | (refine Below.setCell ?_ (by first | omega | (simp; done) | (simp; omega)) _)))
  · have ht' : (p.times == 0) = false := by simp [ht]
    have HT : Hid (Z1 = O1 ∧ Z2 = O2) := Lib.hid ⟨by rw [HZ.out.1, if_neg ht], by rw [HZ.out.2, if_neg ht]⟩
    clear ht
    go_wp2_with (fail)
    go_end0
    rw [HT.out.1, HT.out.2]
    exact ⟨rfl, ⟨n0, n1', n2, n3⟩, by (repeat (first | exact Below.refl _ _ | assumption | apply Below.drew | apply below_drewN | (refine Below.alloc ?_ (by first | omega | (simp; done) | (simp; omega)) _) | (refine Below.setCell ?_ (by first | omega | (simp; done) | (simp; omega)) _)))⟩

def MeasureAt (n : Nat) : Prop := ∀ (ps : List PieceD) (A : Option Addr) (c d : Nat) (w : World), ps.length < n → ps.length ≤ 1000 → ps.length ≤ c → c ≤ 9223372036854775807 → Pieces w A ps → Good d ps →
    Calls Try.prog 102 #[.slice A ps.length c] w fun e w' => e = .returned (.tuple #[.int .i64 (sumP false ps 0), .int .i64 (sumP true ps 0), .int .i64 (openP false ps 0), .int .i64 (openP true ps 0)]) ∧ Below w.heap.size w w'
set_option maxHeartbeats 4000000 in
set_option maxRecDepth 10000 in
theorem eachPiece_measure (ps : List PieceD) (A : Option Addr) (c d g : Nat) (w0 w : World) (IH : Hid (MeasureAt ps.length)) (hl : ps.length ≤ 1000) (hc : ps.length ≤ c) (hcm : c ≤ 9223372036854775807) (h : Pieces w0 A ps) (hw0 : w0.heap.size ≤ g) (hb0 : Below w0.heap.size w0 w) (hg : Good d ps) (hx : Boxes w g 0 0 0 0) :
    Calls Try.prog 150 #[.slice A ps.length c, .func (.func 151) #[] #[.pointer (some ⟨g, 0, none⟩), .pointer (some ⟨g + 1, 0, none⟩), .pointer (some ⟨g + 2, 0, none⟩), .pointer (some ⟨g + 3, 0, none⟩)]] w fun e w' =>
      e = .returned (.tuple #[]) ∧ Boxes w' g (sumP false ps 0) (sumP true ps 0) (openP false ps 0) (openP true ps 0) ∧ Below g w w' := by
  go_enter Try.func150, Try.ntmps150
  go_wp2_with (fail)
  go_loopw [4] (fun iv wr => ∃ (k : Nat) (C S O1 O2 : Int), k ≤ ps.length ∧ iv = .int .i64 k ∧ Boxes wr g C S O1 O2 ∧ Hid (sumP false ps 0 = sumP false (ps.drop k) C ∧ sumP true ps 0 = sumP true (ps.drop k) S ∧ openP false ps 0 = openP false (ps.drop k) O1 ∧ openP true ps 0 = openP true (ps.drop k) O2) ∧ Hid (Good d (ps.drop k)) ∧ Below g w wr) (fun iv _ => ps.length - (intOf iv).toNat)
  case atStart => exact ⟨0, 0, 0, 0, 0, Nat.zero_le _, rfl, hx, Lib.hid ⟨rfl, rfl, rfl, rfl⟩, Lib.hid hg, Below.refl _ _⟩
  case round =>
    obtain ⟨k, C, S, O1, O2, hk, rfl, hbx, HS, HG, hb⟩ := hrel
    have hbw : Below w0.heap.size w0 wr := hb0.trans (hb.mono hw0)
    have lg := hbx.b3.lt
    by_cases hlt : k < ps.length
    · obtain ⟨b1, off, p, rfl, hp, p0, p1, p2⟩ := (h.below hbw) k hlt
      have HP := Lib.hid hp; clear hp
      have j1 : (0 : Int) ≤ (k : Int) := by omega
      have j2 : (k : Int) < (ps.length : Int) := by omega
      by_cases hk12 : p.kind = 12
      · obtain ⟨n, hnl, hn1, hn2, _, _, _, _, hg2, hg3, hs2, ho2⟩ := good_at_group HG.out HP.out hk12
        have HS2 : Hid ((∀ cnt acc, sumP cnt (ps.drop k) acc = sumP cnt (ps.drop (k + 1 + n)) (wrap64 (acc + wrap64 (p.times * sumP cnt (segP ps (k + 1) (k + 1 + n)) 0)))) ∧ (∀ cnt o, openP cnt (ps.drop k) o = openP cnt (ps.drop (k + 1 + n)) (if p.times = 0 then sumP cnt (segP ps (k + 1) (k + 1 + n)) 0 else o))) := Lib.hid ⟨hs2, ho2⟩
        have HG3 := Lib.hid hg3; clear hg3 hs2 ho2
        have HNL := Lib.hid hnl
        rw [hnl] at p2
        have w1 : IntKind.i64.wrap ((k : Int) + 1) = (k : Int) + 1 := IntWalk.i64_in _ (by omega)
        have w2 : IntKind.i64.wrap ((k : Int) + 1 + (n : Int)) = (k : Int) + 1 + (n : Int) := IntWalk.i64_in _ (by omega)
        have w3 : ((k : Int) + 1).toNat = k + 1 := by omega
        have w4 : ((k : Int) + 1 + (n : Int)).toNat = k + 1 + n := by omega
        have w5 : (0 : Int) ≤ (k : Int) + 1 := by omega
        have w6 : (0 : Int) ≤ (k : Int) + 1 + (n : Int) := by omega
        have w7 : (k : Int) + 1 ≤ max ((k : Int) + 1 + (n : Int)) 0 := by omega
        have w8 : ¬ c = k + 1 := by omega
        have w9 : k + 1 + n - (k + 1) = n := by omega
        have i1 : (k : Int) + 1 ≤ (k : Int) + 1 + (n : Int) := by omega
        have i2 : (k : Int) + 1 + (n : Int) ≤ (c : Int) := by omega
        have hsl : (segP ps (k + 1) (k + 1 + n)).length = n := by rw [segP_length hn2]; omega
        have HIC : Hid (Calls Try.prog 151 #[.agg #[.int .i64 p.kind, .int .i64 p.times, .int .i64 (n : Int)], .slice (some ⟨b1, off + (k + 1) * 3, none⟩) n (c - (k + 1)), .pointer (some ⟨g, 0, none⟩), .pointer (some ⟨g + 1, 0, none⟩), .pointer (some ⟨g + 2, 0, none⟩), .pointer (some ⟨g + 3, 0, none⟩)] (World.drew wr) fun e w' =>
            e = .returned (.tuple #[]) ∧ Boxes w' g (wrap64 (C + wrap64 (p.times * sumP false (segP ps (k + 1) (k + 1 + n)) 0))) (wrap64 (S + wrap64 (p.times * sumP true (segP ps (k + 1) (k + 1 + n)) 0))) (if p.times = 0 then sumP false (segP ps (k + 1) (k + 1 + n)) 0 else O1) (if p.times = 0 then sumP true (segP ps (k + 1) (k + 1 + n)) 0 else O2) ∧ Below g (World.drew wr) w') := Lib.hid (by
          have := measure1_group p (segP ps (k + 1) (k + 1 + n)) (some ⟨b1, off + (k + 1) * 3, none⟩) (c - (k + 1)) g C S O1 O2 (World.drew wr) ⟨hbx.b0, hbx.b1, hbx.b2, hbx.b3⟩ hk12 (Lib.hid fun W hW => IH.out _ _ _ (d + 1) W (by rw [hsl]; omega) (by rw [hsl]; omega) (by rw [hsl]; omega) (by omega) ((Pieces.seg h hn2).below ((Below.drew2 hbw).trans (hW.mono (by show w0.heap.size ≤ wr.heap.size; omega)))) hg2)
          rwa [hsl, hnl] at this)
        clear hsl hg2 hnl hk12
        go_wp2_with (fail)
        go_region_law (go_simp; go_at_call 151; refine HIC.out.mono ?_; rintro e w2 ⟨rfl, hbx2, b2⟩)
        all_goals go_wp2_with (fail)
        all_goals
          have hb2 : Below g w w2 := (Below.drew2 hb).trans b2
          refine ⟨⟨k + 1 + n, _, _, _, _, by omega, by go_num, hbx2, Lib.hid ?_, Lib.hid HG3.out, hb2⟩, by simp [intOf]; omega⟩
          obtain ⟨s1, s2, s3, s4⟩ := HS.out
          rw [s1, s2, s3, s4]
          exact ⟨HS2.out.1 _ _, HS2.out.1 _ _, HS2.out.2 _ _, HS2.out.2 _ _⟩
      · obtain ⟨hpl, hg2⟩ := good_at_plain HG.out HP.out hk12
        have HG2 := Lib.hid hg2; clear hg2
        have hp0 : p.len = 0 := by unfold plainP at hpl; simp only [Bool.and_eq_true, decide_eq_true_eq] at hpl; exact hpl.2
        have HS2 : Hid ((∀ cnt acc, sumP cnt (ps.drop k) acc = sumP cnt (ps.drop (k + 1)) (wrap64 (acc + (if cnt then p.times else wrap64 (p.times * takenB p.kind))))) ∧ (∀ cnt o, openP cnt (ps.drop k) o = openP cnt (ps.drop (k + 1)) o)) := Lib.hid ⟨sum_at_plain HP.out hk12, fun cnt o => by rw [drop_cons HP.out, openP_plain hk12]⟩
        rw [hp0] at p2
        have w1 : IntKind.i64.wrap ((k : Int) + 1) = (k : Int) + 1 := IntWalk.i64_in _ (by omega)
        have w3 : ((k : Int) + 1).toNat = k + 1 := by omega
        have w5 : (0 : Int) ≤ (k : Int) + 1 := by omega
        have w7 : (k : Int) + 1 ≤ max ((k : Int) + 1) 0 := by omega
        have i2 : (k : Int) + 1 ≤ (c : Int) := by omega
        have HIC : Hid (∀ A' n c', Calls Try.prog 151 #[.agg #[.int .i64 p.kind, .int .i64 p.times, .int .i64 0], .slice A' n c', .pointer (some ⟨g, 0, none⟩), .pointer (some ⟨g + 1, 0, none⟩), .pointer (some ⟨g + 2, 0, none⟩), .pointer (some ⟨g + 3, 0, none⟩)] (World.drew wr) fun e w' =>
            e = .returned (.tuple #[]) ∧ Boxes w' g (wrap64 (C + wrap64 (p.times * takenB p.kind))) (wrap64 (S + p.times)) O1 O2 ∧ Below g (World.drew wr) w') := Lib.hid (fun A' n c' => by
          have := measure1_plain p A' n c' g C S O1 O2 (World.drew wr) ⟨hbx.b0, hbx.b1, hbx.b2, hbx.b3⟩ hk12
          rwa [hp0] at this)
        clear hk12 hpl hp0
        go_wp2_with (fail)
        go_region_law (go_simp; go_at_call 151; refine (HIC.out _ _ _).mono ?_; rintro e w2 ⟨rfl, hbx2, b2⟩)
        all_goals go_wp2_with (fail)
        all_goals
          have hb2 : Below g w w2 := (Below.drew2 hb).trans b2
          refine ⟨⟨k + 1, _, _, _, _, by omega, by go_num, hbx2, Lib.hid ?_, Lib.hid HG2.out, hb2⟩, by simp [intOf]; omega⟩
          obtain ⟨s1, s2, s3, s4⟩ := HS.out
          rw [s1, s2, s3, s4]
          exact ⟨HS2.out.1 false _, HS2.out.1 true _, HS2.out.2 _ _, HS2.out.2 _ _⟩
    · have he := HS.out
      rw [drop_all (by omega), sumP_nil, sumP_nil, openP_nil, openP_nil] at he
      obtain ⟨e1, e2, e3, e4⟩ := he
      have HE : Hid (Boxes wr g (sumP false ps 0) (sumP true ps 0) (openP false ps 0) (openP true ps 0)) := Lib.hid (by rw [e1, e2, e3, e4]; exact hbx)
      clear e1 e2 e3 e4
      go_wp2_with (fail)
      go_end0
      exact ⟨rfl, HE.out, hb⟩

set_option maxHeartbeats 2000000 in
set_option maxRecDepth 10000 in
theorem impl_measure (m : Nat) : ∀ n, n ≤ m → MeasureAt n := by
  induction m with
  | zero => intro n hn ps A c d w h0; omega
  | succ m ih =>
    intro n hn ps A c d w h0 hl hc hcm h hg
    have IH : Hid (MeasureAt ps.length) := Lib.hid (ih ps.length (by omega))
    clear ih
    have hb1 : Below w.heap.size w ((((w.alloc (.cells #[.int .i64 0] 2)).alloc (.cells #[.int .i64 0] 2)).alloc (.cells #[.int .i64 0] 2)).alloc (.cells #[.int .i64 0] 2)) := by (repeat (first | exact Below.refl _ _ | assumption | apply Below.drew | apply below_drewN | (refine Below.alloc ?_ (by first | omega | (simp; done) | (simp; omega)) _) | (refine Below.setCell ?_ (by first | omega | (simp; done) | (simp; omega)) _)))
    have hx : Boxes ((((w.alloc (.cells #[.int .i64 0] 2)).alloc (.cells #[.int .i64 0] 2)).alloc (.cells #[.int .i64 0] 2)).alloc (.cells #[.int .i64 0] 2)) w.heap.size 0 0 0 0 := by
      refine ⟨?_, ?_, ?_, ?_⟩
      · exact (((Blk.new w 2 #[.int .i64 0]).alloc _).alloc _).alloc _
      · have := ((Blk.new (w.alloc (.cells #[.int .i64 0] 2)) 2 #[.int .i64 0]).alloc (.cells #[.int .i64 0] 2)).alloc (.cells #[.int .i64 0] 2)
        simpa using this
      · have := (Blk.new ((w.alloc (.cells #[.int .i64 0] 2)).alloc (.cells #[.int .i64 0] 2)) 2 #[.int .i64 0]).alloc (.cells #[.int .i64 0] 2)
        simpa using this
      · have := Blk.new (((w.alloc (.cells #[.int .i64 0] 2)).alloc (.cells #[.int .i64 0] 2)).alloc (.cells #[.int .i64 0] 2)) 2 #[.int .i64 0]
        simpa using this
    have HX := Lib.hid hx; clear hx
    have hmf : ∀ (fn : Fn) (first cap : Array Value) (w : World), (Instr.makeFunc fn first cap).run Try.prog w = .ok (.func fn first cap) w := fun _ _ _ _ => rfl
    obtain ⟨X, hX⟩ : ∃ X, X = sumP false ps 0 := ⟨_, rfl⟩
    obtain ⟨Y, hY⟩ : ∃ X, X = sumP true ps 0 := ⟨_, rfl⟩
    obtain ⟨O1, hO1⟩ : ∃ X, X = openP false ps 0 := ⟨_, rfl⟩
    obtain ⟨O2, hO2⟩ : ∃ X, X = openP true ps 0 := ⟨_, rfl⟩
    rw [← hX, ← hY, ← hO1, ← hO2]
    have HQ : Hid (X = sumP false ps 0 ∧ Y = sumP true ps 0 ∧ O1 = openP false ps 0 ∧ O2 = openP true ps 0) := Lib.hid ⟨hX, hY, hO1, hO2⟩
    clear hX hY hO1 hO2
    go_enter Try.func102, Try.ntmps102
    go_wp2_with (fail)
    refine (eachPiece_measure ps A c d w.heap.size w _ IH hl hc hcm h (Nat.le_refl _) hb1 hg HX.out).mono ?_; rintro e w2 ⟨rfl, hb2, b2⟩
    have hbw : Below w.heap.size w w2 := hb1.trans b2
    rw [← HQ.out.1, ← HQ.out.2.1, ← HQ.out.2.2.1, ← HQ.out.2.2.2] at hb2
    obtain ⟨h0, h1, h2, h3⟩ := hb2
    have c0 := h0.c1
    have c1 := h1.c1
    have c2 := h2.c1
    have c3 := h3.c1
    have f0 := h0.frozen 0
    have f1 := h1.frozen 0
    have f2 := h2.frozen 0
    have f3 := h3.frozen 0
    go_wp2_with (fail)
    go_region
    all_goals
      go_wp2_with (fail)
      refine bodyPost_ret (v := .tuple #[.int .i64 X, .int .i64 Y, .int .i64 O1, .int .i64 O2]) (by simp [results, Try.results102, go_sem, c0, c1, c2, c3]) rfl ⟨rfl, ?_⟩
      (repeat (first | exact Below.refl _ _ | assumption | apply Below.drew | apply below_drewN | (refine Below.alloc ?_ (by first | omega | (simp; done) | (simp; omega)) _) | (refine Below.setCell ?_ (by first | omega | (simp; done) | (simp; omega)) _)))

def needP (ps : List PieceD) : Int × Int × Bool := if piecesB ps then (sumP false ps 0, sumP false (openPart ps) 0, true) else (0, 0, false)
theorem piecesB_good {ps : List PieceD} (h : piecesB ps = true) : ps.length ≤ 24 ∧ okP (rangeP 0 ps) = true ∧ Good 0 ps := by
  unfold piecesB at h
  simp only [Bool.and_eq_true, decide_eq_true_eq] at h
  refine ⟨h.1, h.2, ?_⟩
  unfold Good
  cases e : rangeP 0 ps with
  | none => rw [e] at h; cases h.2
  | some o => rfl
theorem openPart_length (ps : List PieceD) : (openPart ps).length ≤ ps.length := by
  induction ps with
  | nil => simp [openPart]
  | cons p r ih =>
    rw [openPart]
    split
    · simp; omega
    · simp; omega
theorem spec_NeedOf (ps : List PieceD) (A : Option Addr) (c : Nat) (w : World) (h : Pieces w A ps) (hl : ps.length ≤ 9223372036854775807) (hc : ps.length ≤ c) (hcm : c ≤ 9223372036854775807) :
    Calls Try.prog 38 #[.slice A ps.length c] w fun e w' => e = .returned (.tuple #[.int .i64 (needP ps).1, .int .i64 (needP ps).2.1, .bool (needP ps).2.2]) ∧ Below w.heap.size w w' := by
  by_cases hv : piecesB ps = true
  · have HF : Hid (needP ps = (sumP false ps 0, sumP false (openPart ps) 0, true)) := Lib.hid (by rw [needP, if_pos hv])
    obtain ⟨h24, _, hg⟩ := piecesB_good hv
    obtain ⟨d, hd⟩ := openPart_good ps.length ps (Nat.le_refl _) hg
    have hpl := openPart_length ps
    have HG := Lib.hid hg; clear hg
    have HD := Lib.hid hd; clear hd
    go_enter Try.func38, Try.ntmps38
    go_wp2_with (fail)
    refine (spec_l16Ok _ _ _ _ h hl).mono ?_; rintro e w2 ⟨rfl, b2⟩
    rw [hv]
    go_wp2_with (fail)
    refine (spec_l16Open _ _ _ _ (by omega) hc hcm (h.below b2) HG.out).mono ?_; rintro e _ ⟨⟨A', c', ok, rfl, hp, hc1, hc2⟩, rfl⟩
    go_wp2_with (fail)
    refine (spec_l16Sum false ps.length ps A c 0 _ (Nat.le_refl _) (by omega) hc hcm (h.below b2) HG.out).mono ?_; rintro e w3 ⟨rfl, b3⟩
    go_wp2_with (fail)
    refine (spec_l16Sum false (openPart ps).length (openPart ps) A' c' d _ (Nat.le_refl _) (by omega) hc1 hc2 (hp.below b3) HD.out).mono ?_; rintro e w4 ⟨rfl, b4⟩
    have z2 := b2.size
    have z3 := b3.size
    have hbw : Below w.heap.size w w4 := (b2.trans (b3.mono (by omega))).trans (b4.mono (by omega))
    go_wp2_with (fail)
    refine bodyPost_ret (v := .tuple #[.int .i64 (needP ps).1, .int .i64 (needP ps).2.1, .bool (needP ps).2.2]) (by rw [HF.out]; simp [results, Try.results38, go_sem]) rfl ⟨rfl, hbw⟩
  · have hv' : piecesB ps = false := by simpa using hv
    have HF : Hid (needP ps = (0, 0, false)) := Lib.hid (by rw [needP, if_neg hv])
    clear hv
    go_enter Try.func38, Try.ntmps38
    go_wp2_with (fail)
    refine (spec_l16Ok _ _ _ _ h hl).mono ?_; rintro e w2 ⟨rfl, b2⟩
    rw [hv']
    go_wp2_with (fail)
    refine bodyPost_ret (v := .tuple #[.int .i64 (needP ps).1, .int .i64 (needP ps).2.1, .bool (needP ps).2.2]) (by rw [HF.out]; simp [results, Try.results38, go_sem]) rfl ⟨rfl, b2⟩

theorem impl_NeedOf (ps : List PieceD) (A : Option Addr) (c : Nat) (w : World) (h : Pieces w A ps) (hl : ps.length ≤ 9223372036854775807) (hc : ps.length ≤ c) (hcm : c ≤ 9223372036854775807) :
    Calls Try.prog 39 #[.slice A ps.length c] w fun e w' => e = .returned (.tuple #[.int .i64 (needP ps).1, .int .i64 (needP ps).2.1, .bool (needP ps).2.2]) ∧ Below w.heap.size w w' := by
  by_cases hv : piecesB ps = true
  · obtain ⟨h24, ho, hg⟩ := piecesB_good hv
    have HF : Hid (needP ps = (sumP false ps 0, openP false ps 0, true)) := Lib.hid (by rw [needP, if_pos hv, openP_part false ps.length ps (Nat.le_refl _) ho])
    have HG := Lib.hid hg; clear hg ho
    go_enter Try.func39, Try.ntmps39
    go_wp2_with (fail)
    refine (impl_ValidPieces _ _ _ _ h hl hc hcm).mono ?_; rintro e w2 ⟨rfl, b2⟩
    rw [hv]
    go_wp2_with (fail)
    refine (impl_measure (ps.length + 1) _ (Nat.le_refl _) ps A c 0 _ (by omega) (by omega) hc hcm (h.below b2) HG.out).mono ?_; rintro e w3 ⟨rfl, b3⟩
    have z2 := b2.size
    have hbw : Below w.heap.size w w3 := b2.trans (b3.mono (by omega))
    go_wp2_with (fail)
    refine bodyPost_ret (v := .tuple #[.int .i64 (needP ps).1, .int .i64 (needP ps).2.1, .bool (needP ps).2.2]) (by rw [HF.out]; simp [results, Try.results39, go_sem]) rfl ⟨rfl, hbw⟩
  · have hv' : piecesB ps = false := by simpa using hv
    have HF : Hid (needP ps = (0, 0, false)) := Lib.hid (by rw [needP, if_neg hv])
    clear hv
    go_enter Try.func39, Try.ntmps39
    go_wp2_with (fail)
    refine (impl_ValidPieces _ _ _ _ h hl hc hcm).mono ?_; rintro e w2 ⟨rfl, b2⟩
    rw [hv']
    go_wp2_with (fail)
    refine bodyPost_ret (v := .tuple #[.int .i64 (needP ps).1, .int .i64 (needP ps).2.1, .bool (needP ps).2.2]) (by rw [HF.out]; simp [results, Try.results39, go_sem]) rfl ⟨rfl, b2⟩

end Go.Proofs.Ytdnchjchgejkeaa
