/- The law FnExpand walked. -/
import Derived.Test.YtcgbogofmdjddaaDoorZ19
import Derived.Test.YtcgbogofmdjddaaDoorZ20
import Derived.Test.YtcgbogofmdjddaaDoorZ16
import Derived.Test.YtcgbogofmdjddaaDoorZ15
import Derived.Test.YtcgbogofmdjddaaDoorZ8
import Derived.Test.YtcgbogofmdjddaaDoorZ12
namespace Go.Proofs.YtcgbogofmdjddaaDoor
open Go Go.RowKit

/-- What the texts of a valid row are. -/
theorem texts_of {l : List Int} (hst : stitchesB l = true) : ∃ a b : ByteArray, rowT l = a ∧ shortP l = b ∧ piecesT (compressP l) = a ∧ b.size ≤ a.size ∧ a.size ≤ 1000 ∧ (l ≠ [] → a ≠ ⟨#[]⟩) ∧ (inR (takenS l : Int) 1 8 = true → (erRes a (takenS l : Int) = l ∧ erCode a (takenS l : Int) = 0) ∧ (erRes b (takenS l : Int) = l ∧ erCode b (takenS l : Int) = 0)) := by
  have hp := compressed_pieces hst
  have he := exp_compressed 0 l (not12 hst)
  obtain ⟨hg, h16⟩ := compressed_good hst
  obtain ⟨F, f1, f2, f3, f4⟩ := short_reads hst
  have rd : ∀ {G : List PieceD}, piecesB G = true → expP 0 G = l → inR (takenS l : Int) 1 8 = true → erRes (txtP G) (takenS l : Int) = l ∧ erCode (txtP G) (takenS l : Int) = 0 := by
    intro G g1 g2 hn
    obtain ⟨r1, r2⟩ := read_txt g1
    obtain ⟨x1, x2⟩ := ex_row g1 g2 hst hn
    rw [erRes, erCode, r2, if_pos rfl, if_pos rfl, r1]
    exact ⟨x2, x1⟩
  refine ⟨txtP (compressed l), shortP l, by rw [rowT, if_pos hst], rfl, by rw [compressP, if_pos hst, piecesT, if_pos hp], f4, ?_, ?_, ?_⟩
  · have := (txt_small hg).1
    have := h16
    omega
  · intro hne h0
    have h1 := (read_txt hp).1
    have h2 := (read_txt (F := []) (compressed_pieces (l := []) (by decide))).1
    rw [h0] at h1
    have h3 : txtP [] = ⟨#[]⟩ := by rw [txtP, partsP_nil]; rfl
    rw [h3] at h2
    rw [h1] at h2
    rw [h2, expP_nil] at he
    exact hne he.symm
  · intro hn
    refine ⟨rd hp he hn, ?_⟩
    rw [← f3]
    exact rd f1 f2 hn

set_option maxHeartbeats 1000000 in
set_option maxRecDepth 10000 in
theorem law_FnExpand (bs : List Int) (A : Option Addr) (c : Nat) (w : World) (h : Bytes w A bs) (_l : bs.length ≤ 9223372036854775807) :
    Calls Tryd.prog 8 #[.slice A bs.length c] w fun e w' => e = .returned (.bool true) ∧ Below w.heap.size w w' := by
  by_cases hlong : 3000 < bs.length
  · go_enter Tryd.func8, Tryd.ntmps8
    go_wp2_with (fail)
    refine (laws_a2Long A none bs.length c 0 0 w).mono ?_; rintro e _ ⟨rfl, rfl⟩
    rw [decide_eq_true hlong]
    go_wp2_with (fail)
    go_ret
    exact ⟨rfl, Below.refl _ _⟩
  · go_enter Tryd.func8, Tryd.ntmps8
    go_wp2_with (fail)
    refine (laws_a2Long A none bs.length c 0 0 w).mono ?_; rintro e _ ⟨rfl, rfl⟩
    rw [decide_eq_false hlong]
    go_wp2_with (fail)
    refine (spec_A2Stitches A c bs w h (by omega)).mono ?_
    rintro e w1 ⟨A1, c1, l, rfl, o1, hst, b1⟩
    have hl16 := (stitchesB_of hst).1
    obtain ⟨ta, tb, ha, hb, hc, hba, ha1, hne, hex⟩ := texts_of hst
    have hcp : (compressP l).length ≤ l.length := by rw [compressP, if_pos hst]; exact (compressed_inv l).1
    have HEX := Lib.hid hex; clear hex
    have HA := Lib.hid ha; clear ha
    have HB := Lib.hid hb; clear hb
    have HC := Lib.hid hc; clear hc
    have HS := Lib.hid hst; clear hst
    go_wp2_with (fail)
    refine (impl_RowText l A1 c1 w1 (OwnC.ints o1) (by omega)).mono ?_; rintro e w2 ⟨rfl, b2⟩
    rw [HA.out]
    have o2 := OwnC.below o1 b2 (Nat.le_refl _)
    have B2 : Below w.heap.size w w2 := Below.trans b1 (b2.mono b1.size)
    have HZ2 := Lib.hid b2.size
    clear b1 b2
    go_wp2_with (fail)
    refine (impl_ShortRow l A1 c1 w2 (OwnC.ints o2) (by omega) (OwnC.cap o2) (OwnC.capmax o2)).mono ?_; rintro e w3 ⟨rfl, b3⟩
    rw [HB.out]
    have o3 := OwnC.below o2 b3 HZ2.out
    have B3 : Below w.heap.size w w3 := Below.trans B2 (b3.mono B2.size)
    have HZ3 := Lib.hid (Nat.le_trans HZ2.out b3.size)
    clear b3 B2 o1 o2 HZ2
    go_wp2_with (fail)
    refine (impl_TakenBy l A1 c1 w3 (OwnC.ints o3) HS.out).mono ?_; rintro e _ ⟨rfl, rfl⟩
    generalize htk : takenS l = tk at *
    have HTK := Lib.hid htk; clear htk
    have d1 : decide ((tb.size : Int) > (ta.size : Int)) = false := decide_eq_false (by omega)
    have HRT : Hid (0 < l.length → ta.toList.isEmpty = false) := Lib.hid (fun h => ba_notEmpty (hne (List.length_pos_iff.1 h)))
    have hbs : tb.size ≤ 1000000000 := by omega
    have has : ta.size ≤ 1000000000 := by omega
    have HBS := Lib.hid hbs
    have HAS := Lib.hid has
    clear hbs has hne
    by_cases hl0 : 0 < l.length
    · have e0 := HRT.out hl0
      have d2 : decide ((l.length : Int) > 0) = true := decide_eq_true (by omega)
      by_cases ht1 : tk < 1
      · have d3 : decide ((tk : Int) < 1) = true := decide_eq_true (by omega)
        go_wp2_with (first
          | (go_at_call 37; refine (impl_CompressRow A1 c1 l w3 (OwnC.ints o3) (by omega)).mono ?_; rintro e w4 ⟨A4, c4, rfl, o4, b4⟩; have z4 := Lib.hid b4.size)
          | (go_at_call 25; refine (impl_PiecesText (compressP l) A4 c4 w4 o4.pieces (by omega) o4.cap o4.capmax).mono ?_; rintro e w5 ⟨rfl, b5⟩; rw [HC.out]))
        have B4 : Below w.heap.size w w4 := B3.trans (b4.mono B3.size)
        have B5 : Below w.heap.size w w5 := B4.trans (b5.mono B4.size)
        go_ret
        exact ⟨rfl, B5⟩
      · have d3 : decide ((tk : Int) < 1) = false := decide_eq_false (by omega)
        by_cases ht8 : 8 < tk
        · have d4 : decide ((tk : Int) > 8) = true := decide_eq_true (by omega)
          go_wp2_with (first
            | (go_at_call 37; refine (impl_CompressRow A1 c1 l w3 (OwnC.ints o3) (by omega)).mono ?_; rintro e w4 ⟨A4, c4, rfl, o4, b4⟩; have z4 := Lib.hid b4.size)
            | (go_at_call 25; refine (impl_PiecesText (compressP l) A4 c4 w4 o4.pieces (by omega) o4.cap o4.capmax).mono ?_; rintro e w5 ⟨rfl, b5⟩; rw [HC.out]))
          have B4 : Below w.heap.size w w4 := B3.trans (b4.mono B3.size)
          have B5 : Below w.heap.size w w5 := B4.trans (b5.mono B4.size)
          go_ret
          exact ⟨rfl, B5⟩
        · have d4 : decide ((tk : Int) > 8) = false := decide_eq_false (by omega)
          obtain ⟨⟨x1, x2⟩, x3, x4⟩ := HEX.out (inR_iff.2 (by omega))
          have X1 := Lib.hid x1; have X2 := Lib.hid x2; have X3 := Lib.hid x3; have X4 := Lib.hid x4
          clear x1 x2 x3 x4
          go_wp2_with (first
            | (go_at_call 37; refine (impl_CompressRow A1 c1 l w3 (OwnC.ints o3) (by omega)).mono ?_; rintro e w4 ⟨A4, c4, rfl, o4, b4⟩; have z4 := Lib.hid b4.size)
            | (go_at_call 25; refine (impl_PiecesText (compressP l) A4 c4 w4 o4.pieces (by omega) o4.cap o4.capmax).mono ?_; rintro e w5 ⟨rfl, b5⟩; rw [HC.out]))
          have B4 : Below w.heap.size w w4 := B3.trans (b4.mono B3.size)
          have B5 : Below w.heap.size w w5 := B4.trans (b5.mono B4.size)
          have o5 := OwnC.below (OwnC.below o3 b4 HZ3.out) b5 (Nat.le_trans HZ3.out z4.out)
          have HZ5 := Lib.hid (Nat.le_trans HZ3.out (Nat.le_trans z4.out b5.size))
          clear b4 b5 o3 o4 B4 B3
          go_wp2_with (fail)
          refine (impl_ExpandRow ta (tk : Int) w5 HAS.out).mono ?_; rintro e w6 ⟨A6, c6, rfl, o6, b6⟩
          rw [X2.out]
          rw [X1.out] at o6 ⊢
          have o66 := OwnC.below o5 b6 HZ5.out
          have HZ6 := Lib.hid (Nat.le_trans HZ5.out b6.size)
          have B6 : Below w.heap.size w w6 := B5.trans (b6.mono B5.size)
          clear o5 b6 B5
          go_wp2_with (fail)
          refine (impl_ExpandRow tb (tk : Int) w6 HBS.out).mono ?_; rintro e w7 ⟨A7, c7, rfl, o7, b7⟩
          rw [X4.out]
          rw [X3.out] at o7 ⊢
          have i1 := OwnC.ints (OwnC.below o66 b7 HZ6.out)
          have i6 := OwnC.ints (OwnC.below o6 b7 (Nat.le_refl _))
          have i7 := OwnC.ints o7
          have B7 : Below w.heap.size w w7 := B6.trans (b7.mono B6.size)
          clear o66 o6 o7 b7 B6
          have hll : l.length ≤ 9223372036854775807 := by omega
          go_wp2_with (fail)
          refine (laws_a2Same A6 A1 c6 c1 l l w7 i6 i1 hll hll).mono ?_; rintro e w8 ⟨rfl, q, rfl⟩
          rw [decide_eq_true rfl]
          go_wp2_with (fail)
          refine (laws_a2Same A7 A1 c7 c1 l l _ (i7.drewN q) (i1.drewN q) hll hll).mono ?_; rintro e w9 ⟨rfl, q2, rfl⟩
          rw [decide_eq_true rfl]
          go_wp2_with (fail)
          go_ret
          exact ⟨rfl, below_drewN B7 (q + q2)⟩
    · have d2 : decide ((l.length : Int) > 0) = false := decide_eq_false (by omega)
      have h0 : l = [] := List.eq_nil_of_length_eq_zero (by omega)
      have ht0 : tk = 0 := by rw [← HTK.out, h0]; rfl
      have d3 : decide ((tk : Int) < 1) = true := decide_eq_true (by omega)
      clear h0
      go_wp2_with (first
        | (go_at_call 37; refine (impl_CompressRow A1 c1 l w3 (OwnC.ints o3) (by omega)).mono ?_; rintro e w4 ⟨A4, c4, rfl, o4, b4⟩; have z4 := Lib.hid b4.size)
        | (go_at_call 25; refine (impl_PiecesText (compressP l) A4 c4 w4 o4.pieces (by omega) o4.cap o4.capmax).mono ?_; rintro e w5 ⟨rfl, b5⟩; rw [HC.out]))
      have B4 : Below w.heap.size w w4 := B3.trans (b4.mono B3.size)
      have B5 : Below w.heap.size w w5 := B4.trans (b5.mono B4.size)
      go_ret
      exact ⟨rfl, B5⟩

end Go.Proofs.YtcgbogofmdjddaaDoor
