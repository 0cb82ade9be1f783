/- Steps of the proof, joined from several texts: VQ VR SB RT RU RO ROt. -/
import Derived.Test.YtifjdiiafofnpaaDoorZ6
import Derived.Test.YtifjdiiafofnpaaDoorZ5

/- ValidPieces, the program's side. -/
namespace Go.Proofs.YtifjdiiafofnpaaDoor
open Go.RowKit

theorem Pieces.seg {w : World} {ps : List PieceD} {b off : Nat} (h : Pieces w (some ⟨b, off, none⟩) ps) {i j : Nat} (hj : j ≤ ps.length) : Pieces w (some ⟨b, off + i * 3, none⟩) (segP ps i j) := by
  intro k hk
  rw [segP_length hj] at hk
  obtain ⟨b', off', p, hA, hp, c0, c1, c2⟩ := h (i + k) (by omega)
  injection hA with hA
  injection hA with hb ho
  subst hb ho
  refine ⟨b, off + i * 3, p, rfl, ?_, ?_, ?_, ?_⟩
  · unfold segP
    rw [List.getElem?_take_of_lt hk, List.getElem?_drop]
    exact hp
  · rw [show off + i * 3 + k * 3 = off + (i + k) * 3 by omega]; exact c0
  · rw [show off + i * 3 + k * 3 + 1 = off + (i + k) * 3 + 1 by omega]; exact c1
  · rw [show off + i * 3 + k * 3 + 2 = off + (i + k) * 3 + 2 by omega]; exact c2
theorem Blk.set1 {w : World} {g : Nat} {t : TypeId} {a : Value} (h : Blk w g t #[a]) (u : Value) : Blk (w.setCell ⟨g, 0, none⟩ u) g t #[u] := by
  unfold Blk at h ⊢
  simp [World.setCell, Array.getElem?_modify, h]

theorem spec_l16Ok (ps : List PieceD) (A : Option Addr) (c : Nat) (w : World) (h : Pieces w A ps) (_hl : ps.length ≤ 9223372036854775807) :
    Calls Tryd.prog 36 #[.slice A ps.length c] w fun e w' => e = .returned (.bool (piecesB ps)) ∧ Below w.heap.size w w' := by
  by_cases hn : ps.length ≤ 24
  · have HF : Hid (piecesB ps = okP (rangeP 0 ps)) := Lib.hid (by unfold piecesB; rw [decide_eq_true hn, Bool.true_and])
    have hI := spec_l16Range ps A c (by omega) ps.length 0 ps.length 0 w h (by omega) (by omega) (by omega) (by omega)
    rw [segP_all] at hI
    have HI := Lib.hid hI; clear hI
    cases hr : rangeP 0 ps with
    | none =>
      rw [hr] at HI HF
      go_enter Tryd.func36, Tryd.ntmps36
      go_wp2_with (fail)
      refine (HI.out).mono ?_; rintro e w2 ⟨rfl, b2⟩
      go_wp2_with (fail)
      go_ret
      exact ⟨ret_bool HF.out.symm, b2⟩
    | some o =>
      rw [hr] at HI HF
      have ho : openOf (some o) = (o : Int) := rfl
      rw [ho] at HI
      clear ho
      go_enter Tryd.func36, Tryd.ntmps36
      go_wp2_with (fail)
      refine (HI.out).mono ?_; rintro e w2 ⟨rfl, b2⟩
      go_wp2_with (fail)
      go_ret
      exact ⟨ret_bool (by rw [HF.out]; simp [okP]; omega), b2⟩
  · have HF : Hid (piecesB ps = false) := Lib.hid (by unfold piecesB; rw [decide_eq_false hn, Bool.false_and])
    go_enter Tryd.func36, Tryd.ntmps36
    go_wp2_with (fail)
    go_ret
    exact ⟨ret_bool HF.out.symm, Below.refl _ _⟩

theorem impl_arePieces_deep (n c g : Nat) (A : Option Addr) (w : World) (hn : 1 ≤ n) (hl : n ≤ 1000) :
    Calls Tryd.prog 69 #[.slice A n c, .int .i64 4, .pointer (some ⟨g, 0, none⟩)] w fun e w' => e = .returned (.bool false) ∧ w = w' := by
  go_enter Tryd.func69, Tryd.ntmps69
  go_wp2_with (fail)
  go_ret
  exact ⟨ret_bool (by simp; omega), rfl⟩
set_option maxHeartbeats 4000000 in
theorem impl_arePieces (g : Nat) (w0 : World) (hg0 : w0.heap.size ≤ g) (m : Nat) : ∀ (ps : List PieceD) (A : Option Addr) (c d v : Nat) (w : World), ps.length ≤ m → ps.length ≤ 24 → ps.length ≤ c → c ≤ 9223372036854775807 → Pieces w0 A ps → Below w0.heap.size w0 w → Blk w g 3 #[.int .i64 v] → v + ps.length ≤ 100 → d ≤ 3 →
    Calls Tryd.prog 69 #[.slice A ps.length c, .int .i64 d, .pointer (some ⟨g, 0, none⟩)] w fun e w' => e = .returned (.bool (rangeP d ps).isSome) ∧ Upd g (g + 1) w w' ∧ ∀ o, rangeP d ps = some o → Blk w' g 3 #[.int .i64 ((v + o : Nat) : Int)] := by
  induction m using Nat.strongRecOn with
  | ind m ih =>
  intro ps A c d v w hm h24 hc hcm h hb0 hbox hv hd
  have IH := Lib.hid ih; clear ih
  have hd4 : decide ((3 : Int) < (d : Int)) = false := decide_eq_false (by omega)
  have hgw := hbox.lt
  go_enter Tryd.func69, Tryd.ntmps69
  go_wp2_with (fail)
  go_loopw [7] (fun iv wr => ∃ (k o : Nat), k ≤ ps.length ∧ o ≤ k ∧ iv = .int .i64 k ∧ rangeP d ps = (rangeP d (segP ps k ps.length)).map (fun q => o + q) ∧ Upd g (g + 1) w wr ∧ Blk wr g 3 #[.int .i64 ((v + o : Nat) : Int)]) (fun iv _ => ps.length - (intOf iv).toNat)
  case atStart => exact ⟨0, 0, Nat.zero_le _, Nat.zero_le _, rfl, by rw [segP_all]; simp, Upd.refl _ _ _, hbox⟩
  case round =>
    obtain ⟨k, o, hk, hok, rfl, hr, hu, bx⟩ := hrel
    have hb : Below w0.heap.size w0 wr := hb0.trans ((hu.below (by omega)).mono hg0)
    have hz := hu.size
    have HR := Lib.hid hr; clear hr
    by_cases hlt : k < ps.length
    · obtain ⟨b1, off, p, rfl, hp, p0, p1, p2⟩ := (h.below hb) k hlt
      have HS : Hid (segP ps k ps.length = p :: segP ps (k + 1) ps.length) := Lib.hid (segP_cons hp hlt)
      have HP := Lib.hid hp; clear hp
      have j1 : (0 : Int) ≤ (k : Int) := by omega
      have j2 : (k : Int) < (ps.length : Int) := by omega
      have hgr := bx.lt
      by_cases hk : p.kind = 12
      · have hk' : (p.kind != 12) = false := by simp [hk]
        have HL : Hid ((segP ps (k + 1) ps.length).length = ps.length - (k + 1)) := Lib.hid (segP_length (Nat.le_refl _))
        have hcast : ((ps.length - (k + 1) : Nat) : Int) = (ps.length : Int) - (k : Int) - 1 := by omega
        have HG : Hid (groupP d p (segP ps (k + 1) ps.length).length = (inR p.times 0 16 && !(decide (p.times = 0) && decide (0 < d)) && inR p.len 1 ((ps.length : Int) - (k : Int) - 1))) := Lib.hid (by rw [HL.out, groupP, hcast])
        clear hcast
        cases ht : inR p.times 0 16
        · have HN : Hid (rangeP d ps = none) := Lib.hid (by rw [HR.out, HS.out, rangeP_group hk (by rw [HG.out, ht]; simp)]; rfl)
          clear hk
          set_option maxRecDepth 10000 in go_wp2_with (first | (go_at_call 66; refine (impl_isStitch _ _).mono ?_; rintro e _ ⟨rfl, rfl⟩) | (go_at_call 85; refine (impl_within _ _ _ _).mono ?_; rintro e _ ⟨rfl, rfl⟩))
          go_ret
          exact ⟨ret_bool (by rw [HN.out]; rfl), by (repeat (first | exact Upd.refl _ _ _ | assumption | (refine Upd.setCell ?_ (by first | omega | (simp; done) | (simp; omega)) (by first | omega | (simp; done) | (simp; omega)) _) | (refine Upd.trans ?_ (upd_alloc _ _ _ _)))), fun o' ho' => by rw [HN.out] at ho'; cases ho'⟩
        · cases hn : inR p.len 1 ((ps.length : Int) - (k : Int) - 1)
          · have HN : Hid (rangeP d ps = none) := Lib.hid (by rw [HR.out, HS.out, rangeP_group hk (by rw [HG.out, hn]; simp)]; rfl)
            clear hk
            set_option maxRecDepth 10000 in go_wp2_with (first | (go_at_call 66; refine (impl_isStitch _ _).mono ?_; rintro e _ ⟨rfl, rfl⟩) | (go_at_call 85; refine (impl_within _ _ _ _).mono ?_; rintro e _ ⟨rfl, rfl⟩))
            go_ret
            exact ⟨ret_bool (by rw [HN.out]; rfl), by (repeat (first | exact Upd.refl _ _ _ | assumption | (refine Upd.setCell ?_ (by first | omega | (simp; done) | (simp; omega)) (by first | omega | (simp; done) | (simp; omega)) _) | (refine Upd.trans ?_ (upd_alloc _ _ _ _)))), fun o' ho' => by rw [HN.out] at ho'; cases ho'⟩
          · have h1 : 1 ≤ p.len ∧ p.len ≤ (ps.length : Int) - (k : Int) - 1 := by simpa [inR] using hn
            obtain ⟨n, hnl⟩ : ∃ n : Nat, p.len = (n : Int) := ⟨p.len.toNat, by omega⟩
            have HNL := Lib.hid hnl
            rw [hnl] at p2 hn h1
            clear hnl
            have hlen : k + 1 + n ≤ ps.length := by omega
            have b1x := bx.alloc (.cells #[.int .i64 p.kind, .int .i64 p.times, .int .i64 (n : Int)] 61)
            have q0 := b1x.c1
            have fz := b1x.frozen 0
            have i1 : (k : Int) + 1 ≤ (k : Int) + 1 + (n : Int) := by omega
            have i2 : (k : Int) + 1 + (n : Int) ≤ (c : Int) := by omega
            by_cases h0 : p.times = 0
            · have h0' : (p.times == 0) = true := by simp [h0]
              by_cases hd0 : 0 < d
              · have hd0' : decide ((0 : Int) < (d : Int)) = true := decide_eq_true (by omega)
                have HN : Hid (rangeP d ps = none) := Lib.hid (by rw [HR.out, HS.out, rangeP_group hk (by rw [HG.out, h0]; simp [hd0])]; rfl)
                clear hk h0
                set_option maxRecDepth 10000 in go_wp2_with (first | (go_at_call 66; refine (impl_isStitch _ _).mono ?_; rintro e _ ⟨rfl, rfl⟩) | (go_at_call 85; refine (impl_within _ _ _ _).mono ?_; rintro e _ ⟨rfl, rfl⟩))
                go_ret
                exact ⟨ret_bool (by rw [HN.out]; rfl), by (repeat (first | exact Upd.refl _ _ _ | assumption | (refine Upd.setCell ?_ (by first | omega | (simp; done) | (simp; omega)) (by first | omega | (simp; done) | (simp; omega)) _) | (refine Upd.trans ?_ (upd_alloc _ _ _ _)))), fun o' ho' => by rw [HN.out] at ho'; cases ho'⟩
              · have hd0' : decide ((0 : Int) < (d : Int)) = false := decide_eq_false (by omega)
                have HGT : Hid (groupP d p (segP ps (k + 1) ps.length).length = true) := Lib.hid (by rw [HG.out, ht, HNL.out, hn]; simp; omega)
                have hd3 : d < 3 := by omega
                have hsl : (segP ps (k + 1) (k + 1 + n)).length = n := by rw [segP_length hlen]; omega
                have f3 : ((d + 1 : Nat) : Int) = (d : Int) + 1 := by omega
                have HIC : Hid (∀ (W : World) (v' : Nat), Below w0.heap.size w0 W → Blk W g 3 #[.int .i64 v'] → v' + n ≤ 100 → Calls Tryd.prog 69 #[.slice (some ⟨b1, off + (k + 1) * 3, none⟩) n (c - (k + 1)), .int .i64 ((d : Int) + 1), .pointer (some ⟨g, 0, none⟩)] W fun e w' => e = .returned (.bool (rangeP (d + 1) (segP ps (k + 1) (k + 1 + n))).isSome) ∧ Upd g (g + 1) W w' ∧ ∀ o, rangeP (d + 1) (segP ps (k + 1) (k + 1 + n)) = some o → Blk w' g 3 #[.int .i64 ((v' + o : Nat) : Int)]) := Lib.hid (fun W v' hW hB hv' => by
                  have := IH.out n (by omega) (segP ps (k + 1) (k + 1 + n)) (some ⟨b1, off + (k + 1) * 3, none⟩) (c - (k + 1)) (d + 1) v' W (by rw [hsl]; exact Nat.le_refl _) (by rw [hsl]; omega) (by rw [hsl]; omega) (by omega) (Pieces.seg h hlen) hW hB (by rw [hsl]; exact hv') (by omega)
                  rw [hsl, f3] at this
                  exact this)
                clear f3 hsl
                have HT : Hid ((segP ps (k + 1) ps.length).take p.len.toNat = segP ps (k + 1) (k + 1 + n)) := Lib.hid (by rw [HNL.out]; exact segP_take hlen)
                have HD : Hid ((segP ps (k + 1) ps.length).drop p.len.toNat = segP ps (k + 1 + n) ps.length) := Lib.hid (by rw [HNL.out]; exact segP_drop)
                have bs : Blk ((wr.setCell ⟨g, 0, none⟩ (.int .i64 ((v : Int) + (o : Int) + 1))).alloc (.cells #[.int .i64 p.kind, .int .i64 p.times, .int .i64 (n : Int)] 61)) g 3 #[.int .i64 ((v + o + 1 : Nat) : Int)] := by have := (bx.set1 (.int .i64 ((v : Int) + (o : Int) + 1))).alloc (.cells #[.int .i64 p.kind, .int .i64 p.times, .int .i64 (n : Int)] 61); simpa using this
                have bp : Blk ((wr.setCell ⟨g, 0, none⟩ (.int .i64 ((v : Int) + (o : Int) + 1))).alloc (.cells #[.int .i64 p.kind, .int .i64 p.times, .int .i64 (n : Int)] 61)) wr.heap.size 61 #[.int .i64 p.kind, .int .i64 p.times, .int .i64 (n : Int)] := by have := Blk.new (wr.setCell ⟨g, 0, none⟩ (.int .i64 ((v : Int) + (o : Int) + 1))) 61 #[.int .i64 p.kind, .int .i64 p.times, .int .i64 (n : Int)]; simpa using this
                have HBS := Lib.hid bs; clear bs
                have HBP := Lib.hid bp; clear bp
                cases hin : (rangeP (d + 1) (segP ps (k + 1) (k + 1 + n))).isSome
                · have HN : Hid (rangeP d ps = none) := Lib.hid (by rw [HR.out, HS.out, rangeP_inner hk (by rw [HT.out]; simpa using hin)]; rfl)
                  clear hk h0
                  set_option maxRecDepth 10000 in go_wp2_with (first | (go_at_call 66; refine (impl_isStitch _ _).mono ?_; rintro e _ ⟨rfl, rfl⟩) | (go_at_call 85; refine (impl_within _ _ _ _).mono ?_; rintro e _ ⟨rfl, rfl⟩))
                  refine (HIC.out _ (v + o + 1) (by (repeat (first | exact Below.refl _ _ | assumption | apply Below.drew | apply below_drewN | (refine Below.alloc ?_ (by first | omega | (simp; done) | (simp; omega)) _) | (refine Below.setCell ?_ (by first | omega | (simp; done) | (simp; omega)) _)))) HBS.out (by omega)).mono ?_; rintro e w2 ⟨rfl, u2, hbx2⟩
                  have HX2 := Lib.hid hbx2; clear hbx2
                  obtain ⟨s0, s1, s2⟩ := (Blk.upd HBP.out u2 (Or.inr (by omega))).c3
                  have hu2 : Upd g (g + 1) w w2 := Upd.trans (by (repeat (first | exact Upd.refl _ _ _ | assumption | (refine Upd.setCell ?_ (by first | omega | (simp; done) | (simp; omega)) (by first | omega | (simp; done) | (simp; omega)) _) | (refine Upd.trans ?_ (upd_alloc _ _ _ _))))) u2
                  set_option maxRecDepth 10000 in go_wp2_with (first | (go_at_call 66; refine (impl_isStitch _ _).mono ?_; rintro e _ ⟨rfl, rfl⟩) | (go_at_call 85; refine (impl_within _ _ _ _).mono ?_; rintro e _ ⟨rfl, rfl⟩))
                  go_ret
                  exact ⟨ret_bool (by rw [HN.out]; rfl), hu2, fun o' ho' => by rw [HN.out] at ho'; cases ho'⟩
                · have HQ : Hid (rangeP d ps = (rangeP d (segP ps (k + 1 + n) ps.length)).map (fun q => (o + 1) + q)) := Lib.hid (by rw [HR.out, HS.out, rangeP_open hk hd3 HGT.out (by rw [HT.out]; exact hin), HD.out, Option.map_map]; congr 1; funext q; simp [h0]; omega)
                  have HZ : Hid (rangeP (d + 1) (segP ps (k + 1) (k + 1 + n)) = some 0) := Lib.hid (by obtain ⟨q, hq⟩ := Option.isSome_iff_exists.1 hin; rw [hq, rangeP_zero _ (d + 1) (by omega) _ (Nat.le_refl _) q hq])
                  clear hk h0
                  set_option maxRecDepth 10000 in go_wp2_with (first | (go_at_call 66; refine (impl_isStitch _ _).mono ?_; rintro e _ ⟨rfl, rfl⟩) | (go_at_call 85; refine (impl_within _ _ _ _).mono ?_; rintro e _ ⟨rfl, rfl⟩))
                  refine (HIC.out _ (v + o + 1) (by (repeat (first | exact Below.refl _ _ | assumption | apply Below.drew | apply below_drewN | (refine Below.alloc ?_ (by first | omega | (simp; done) | (simp; omega)) _) | (refine Below.setCell ?_ (by first | omega | (simp; done) | (simp; omega)) _)))) HBS.out (by omega)).mono ?_; rintro e w2 ⟨rfl, u2, hbx2⟩
                  have HX2 := Lib.hid hbx2; clear hbx2
                  obtain ⟨s0, s1, s2⟩ := (Blk.upd HBP.out u2 (Or.inr (by omega))).c3
                  have hu2 : Upd g (g + 1) w w2 := Upd.trans (by (repeat (first | exact Upd.refl _ _ _ | assumption | (refine Upd.setCell ?_ (by first | omega | (simp; done) | (simp; omega)) (by first | omega | (simp; done) | (simp; omega)) _) | (refine Upd.trans ?_ (upd_alloc _ _ _ _))))) u2
                  set_option maxRecDepth 10000 in go_wp2_with (first | (go_at_call 66; refine (impl_isStitch _ _).mono ?_; rintro e _ ⟨rfl, rfl⟩) | (go_at_call 85; refine (impl_within _ _ _ _).mono ?_; rintro e _ ⟨rfl, rfl⟩))
                  refine ⟨⟨k + 1 + n, o + 1, by omega, by omega, by go_num, HQ.out, hu2, ?_⟩, by simp [intOf]; omega⟩
                  have := HX2.out 0 HZ.out
                  simpa [Nat.add_assoc] using this
            · have h0' : (p.times == 0) = false := by simpa using h0
              by_cases hd3 : d < 3
              · have HGT : Hid (groupP d p (segP ps (k + 1) ps.length).length = true) := Lib.hid (by rw [HG.out, ht, HNL.out, hn]; simp [h0])
                have hsl : (segP ps (k + 1) (k + 1 + n)).length = n := by rw [segP_length hlen]; omega
                have f3 : ((d + 1 : Nat) : Int) = (d : Int) + 1 := by omega
                have HIC : Hid (∀ (W : World) (v' : Nat), Below w0.heap.size w0 W → Blk W g 3 #[.int .i64 v'] → v' + n ≤ 100 → Calls Tryd.prog 69 #[.slice (some ⟨b1, off + (k + 1) * 3, none⟩) n (c - (k + 1)), .int .i64 ((d : Int) + 1), .pointer (some ⟨g, 0, none⟩)] W fun e w' => e = .returned (.bool (rangeP (d + 1) (segP ps (k + 1) (k + 1 + n))).isSome) ∧ Upd g (g + 1) W w' ∧ ∀ o, rangeP (d + 1) (segP ps (k + 1) (k + 1 + n)) = some o → Blk w' g 3 #[.int .i64 ((v' + o : Nat) : Int)]) := Lib.hid (fun W v' hW hB hv' => by
                  have := IH.out n (by omega) (segP ps (k + 1) (k + 1 + n)) (some ⟨b1, off + (k + 1) * 3, none⟩) (c - (k + 1)) (d + 1) v' W (by rw [hsl]; exact Nat.le_refl _) (by rw [hsl]; omega) (by rw [hsl]; omega) (by omega) (Pieces.seg h hlen) hW hB (by rw [hsl]; exact hv') (by omega)
                  rw [hsl, f3] at this
                  exact this)
                clear f3 hsl
                have HT : Hid ((segP ps (k + 1) ps.length).take p.len.toNat = segP ps (k + 1) (k + 1 + n)) := Lib.hid (by rw [HNL.out]; exact segP_take hlen)
                have HD : Hid ((segP ps (k + 1) ps.length).drop p.len.toNat = segP ps (k + 1 + n) ps.length) := Lib.hid (by rw [HNL.out]; exact segP_drop)
                have bs := b1x
                have bp := Blk.new wr 61 #[.int .i64 p.kind, .int .i64 p.times, .int .i64 (n : Int)]
                have HBS := Lib.hid bs; clear bs
                have HBP := Lib.hid bp; clear bp
                cases hin : (rangeP (d + 1) (segP ps (k + 1) (k + 1 + n))).isSome
                · have HN : Hid (rangeP d ps = none) := Lib.hid (by rw [HR.out, HS.out, rangeP_inner hk (by rw [HT.out]; simpa using hin)]; rfl)
                  clear hk h0
                  set_option maxRecDepth 10000 in go_wp2_with (first | (go_at_call 66; refine (impl_isStitch _ _).mono ?_; rintro e _ ⟨rfl, rfl⟩) | (go_at_call 85; refine (impl_within _ _ _ _).mono ?_; rintro e _ ⟨rfl, rfl⟩))
                  refine (HIC.out _ (v + o) (by (repeat (first | exact Below.refl _ _ | assumption | apply Below.drew | apply below_drewN | (refine Below.alloc ?_ (by first | omega | (simp; done) | (simp; omega)) _) | (refine Below.setCell ?_ (by first | omega | (simp; done) | (simp; omega)) _)))) HBS.out (by omega)).mono ?_; rintro e w2 ⟨rfl, u2, hbx2⟩
                  have HX2 := Lib.hid hbx2; clear hbx2
                  obtain ⟨s0, s1, s2⟩ := (Blk.upd HBP.out u2 (Or.inr (by omega))).c3
                  have hu2 : Upd g (g + 1) w w2 := Upd.trans (by (repeat (first | exact Upd.refl _ _ _ | assumption | (refine Upd.setCell ?_ (by first | omega | (simp; done) | (simp; omega)) (by first | omega | (simp; done) | (simp; omega)) _) | (refine Upd.trans ?_ (upd_alloc _ _ _ _))))) u2
                  set_option maxRecDepth 10000 in go_wp2_with (first | (go_at_call 66; refine (impl_isStitch _ _).mono ?_; rintro e _ ⟨rfl, rfl⟩) | (go_at_call 85; refine (impl_within _ _ _ _).mono ?_; rintro e _ ⟨rfl, rfl⟩))
                  go_ret
                  exact ⟨ret_bool (by rw [HN.out]; rfl), hu2, fun o' ho' => by rw [HN.out] at ho'; cases ho'⟩
                · have HQ : Hid (rangeP d ps = (rangeP d (segP ps (k + 1 + n) ps.length)).map (fun q => (o) + q)) := Lib.hid (by rw [HR.out, HS.out, rangeP_open hk hd3 HGT.out (by rw [HT.out]; exact hin), HD.out, Option.map_map]; congr 1; funext q; simp [h0])
                  have HZ : Hid (rangeP (d + 1) (segP ps (k + 1) (k + 1 + n)) = some 0) := Lib.hid (by obtain ⟨q, hq⟩ := Option.isSome_iff_exists.1 hin; rw [hq, rangeP_zero _ (d + 1) (by omega) _ (Nat.le_refl _) q hq])
                  clear hk h0
                  set_option maxRecDepth 10000 in go_wp2_with (first | (go_at_call 66; refine (impl_isStitch _ _).mono ?_; rintro e _ ⟨rfl, rfl⟩) | (go_at_call 85; refine (impl_within _ _ _ _).mono ?_; rintro e _ ⟨rfl, rfl⟩))
                  refine (HIC.out _ (v + o) (by (repeat (first | exact Below.refl _ _ | assumption | apply Below.drew | apply below_drewN | (refine Below.alloc ?_ (by first | omega | (simp; done) | (simp; omega)) _) | (refine Below.setCell ?_ (by first | omega | (simp; done) | (simp; omega)) _)))) HBS.out (by omega)).mono ?_; rintro e w2 ⟨rfl, u2, hbx2⟩
                  have HX2 := Lib.hid hbx2; clear hbx2
                  obtain ⟨s0, s1, s2⟩ := (Blk.upd HBP.out u2 (Or.inr (by omega))).c3
                  have hu2 : Upd g (g + 1) w w2 := Upd.trans (by (repeat (first | exact Upd.refl _ _ _ | assumption | (refine Upd.setCell ?_ (by first | omega | (simp; done) | (simp; omega)) (by first | omega | (simp; done) | (simp; omega)) _) | (refine Upd.trans ?_ (upd_alloc _ _ _ _))))) u2
                  set_option maxRecDepth 10000 in go_wp2_with (first | (go_at_call 66; refine (impl_isStitch _ _).mono ?_; rintro e _ ⟨rfl, rfl⟩) | (go_at_call 85; refine (impl_within _ _ _ _).mono ?_; rintro e _ ⟨rfl, rfl⟩))
                  refine ⟨⟨k + 1 + n, o, by omega, by omega, by go_num, HQ.out, hu2, ?_⟩, by simp [intOf]; omega⟩
                  have := HX2.out 0 HZ.out
                  exact this
              · have HN : Hid (rangeP d ps = none) := Lib.hid (by rw [HR.out, HS.out, rangeP_group hk (by omega)]; rfl)
                clear hk h0
                have hd33 : d = 3 := by omega
                subst hd33
                set_option maxRecDepth 10000 in go_wp2_with (first | (go_at_call 66; refine (impl_isStitch _ _).mono ?_; rintro e _ ⟨rfl, rfl⟩) | (go_at_call 85; refine (impl_within _ _ _ _).mono ?_; rintro e _ ⟨rfl, rfl⟩))
                refine (impl_arePieces_deep n _ _ _ _ (by omega) (by omega)).mono ?_; rintro e _ ⟨rfl, rfl⟩
                set_option maxRecDepth 10000 in go_wp2_with (first | (go_at_call 66; refine (impl_isStitch _ _).mono ?_; rintro e _ ⟨rfl, rfl⟩) | (go_at_call 85; refine (impl_within _ _ _ _).mono ?_; rintro e _ ⟨rfl, rfl⟩))
                go_ret
                exact ⟨ret_bool (by rw [HN.out]; rfl), by (repeat (first | exact Upd.refl _ _ _ | assumption | (refine Upd.setCell ?_ (by first | omega | (simp; done) | (simp; omega)) (by first | omega | (simp; done) | (simp; omega)) _) | (refine Upd.trans ?_ (upd_alloc _ _ _ _)))), fun o' ho' => by rw [HN.out] at ho'; cases ho'⟩
      · have hk' : (p.kind != 12) = true := by simpa using hk
        cases t1 : isStitchB p.kind
        · have HN : Hid (rangeP d ps = none) := Lib.hid (by rw [HR.out, HS.out, rangeP_bad hk (by simp [plainP, t1])]; rfl)
          clear hk
          set_option maxRecDepth 10000 in go_wp2_with (first | (go_at_call 66; refine (impl_isStitch _ _).mono ?_; rintro e _ ⟨rfl, rfl⟩) | (go_at_call 85; refine (impl_within _ _ _ _).mono ?_; rintro e _ ⟨rfl, rfl⟩))
          go_ret
          exact ⟨ret_bool (by rw [HN.out]; rfl), by (repeat (first | exact Upd.refl _ _ _ | assumption | (refine Upd.setCell ?_ (by first | omega | (simp; done) | (simp; omega)) (by first | omega | (simp; done) | (simp; omega)) _) | (refine Upd.trans ?_ (upd_alloc _ _ _ _)))), fun o' ho' => by rw [HN.out] at ho'; cases ho'⟩
        · by_cases t3 : p.len = 0
          · have t3' : (p.len != 0) = false := by simp [t3]
            cases t2 : inR p.times 1 16
            · have HN : Hid (rangeP d ps = none) := Lib.hid (by rw [HR.out, HS.out, rangeP_bad hk (by simp [plainP, t2])]; rfl)
              clear hk t3
              set_option maxRecDepth 10000 in go_wp2_with (first | (go_at_call 66; refine (impl_isStitch _ _).mono ?_; rintro e _ ⟨rfl, rfl⟩) | (go_at_call 85; refine (impl_within _ _ _ _).mono ?_; rintro e _ ⟨rfl, rfl⟩))
              go_ret
              exact ⟨ret_bool (by rw [HN.out]; rfl), by (repeat (first | exact Upd.refl _ _ _ | assumption | (refine Upd.setCell ?_ (by first | omega | (simp; done) | (simp; omega)) (by first | omega | (simp; done) | (simp; omega)) _) | (refine Upd.trans ?_ (upd_alloc _ _ _ _)))), fun o' ho' => by rw [HN.out] at ho'; cases ho'⟩
            · have HPL : Hid (rangeP d (segP ps k ps.length) = rangeP d (segP ps (k + 1) ps.length)) := Lib.hid (by rw [HS.out, rangeP_plain hk (by simp [plainP, t1, t2, t3])])
              clear t3 hk
              set_option maxRecDepth 10000 in go_wp2_with (first | (go_at_call 66; refine (impl_isStitch _ _).mono ?_; rintro e _ ⟨rfl, rfl⟩) | (go_at_call 85; refine (impl_within _ _ _ _).mono ?_; rintro e _ ⟨rfl, rfl⟩))
              exact ⟨⟨k + 1, o, by omega, by omega, by go_num, by rw [HR.out, HPL.out], by (repeat (first | exact Upd.refl _ _ _ | assumption | (refine Upd.setCell ?_ (by first | omega | (simp; done) | (simp; omega)) (by first | omega | (simp; done) | (simp; omega)) _) | (refine Upd.trans ?_ (upd_alloc _ _ _ _)))), bx.alloc _⟩, by simp [intOf]; omega⟩
          · have t3' : (p.len != 0) = true := by simpa using t3
            have HN : Hid (rangeP d ps = none) := Lib.hid (by rw [HR.out, HS.out, rangeP_bad hk (by simp [plainP, t3])]; rfl)
            clear hk t3
            set_option maxRecDepth 10000 in go_wp2_with (first | (go_at_call 66; refine (impl_isStitch _ _).mono ?_; rintro e _ ⟨rfl, rfl⟩) | (go_at_call 85; refine (impl_within _ _ _ _).mono ?_; rintro e _ ⟨rfl, rfl⟩))
            go_ret
            exact ⟨ret_bool (by rw [HN.out]; rfl), by (repeat (first | exact Upd.refl _ _ _ | assumption | (refine Upd.setCell ?_ (by first | omega | (simp; done) | (simp; omega)) (by first | omega | (simp; done) | (simp; omega)) _) | (refine Upd.trans ?_ (upd_alloc _ _ _ _)))), fun o' ho' => by rw [HN.out] at ho'; cases ho'⟩
    · go_wp2_with (fail)
      go_ret
      have : k = ps.length := by omega
      subst this
      have e := HR.out
      rw [segP_nil, rangeP_nil] at e
      refine ⟨ret_bool (by rw [e]; rfl), hu, fun o' ho' => ?_⟩
      rw [e] at ho'
      simp at ho'
      subst ho'
      exact bx

end Go.Proofs.YtifjdiiafofnpaaDoor

/- ValidPieces, the program's function. -/
namespace Go.Proofs.YtifjdiiafofnpaaDoor
open Go.RowKit

theorem OwnC.capmax {w : World} {lo hi : Nat} {e : TypeId} {sz : Nat} {A : Option Addr} {n c : Nat} {cs : List Value} (h : OwnC w lo hi e sz A n c cs) : c ≤ 9223372036854775807 := by
  rcases h.form with ⟨_, _, h1, _⟩ | ⟨_, _, _, _, _, _, _, h1, _⟩
  · omega
  · unfold maxLen at h1; omega

theorem impl_ValidPieces (ps : List PieceD) (A : Option Addr) (c : Nat) (w : World) (h : Pieces w A ps) (_hl : ps.length ≤ 9223372036854775807) (hc : ps.length ≤ c) (hcm : c ≤ 9223372036854775807) :
    Calls Tryd.prog 38 #[.slice A ps.length c] w fun e w' => e = .returned (.bool (piecesB ps)) ∧ Below w.heap.size w w' := by
  by_cases hn : ps.length ≤ 24
  · have HF : Hid (piecesB ps = okP (rangeP 0 ps)) := Lib.hid (by unfold piecesB; rw [decide_eq_true hn, Bool.true_and])
    have hb1 : Below w.heap.size w (w.alloc (.cells #[.int .i64 0] 3)) := by (repeat (first | exact Below.refl _ _ | assumption | apply Below.drew | apply below_drewN | (refine Below.alloc ?_ (by first | omega | (simp; done) | (simp; omega)) _) | (refine Below.setCell ?_ (by first | omega | (simp; done) | (simp; omega)) _)))
    have hI := impl_arePieces w.heap.size w (Nat.le_refl _) ps.length ps A c 0 0 _ (Nat.le_refl _) hn hc hcm h hb1 (Blk.new w 3 #[.int .i64 0]) (by omega) (by omega)
    rw [show ((0 : Nat) : Int) = 0 from rfl] at hI
    have HI := Lib.hid hI; clear hI
    cases hr : rangeP 0 ps with
    | none =>
      rw [hr] at HI HF
      go_enter Tryd.func38, Tryd.ntmps38
      go_wp2_with (fail)
      refine (HI.out).mono ?_; rintro e w2 ⟨rfl, u2, _⟩
      have b2 : Below w.heap.size w w2 := hb1.trans (u2.below (by simp))
      go_wp2_with (fail)
      go_ret
      exact ⟨ret_bool HF.out.symm, b2⟩
    | some o =>
      rw [hr] at HI HF
      go_enter Tryd.func38, Tryd.ntmps38
      go_wp2_with (fail)
      refine (HI.out).mono ?_; rintro e w2 ⟨rfl, u2, hx⟩
      have b2 : Below w.heap.size w w2 := hb1.trans (u2.below (by simp))
      have s0 := (hx o rfl).c1
      rw [Nat.zero_add] at s0
      clear hx
      go_wp2_with (fail)
      go_ret
      exact ⟨ret_bool (by rw [HF.out]; simp [okP]; omega), b2⟩
  · have HF : Hid (piecesB ps = false) := Lib.hid (by unfold piecesB; rw [decide_eq_false hn, Bool.false_and])
    go_enter Tryd.func38, Tryd.ntmps38
    go_wp2_with (fail)
    go_ret
    exact ⟨ret_bool HF.out.symm, by (repeat (first | exact Below.refl _ _ | assumption | apply Below.drew | apply below_drewN | (refine Below.alloc ?_ (by first | omega | (simp; done) | (simp; omega)) _) | (refine Below.setCell ?_ (by first | omega | (simp; done) | (simp; omega)) _)))⟩

end Go.Proofs.YtifjdiiafofnpaaDoor

/- StacksAfter. -/
namespace Go.Proofs.YtifjdiiafofnpaaDoor
open Go.RowKit

theorem ints_one (xs : List Int) : ∀ u ∈ xs.map (Value.int .i64), u.oneCell' = true := by
  intro u hu
  simp only [List.mem_map] at hu
  obtain ⟨x, _, rfl⟩ := hu
  rfl
theorem OwnC.nilc {w : World} {lo hi : Nat} {e : TypeId} {sz : Nat} {A : Option Addr} {n c : Nat} {cs : List Value} (h : OwnC w lo hi e sz A n c cs) : (A = none ∧ c = 0) ∨ ∃ b off, A = some ⟨b, off, none⟩ := by
  rcases h.form with ⟨h1, _, h2, _⟩ | ⟨g, _, h1, _⟩
  · exact .inl ⟨h1, h2⟩
  · exact .inr ⟨g, 0, h1⟩
theorem step_take {k : Int} (hk : isStitchB k = true) (st : List Int) : stepMade k (st.take (takenN k)) = stepMade k st ∧ stepOk k (st.take (takenN k)) = stepOk k st := by
  rcases stitch_cases hk with rfl | rfl | rfl | rfl | rfl | rfl | rfl | rfl | rfl | rfl | rfl
  all_goals (simp [stepMade, stepOk, takenN, st0, st1]; try (first | rfl | (apply Bool.eq_iff_iff.2; simp)))
theorem stepMade_length {k : Int} (hk : isStitchB k = true) (st : List Int) : (stepMade k st).length ≤ 4 := by
  have := takenN_le k hk
  unfold stepMade
  split
  · simp
  · split
    · simp
    · simp; omega
theorem Ints.drop {w : World} {b off : Nat} {xs : List Int} (h : Ints w (some ⟨b, off, none⟩) xs) (t : Nat) : Ints w (some ⟨b, off + t, none⟩) (xs.drop t) := by
  intro k hk
  rw [List.length_drop] at hk
  obtain ⟨b', off', x, hA, hc, hx⟩ := h (t + k) (by omega)
  injection hA with hA
  injection hA with h1 h2
  subst h1 h2
  exact ⟨b, off + t, x, rfl, by rw [Nat.add_assoc]; exact hc, by rw [List.getElem?_drop]; exact hx⟩

set_option maxHeartbeats 1000000 in
theorem spec_StacksAfter (st ks : List Int) (A : Option Addr) (c : Nat) (B : Option Addr) (d : Nat) (w : World) (h : Ints w A st) (hl : st.length ≤ 9223372036854775807) (h' : Ints w B ks) (hl' : ks.length ≤ 9223372036854775807) :
    Calls Tryd.prog 100 #[.slice A st.length c, .slice B ks.length d] w fun e w' => ∃ A' c', e = .returned (.tuple #[.slice A' (stacksAfterP st ks).1.length c', .int .i64 (stacksAfterP st ks).2]) ∧ OwnI w' w.heap.size w'.heap.size A' c' (stacksAfterP st ks).1 ∧ Below w.heap.size w w' := by
  by_cases h1 : stacksB st = true
  · by_cases h2 : stitchesB ks = true
    · have HP : Hid (takenP ks = takenS ks) := Lib.hid (by rw [takenP, if_pos h2])
      by_cases h3 : takenS ks = st.length
      · have HF := Lib.hid (stacksAfterP_spec h1 h2 h3)
        have H1 := Lib.hid h1
        have H2 := Lib.hid h2
        have H3 := Lib.hid h3
        have h3' : ((takenS ks : Int) != (st.length : Int)) = false := by simp [h3]
        have hal := afterP_length_le (stitchesB_of h2).2 st
        have hkl := (stitchesB_of h2).1
        clear h3
        go_enter Tryd.func100, Tryd.ntmps100
        go_wp2_with (fail)
        refine (spec_l14Stacks _ _ _ _ h hl).mono ?_; rintro e _ ⟨rfl, rfl⟩
        go_wp2_with (fail)
        refine (spec_l14Ok _ _ _ _ h' hl').mono ?_; rintro e _ ⟨rfl, rfl⟩
        go_wp2_with (fail)
        refine (spec_TakenBy _ _ _ _ h' hl').mono ?_; rintro e w2 ⟨rfl, b2⟩
        rw [HP.out]
        go_wp2_with (fail)
        refine (spec_l14After A B _ _ st ks _ (h.below b2) (h'.below b2) H1.out H2.out H3.out).mono ?_; rintro e w3 ⟨A3, c3, rfl, o3, b3⟩
        have hb3 : Below w.heap.size w w3 := b2.trans (b3.mono b2.size)
        have hz3 := b3.size
        go_wp2_with (fail)
        refine (spec_l14Stacks _ _ _ _ o3.ints (by omega)).mono ?_; rintro e _ ⟨rfl, rfl⟩
        cases ha : stacksB (afterP ks st)
        · go_wp2_with (fail)
          go_ret2
          rw [HF.out, ha]
          exact ⟨_, _, rfl, OwnC.nil _ _ _ _ _, hb3⟩
        · go_wp2_with (fail)
          refine (spec_l14Thick A B _ _ st ks _ (h.below hb3) (h'.below hb3) H1.out H2.out H3.out).mono ?_; rintro e w4 ⟨rfl, b4⟩
          have hb4 : Below w.heap.size w w4 := hb3.trans (b4.mono hb3.size)
          have o4 := o3.below b4 (Nat.le_refl _)
          have hz4 := b4.size
          have hz2 := b2.size
          cases hb : thickP ks st
          · go_wp2_with (fail)
            go_ret2
            rw [HF.out, ha, hb]
            exact ⟨_, _, rfl, o4.mono hz2 hz4, hb4⟩
          · go_wp2_with (fail)
            go_ret2
            rw [HF.out, ha, hb]
            exact ⟨_, _, rfl, OwnC.nil _ _ _ _ _, hb4⟩
      · have HF : Hid (stacksAfterP st ks = ([], 10)) := Lib.hid (by simp [stacksAfterP, h1, h2, h3])
        have h3' : ((takenS ks : Int) != (st.length : Int)) = true := by simp; omega
        clear h3
        go_enter Tryd.func100, Tryd.ntmps100
        go_wp2_with (fail)
        refine (spec_l14Stacks _ _ _ _ h hl).mono ?_; rintro e _ ⟨rfl, rfl⟩
        go_wp2_with (fail)
        refine (spec_l14Ok _ _ _ _ h' hl').mono ?_; rintro e _ ⟨rfl, rfl⟩
        go_wp2_with (fail)
        refine (spec_TakenBy _ _ _ _ h' hl').mono ?_; rintro e w2 ⟨rfl, b2⟩
        rw [HP.out]
        go_wp2_with (fail)
        go_ret2
        rw [HF.out]
        exact ⟨_, _, rfl, OwnC.nil _ _ _ _ _, b2⟩
    · have h2' : stitchesB ks = false := by simpa using h2
      have HF : Hid (stacksAfterP st ks = ([], 1)) := Lib.hid (by rw [stacksAfterP, h2', Bool.and_false]; rfl)
      clear h2
      go_enter Tryd.func100, Tryd.ntmps100
      go_wp2_with (fail)
      refine (spec_l14Stacks _ _ _ _ h hl).mono ?_; rintro e _ ⟨rfl, rfl⟩
      go_wp2_with (fail)
      refine (spec_l14Ok _ _ _ _ h' hl').mono ?_; rintro e _ ⟨rfl, rfl⟩
      go_wp2_with (fail)
      go_ret2
      rw [HF.out]
      exact ⟨_, _, rfl, OwnC.nil _ _ _ _ _, Below.refl _ _⟩
  · have h1' : stacksB st = false := by simpa using h1
    have HF : Hid (stacksAfterP st ks = ([], 1)) := Lib.hid (by rw [stacksAfterP, h1', Bool.false_and]; rfl)
    clear h1
    go_enter Tryd.func100, Tryd.ntmps100
    go_wp2_with (fail)
    refine (spec_l14Stacks _ _ _ _ h hl).mono ?_; rintro e _ ⟨rfl, rfl⟩
    go_wp2_with (fail)
    go_ret2
    rw [HF.out]
    exact ⟨_, _, rfl, OwnC.nil _ _ _ _ _, Below.refl _ _⟩

set_option maxHeartbeats 4000000 in
set_option maxRecDepth 10000 in
theorem impl_StacksAfter_some (st ks : List Int) (b0 off0 c : Nat) (B : Option Addr) (d : Nat) (w : World) (h : Ints w (some ⟨b0, off0, none⟩) st) (hc0 : st.length ≤ c) (hcm : c ≤ 9223372036854775807) (h' : Ints w B ks) (hl' : ks.length ≤ 9223372036854775807) (h1 : stacksB st = true) (h2 : stitchesB ks = true) (h3 : takenS ks = st.length) :
    Calls Tryd.prog 104 #[.slice (some ⟨b0, off0, none⟩) st.length c, .slice B ks.length d] w fun e w' => ∃ A' c', e = .returned (.tuple #[.slice A' (stacksAfterP st ks).1.length c', .int .i64 (stacksAfterP st ks).2]) ∧ OwnI w' w.heap.size w'.heap.size A' c' (stacksAfterP st ks).1 ∧ Below w.heap.size w w' := by
  obtain ⟨i0, hi0, hz0, hz1, hz2⟩ := info_parts info_int64
  have HF : Hid (stacksAfterP st ks = if okAfter ks st && decide ((afterP ks st).length ≤ 8) then (afterP ks st, 0) else ([], 5)) := Lib.hid (by rw [stacksAfterP, h1, h2]; simp [h3])
  obtain ⟨hl16, hst⟩ := stitchesB_of h2
  obtain ⟨hl8, hr⟩ := stacksB_of h1
  have HST := Lib.hid hst; clear hst
  have HR := Lib.hid hr; clear hr
  have HEQ := Lib.hid h3
  have h3' : ((takenS ks : Int) != (st.length : Int)) = false := by simp [h3]
  have H2 := Lib.hid h2
  clear h3
  go_enter Tryd.func104, Tryd.ntmps104
  go_wp2_with (fail)
  refine (impl_areStacks _ _ _ _ h (by omega)).mono ?_; rintro e _ ⟨rfl, rfl⟩
  go_wp2_with (fail)
  refine (impl_areStitches _ _ _ _ h' hl').mono ?_; rintro e _ ⟨rfl, rfl⟩
  go_wp2_with (fail)
  refine (impl_takenBy _ _ _ _ h' H2.out).mono ?_; rintro e _ ⟨rfl, rfl⟩
  go_wp2_with (fail)
  go_loopw [6, 7, 30] (fun ov rv iv wr => ∃ (i t o lr cr : Nat) (A' : Option Addr) (c' : Nat) (out : List Int), i ≤ ks.length ∧ iv = .int .i64 i ∧ rv = .slice (some ⟨b0, o, none⟩) lr cr ∧ st.length = t + lr ∧ c = t + cr ∧ (0 < lr → o = off0 + t) ∧ ov = .slice A' out.length c' ∧ OwnI wr w.heap.size wr.heap.size A' c' out ∧ Below w.heap.size w wr ∧ Hid (takenS (ks.take i) = t) ∧ Hid (afterP ks st = out ++ afterP (ks.drop i) (st.drop t)) ∧ Hid (okAfter ks st = okAfter (ks.drop i) (st.drop t)) ∧ out.length ≤ 4 * i) (fun _ _ iv _ => ks.length - (intOf iv).toNat)
  case atStart =>
    exact ⟨0, 0, off0, st.length, c, some ⟨w.heap.size, 0, none⟩, 0, [], Nat.zero_le _, rfl, rfl, by omega, by omega, fun _ => rfl, rfl, (OwnC.lit _ 1 #[] (Nat.le_refl _) (Nat.zero_le _) rfl).mono (Nat.le_refl _) (by simp), by (repeat (first | exact Below.refl _ _ | assumption | apply Below.drew | apply below_drewN | (refine Below.alloc ?_ (by first | omega | (simp; done) | (simp; omega)) _) | (refine Below.setCell ?_ (by first | omega | (simp; done) | (simp; omega)) _))), Lib.hid rfl, Lib.hid (by simp), Lib.hid (by simp), by simp⟩
  case round =>
    obtain ⟨i, t, o, lr, cr, A', c', out, hi, rfl, rfl, hlr, hcr, hor, rfl, ho, hb, HT, HA, HO, hol⟩ := hrel
    have hzs := hb.size
    by_cases hlt : i < ks.length
    · obtain ⟨b, off, k, rfl, hc, hk⟩ := h' i hlt
      replace hc := cells_below hb _ _ hc
      have hq := HST.out k (List.mem_of_getElem? hk)
      have hle : t + takenN k ≤ st.length := by have := takenS_at hk; rw [HT.out, HEQ.out] at this; exact this
      have HT2 : Hid (takenS (ks.take (i + 1)) = t + takenN k) := Lib.hid (by rw [takenS_snoc hk, HT.out])
      have HA2 : Hid (afterP ks st = (out ++ stepMade k (st.drop t)) ++ afterP (ks.drop (i + 1)) (st.drop (t + takenN k))) := Lib.hid (by rw [HA.out, afterP_drop hk, List.append_assoc])
      have HO2 : Hid (okAfter ks st = (stepOk k (st.drop t) && okAfter (ks.drop (i + 1)) (st.drop (t + takenN k)))) := Lib.hid (by rw [HO.out, okAfter_drop hk])
      have HB : Hid (takenB k = takenN k) := Lib.hid (takenB_of hq)
      have hml := stepMade_length hq (st.drop t)
      have hpart : Ints w (some ⟨b0, o, none⟩) ((st.drop t).take (takenN k)) := by
        by_cases h0 : 0 < lr
        · rw [hor h0]; exact Ints.take (h.drop t) _
        · have : (st.drop t).take (takenN k) = [] := by rw [drop_all (by omega)]; simp
          rw [this]; exact Ints.nil
      have hpl : ((st.drop t).take (takenN k)).length = takenN k := by rw [List.length_take, List.length_drop]; omega
      have hcon : ∀ W, Below w.heap.size w W → Calls Tryd.prog 124 #[.int .i64 k, .slice (some ⟨b0, o, none⟩) (takenN k) cr] W fun e w' => ∃ A' c', e = .returned (.tuple #[.slice A' (stepMade k (st.drop t)).length c', .bool (stepOk k (st.drop t))]) ∧ OwnI w' W.heap.size w'.heap.size A' c' (stepMade k (st.drop t)) ∧ Below W.heap.size W w' := fun W hW => by
        have := impl_madeStacks k (some ⟨b0, o, none⟩) ((st.drop t).take (takenN k)) cr W (hpart.below hW) hq hpl fun x hx => HR.out x (List.mem_of_mem_drop (List.mem_of_mem_take hx))
        rw [(step_take hq (st.drop t)).1, (step_take hq (st.drop t)).2, hpl] at this
        exact this
      have HC := Lib.hid hcon
      clear hk HT HA HO hcon hpart hpl
      have hn1 : takenN k ≤ lr := by omega
      have hn2 : takenN k ≤ cr := by omega
      have hn3 : lr ≤ cr := by omega
      have hn4 : cr ≤ 9223372036854775807 := by omega
      have HLR := Lib.hid hlr; clear hlr
      have HCR := Lib.hid hcr; clear hcr
      go_wp2_with (fail)
      refine (impl_ColumnsTaken _ _).mono ?_; rintro e _ ⟨rfl, rfl⟩
      rw [HB.out]
      go_wp2_with (fail)
      refine (HC.out _ hb).mono ?_; rintro e w2 ⟨A2, c2, rfl, o2, b2⟩
      have hb2 : Below w.heap.size w w2 := hb.trans (b2.mono hzs)
      have hz2' := b2.size
      have ho2 := ho.below b2 (Nat.le_refl _)
      cases hok : stepOk k (st.drop t)
      · go_wp2_with (fail)
        go_ret2
        rw [HF.out, HO2.out, hok]
        exact ⟨_, _, rfl, OwnC.nil _ _ _ _ _, hb2⟩
      · have HM : Hid (out ++ stepMade k (st.drop t) = out ++ stepMade k (st.drop t)) := Lib.hid rfl
        generalize stepMade k (st.drop t) = ms at o2 hml HA2 HM
        by_cases hcn : cr = takenN k
        · have hcn' : cr ≤ takenN k := by omega
          clear hcn
          go_wp2_with (at_builtin; refine wpList_appendC w2 rfl (.tmp 46) (.tmp 47) _ rfl 2 i0 _ 1 8 Tryd.underlying22 hi0 hz0 hz1 hz2 rfl (by decide) rfl ho2 (by omega) A2 ms.length c2 (ms.map (Value.int .i64)) rfl (by simp) o2.news (ints_one _) (by unfold maxLen; omega) (by omega) ?_; intro A5 c5 w5 ho5 hg5 hb5)
          go_roundw
          case rel => exact ⟨i + 1, t + takenN k, o, lr - takenN k, cr - takenN k, A5, c5, out ++ ms, by omega, by go_num, by first | rfl | (simp; done) | (simp; omega), by have := HLR.out; omega, by have := HCR.out; omega, fun h0 => by omega, by rw [List.length_append], by show OwnC _ _ _ _ _ _ _ _ _; rw [List.map_append, List.length_append]; exact ho5, hb2.trans hb5, HT2, HA2, Lib.hid (by rw [HO2.out, hok, Bool.true_and]), by simp; omega⟩
          case measure => simp [intOf]; omega
        · go_wp2_with (at_builtin; refine wpList_appendC w2 rfl (.tmp 46) (.tmp 47) _ rfl 2 i0 _ 1 8 Tryd.underlying22 hi0 hz0 hz1 hz2 rfl (by decide) rfl ho2 (by omega) A2 ms.length c2 (ms.map (Value.int .i64)) rfl (by simp) o2.news (ints_one _) (by unfold maxLen; omega) (by omega) ?_; intro A5 c5 w5 ho5 hg5 hb5)
          go_roundw
          case rel => exact ⟨i + 1, t + takenN k, o + takenN k, lr - takenN k, cr - takenN k, A5, c5, out ++ ms, by omega, by go_num, by first | rfl | (simp; done) | (simp; omega), by have := HLR.out; omega, by have := HCR.out; omega, fun h0 => by have := hor (by omega); omega, by rw [List.length_append], by show OwnC _ _ _ _ _ _ _ _ _; rw [List.map_append, List.length_append]; exact ho5, hb2.trans hb5, HT2, HA2, Lib.hid (by rw [HO2.out, hok, Bool.true_and]), by simp; omega⟩
          case measure => simp [intOf]; omega
    · have he := HA.out
      rw [drop_all (by omega), afterP, List.append_nil] at he
      have hok := HO.out
      rw [drop_all (by omega), okAfter] at hok
      by_cases h8 : out.length ≤ 8
      · go_wp2_with (fail)
        go_ret2
        rw [HF.out, hok, he, decide_eq_true h8]
        exact ⟨_, _, rfl, ho, hb⟩
      · go_wp2_with (fail)
        go_ret2
        rw [HF.out, hok, he, decide_eq_false h8]
        exact ⟨_, _, rfl, OwnC.nil _ _ _ _ _, hb⟩

set_option maxHeartbeats 2000000 in
set_option maxRecDepth 10000 in
theorem impl_StacksAfter_nil (ks : List Int) (B : Option Addr) (d : Nat) (w : World) (h' : Ints w B ks) (hl' : ks.length ≤ 9223372036854775807) (h2 : stitchesB ks = true) (h3 : takenS ks = 0) :
    Calls Tryd.prog 104 #[.slice none 0 0, .slice B ks.length d] w fun e w' => ∃ A' c', e = .returned (.tuple #[.slice A' (stacksAfterP [] ks).1.length c', .int .i64 (stacksAfterP [] ks).2]) ∧ OwnI w' w.heap.size w'.heap.size A' c' (stacksAfterP [] ks).1 ∧ Below w.heap.size w w' := by
  obtain ⟨i0, hi0, hz0, hz1, hz2⟩ := info_parts info_int64
  have h1 : stacksB [] = true := rfl
  have HF : Hid (stacksAfterP [] ks = if okAfter ks [] && decide ((afterP ks []).length ≤ 8) then (afterP ks [], 0) else ([], 5)) := Lib.hid (by simp [stacksAfterP, h1, h2, h3])
  obtain ⟨hl16, hst⟩ := stitchesB_of h2
  have HST := Lib.hid hst; clear hst
  have HEQ := Lib.hid h3
  have h3' : ((takenS ks : Int) != 0) = false := by simp [h3]
  have H2 := Lib.hid h2
  have h0 := impl_areStacks none 0 [] w Ints.nil (Nat.zero_le _)
  have H0 := Lib.hid h0; clear h0
  clear h3
  go_enter Tryd.func104, Tryd.ntmps104
  go_wp2_with (fail)
  refine H0.out.mono ?_; rintro e _ ⟨rfl, rfl⟩
  go_wp2_with (fail)
  refine (impl_areStitches _ _ _ _ h' hl').mono ?_; rintro e _ ⟨rfl, rfl⟩
  go_wp2_with (fail)
  refine (impl_takenBy _ _ _ _ h' H2.out).mono ?_; rintro e _ ⟨rfl, rfl⟩
  go_wp2_with (fail)
  go_loopw [6, 7, 30] (fun ov rv iv wr => ∃ (i : Nat) (A' : Option Addr) (c' : Nat) (out : List Int), i ≤ ks.length ∧ iv = .int .i64 i ∧ rv = .slice none 0 0 ∧ ov = .slice A' out.length c' ∧ OwnI wr w.heap.size wr.heap.size A' c' out ∧ Below w.heap.size w wr ∧ Hid (takenS (ks.take i) = 0) ∧ Hid (afterP ks [] = out ++ afterP (ks.drop i) []) ∧ Hid (okAfter ks [] = okAfter (ks.drop i) []) ∧ out.length ≤ 4 * i) (fun _ _ iv _ => ks.length - (intOf iv).toNat)
  case atStart =>
    exact ⟨0, some ⟨w.heap.size, 0, none⟩, 0, [], Nat.zero_le _, rfl, rfl, rfl, (OwnC.lit _ 1 #[] (Nat.le_refl _) (Nat.zero_le _) rfl).mono (Nat.le_refl _) (by simp), by (repeat (first | exact Below.refl _ _ | assumption | apply Below.drew | apply below_drewN | (refine Below.alloc ?_ (by first | omega | (simp; done) | (simp; omega)) _) | (refine Below.setCell ?_ (by first | omega | (simp; done) | (simp; omega)) _))), Lib.hid rfl, Lib.hid (by simp), Lib.hid (by simp), by simp⟩
  case round =>
    obtain ⟨i, A', c', out, hi, rfl, rfl, rfl, ho, hb, HT, HA, HO, hol⟩ := hrel
    have hzs := hb.size
    by_cases hlt : i < ks.length
    · obtain ⟨b, off, k, rfl, hc, hk⟩ := h' i hlt
      replace hc := cells_below hb _ _ hc
      have hq := HST.out k (List.mem_of_getElem? hk)
      have hle : takenN k = 0 := by have := takenS_at hk; rw [HT.out, HEQ.out] at this; omega
      have hk3 : k = 3 := by
        rcases stitch_cases hq with rfl | rfl | rfl | rfl | rfl | rfl | rfl | rfl | rfl | rfl | rfl <;> first | rfl | (exact absurd hle (by decide))
      subst hk3
      have HT2 : Hid (takenS (ks.take (i + 1)) = 0) := Lib.hid (by rw [takenS_snoc hk, HT.out]; rfl)
      have HA2 : Hid (afterP ks [] = (out ++ [1]) ++ afterP (ks.drop (i + 1)) []) := Lib.hid (by rw [HA.out, drop_cons hk, afterP, List.append_assoc]; rfl)
      have HO2 : Hid (okAfter ks [] = okAfter (ks.drop (i + 1)) []) := Lib.hid (by rw [HO.out, drop_cons hk, okAfter]; rfl)
      have HB : Hid (takenB 3 = 0) := Lib.hid rfl
      clear hk HT HA HO hle
      go_wp2_with (fail)
      refine (impl_ColumnsTaken _ _).mono ?_; rintro e _ ⟨rfl, rfl⟩
      rw [HB.out]
      go_wp2_with (fail)
      refine (madeStacks_3 _ _ _ _).mono ?_; rintro e w2 ⟨A2, c2, rfl, o2, b2⟩
      have hb2 : Below w.heap.size w w2 := hb.trans (b2.mono hzs)
      have hz2' := b2.size
      have ho2 := ho.below b2 (Nat.le_refl _)
      go_wp2_with (at_builtin; refine wpList_appendC w2 rfl (.tmp 46) (.tmp 47) _ rfl 2 i0 _ 1 8 Tryd.underlying22 hi0 hz0 hz1 hz2 rfl (by decide) rfl ho2 (by omega) A2 1 c2 (([1] : List Int).map (Value.int .i64)) rfl (by simp) o2.news (ints_one _) (by unfold maxLen; omega) (by omega) ?_; intro A5 c5 w5 ho5 hg5 hb5)
      go_roundw
      case rel => exact ⟨i + 1, A5, c5, out ++ [1], by omega, by go_num, by first | rfl | simp, by rw [List.length_append]; rfl, by show OwnC _ _ _ _ _ _ _ _ _; rw [List.map_append, List.length_append]; exact ho5, hb2.trans hb5, HT2, HA2, HO2, by simp; omega⟩
      case measure => simp [intOf]; omega
    · have he := HA.out
      rw [drop_all (by omega), afterP, List.append_nil] at he
      have hok := HO.out
      rw [drop_all (by omega), okAfter] at hok
      by_cases h8 : out.length ≤ 8
      · go_wp2_with (fail)
        go_ret2
        rw [HF.out, hok, he, decide_eq_true h8]
        exact ⟨_, _, rfl, ho, hb⟩
      · go_wp2_with (fail)
        go_ret2
        rw [HF.out, hok, he, decide_eq_false h8]
        exact ⟨_, _, rfl, OwnC.nil _ _ _ _ _, hb⟩

set_option maxHeartbeats 1000000 in
theorem impl_StacksAfter (st ks : List Int) (A : Option Addr) (c : Nat) (B : Option Addr) (d : Nat) (w : World) (h : Ints w A st) (hl : st.length ≤ 9223372036854775807) (hc0 : st.length ≤ c) (hcm : c ≤ 9223372036854775807) (hn : (A = none ∧ c = 0) ∨ ∃ b off, A = some ⟨b, off, none⟩) (h' : Ints w B ks) (hl' : ks.length ≤ 9223372036854775807) :
    Calls Tryd.prog 104 #[.slice A st.length c, .slice B ks.length d] w fun e w' => ∃ A' c', e = .returned (.tuple #[.slice A' (stacksAfterP st ks).1.length c', .int .i64 (stacksAfterP st ks).2]) ∧ OwnI w' w.heap.size w'.heap.size A' c' (stacksAfterP st ks).1 ∧ Below w.heap.size w w' := by
  by_cases h1 : stacksB st = true
  · by_cases h2 : stitchesB ks = true
    · by_cases h3 : takenS ks = st.length
      · rcases hn with ⟨rfl, rfl⟩ | ⟨b, off, rfl⟩
        · obtain rfl : st = [] := List.eq_nil_of_length_eq_zero (by omega)
          exact impl_StacksAfter_nil ks B d w h' hl' h2 h3
        · exact impl_StacksAfter_some st ks b off c B d w h hc0 hcm h' hl' h1 h2 h3
      · have HF : Hid (stacksAfterP st ks = ([], 10)) := Lib.hid (by simp [stacksAfterP, h1, h2, h3])
        have h3' : ((takenS ks : Int) != (st.length : Int)) = true := by simp; omega
        have H2 := Lib.hid h2
        clear h3
        go_enter Tryd.func104, Tryd.ntmps104
        go_wp2_with (fail)
        refine (impl_areStacks _ _ _ _ h hl).mono ?_; rintro e _ ⟨rfl, rfl⟩
        go_wp2_with (fail)
        refine (impl_areStitches _ _ _ _ h' hl').mono ?_; rintro e _ ⟨rfl, rfl⟩
        go_wp2_with (fail)
        refine (impl_takenBy _ _ _ _ h' H2.out).mono ?_; rintro e _ ⟨rfl, rfl⟩
        go_wp2_with (fail)
        go_ret2
        rw [HF.out]
        exact ⟨_, _, rfl, OwnC.nil _ _ _ _ _, Below.refl _ _⟩
    · have h2' : stitchesB ks = false := by simpa using h2
      have HF : Hid (stacksAfterP st ks = ([], 1)) := Lib.hid (by rw [stacksAfterP, h2', Bool.and_false]; rfl)
      clear h2
      go_enter Tryd.func104, Tryd.ntmps104
      go_wp2_with (fail)
      refine (impl_areStacks _ _ _ _ h hl).mono ?_; rintro e _ ⟨rfl, rfl⟩
      go_wp2_with (fail)
      refine (impl_areStitches _ _ _ _ h' hl').mono ?_; rintro e _ ⟨rfl, rfl⟩
      go_wp2_with (fail)
      go_ret2
      rw [HF.out]
      exact ⟨_, _, rfl, OwnC.nil _ _ _ _ _, Below.refl _ _⟩
  · have h1' : stacksB st = false := by simpa using h1
    have HF : Hid (stacksAfterP st ks = ([], 1)) := Lib.hid (by rw [stacksAfterP, h1', Bool.false_and]; rfl)
    clear h1
    go_enter Tryd.func104, Tryd.ntmps104
    go_wp2_with (fail)
    refine (impl_areStacks _ _ _ _ h hl).mono ?_; rintro e _ ⟨rfl, rfl⟩
    go_wp2_with (fail)
    go_ret2
    rw [HF.out]
    exact ⟨_, _, rfl, OwnC.nil _ _ _ _ _, Below.refl _ _⟩

end Go.Proofs.YtifjdiiafofnpaaDoor

/- RowLetters. -/
namespace Go.Proofs.YtifjdiiafofnpaaDoor
open Go.RowKit

theorem lettersFrom_drop {ks : List Int} {i : Nat} {k c : Int} (h : ks[i]? = some k) : lettersFrom (ks.drop i) c = stLetters k c ++ lettersFrom (ks.drop (i + 1)) (c + takenN k) := by rw [drop_cons h, lettersFrom]
theorem takenP_of {ks : List Int} (h : stitchesB ks = true) : takenP ks = takenS ks := by rw [takenP, if_pos h]
theorem row_stitches {d r : Int} {ks : List Int} (h : rowB d r ks = true) : stitchesB ks = true := by
  unfold rowB at h
  simp only [Bool.and_eq_true] at h
  exact h.2


end Go.Proofs.YtifjdiiafofnpaaDoor

/- RowLetters, the program's side. -/
namespace Go.Proofs.YtifjdiiafofnpaaDoor
open Go.RowKit


end Go.Proofs.YtifjdiiafofnpaaDoor

/- RowOfLetters. -/
namespace Go.Proofs.YtifjdiiafofnpaaDoor
open Go.RowKit

def rowFrom (n : Nat) (xs : List Int) (c : Nat) : List Int :=
  if c < n then (if (c : Int) + 1 ∈ xs then 8 :: rowFrom n xs (c + 2) else if -(c : Int) - 1 ∈ xs then 9 :: rowFrom n xs (c + 2) else 1 :: rowFrom n xs (c + 1)) else []
termination_by n - c
decreasing_by all_goals omega
theorem rowFrom_end {n c : Nat} (xs : List Int) (h : n ≤ c) : rowFrom n xs c = [] := by rw [rowFrom, if_neg (by omega)]
theorem rowFrom_8 {n c : Nat} {xs : List Int} (h : c < n) (h1 : (c : Int) + 1 ∈ xs) : rowFrom n xs c = 8 :: rowFrom n xs (c + 2) := by rw [rowFrom, if_pos h, if_pos h1]
theorem rowFrom_9 {n c : Nat} {xs : List Int} (h : c < n) (h1 : ¬ (c : Int) + 1 ∈ xs) (h2 : -(c : Int) - 1 ∈ xs) : rowFrom n xs c = 9 :: rowFrom n xs (c + 2) := by rw [rowFrom, if_pos h, if_neg h1, if_pos h2]
theorem rowFrom_1 {n c : Nat} {xs : List Int} (h : c < n) (h1 : ¬ (c : Int) + 1 ∈ xs) (h2 : ¬ -(c : Int) - 1 ∈ xs) : rowFrom n xs c = 1 :: rowFrom n xs (c + 1) := by rw [rowFrom, if_pos h, if_neg h1, if_neg h2]
theorem rowFrom_length (n : Nat) (xs : List Int) (m : Nat) : ∀ c, n - c ≤ m → (rowFrom n xs c).length ≤ m := by
  induction m with
  | zero => intro c hc; rw [rowFrom_end xs (by omega)]; simp
  | succ m ih =>
    intro c hc
    rw [rowFrom]
    split
    · split
      · have := ih (c + 2) (by omega); simp; omega
      · split
        · have := ih (c + 2) (by omega); simp; omega
        · have := ih (c + 1) (by omega); simp; omega
    · simp
theorem Blk.set32 {w : World} {g : Nat} {t : TypeId} {a b c : Value} (h : Blk w g t #[a, b, c]) (u : Value) : Blk (w.setCell ⟨g, 2, none⟩ u) g t #[a, b, u] := by
  unfold Blk at h ⊢
  simp [World.setCell, Array.getElem?_modify, h]
theorem Blk.set30 {w : World} {g : Nat} {t : TypeId} {a b c : Value} (h : Blk w g t #[a, b, c]) (u : Value) : Blk (w.setCell ⟨g, 0, none⟩ u) g t #[u, b, c] := by
  unfold Blk at h ⊢
  simp [World.setCell, Array.getElem?_modify, h]
theorem Blk.set31 {w : World} {g : Nat} {t : TypeId} {a b c : Value} (h : Blk w g t #[a, b, c]) (u : Value) : Blk (w.setCell ⟨g, 1, none⟩ u) g t #[a, u, c] := by
  unfold Blk at h ⊢
  simp [World.setCell, Array.getElem?_modify, h]
theorem OwnC.farT {w : World} {lo hi : Nat} {e : TypeId} {sz : Nat} {A : Option Addr} {n c : Nat} {cs : List Value} {g : Nat} {t : TypeId} {bs : Array Value} (h : OwnC w lo hi e sz A n c cs) (hb : Blk w g t bs) (ht : t ≠ e) (j : Nat) (u : Value) : OwnC (w.setCell ⟨g, j, none⟩ u) lo hi e sz A n c cs :=
  h.keepT fun k cur _ _ hk => Below.heap_setCell w ⟨g, j, none⟩ u k (by
    rintro rfl
    unfold Blk at hb
    rw [hb] at hk
    injection hk with hk
    injection hk with _ hk
    exact ht hk)
theorem Blk.grownT {w w' : World} {lo hi : Nat} {e : TypeId} {sz : Nat} {A : Option Addr} {n c : Nat} {cs : List Value} {g : Nat} {t : TypeId} {bs : Array Value} (hb : Blk w g t bs) (h : OwnC w lo hi e sz A n c cs) (ht : t ≠ e) (hg : w.grownBy w' (Value.slice A n c).ownBlock) : Blk w' g t bs :=
  (hg.block g hb.lt fun e' => by
    rcases h.form with ⟨rfl, _⟩ | ⟨q, cur, rfl, _, _, hh, _⟩
    · simp [Value.ownBlock] at e'
    · simp [Value.ownBlock] at e'
      subst e'
      unfold Blk at hb
      rw [hb] at hh
      injection hh with hh
      injection hh with _ hh
      exact ht hh).trans hb


end Go.Proofs.YtifjdiiafofnpaaDoor

/- RowOfLetters: the two functions. -/
namespace Go.Proofs.YtifjdiiafofnpaaDoor
open Go.RowKit

structure RowX where
  d : Int
  r : Int
  xs : List Int
def apartAt (xs : List Int) (i : Nat) : Bool := !touchAny (xs.take i) (xs[i]?.getD 0)
def apartB (xs : List Int) : Bool := (List.range xs.length).all (apartAt xs)
def rolCode (n : Int) (xs : List Int) (d r : Int) : Int := if inR n 1 8 && dirB d && carrierB r then (if lettersB n xs then (if apartB xs then 0 else 6) else 1) else 2
def rolRow (n : Int) (xs : List Int) (d r : Int) : RowX := if rolCode n xs d r = 0 then ⟨d, r, rowFrom n.toNat xs 0⟩ else ⟨0, 0, []⟩
theorem rolRow_length (n : Int) (xs : List Int) (d r : Int) : (rolRow n xs d r).xs.length ≤ 8 := by
  unfold rolRow
  split
  · rename_i h
    have hn : inR n 1 8 = true := by
      unfold rolCode at h
      cases e : inR n 1 8
      · rw [e] at h; simp at h
      · rfl
    have := inR_iff.1 hn
    have := rowFrom_length n.toNat xs 8 0 (by omega)
    exact this
  · simp
theorem rol_err {n : Int} {xs : List Int} {d r k : Int} (e : rolCode n xs d r = k) (hk : k ≠ 0) : rolRow n xs d r = ⟨0, 0, []⟩ ∧ rolCode n xs d r = k := ⟨by rw [rolRow, if_neg (by rw [e]; exact hk)], e⟩
theorem letters_small {n : Int} {xs : List Int} (hn : inR n 1 8 = true) (h : lettersB n xs = true) : smallB xs := by
  intro y hy
  have h1 := inR_iff.1 hn
  unfold lettersB letterB at h
  simp only [List.all_eq_true, Bool.and_eq_true] at h
  have h2 := inR_iff.1 (h y hy).2
  omega
theorem smallB_take {xs : List Int} (h : smallB xs) (k : Nat) : smallB (xs.take k) := fun y hy => h y (List.mem_of_mem_take hy)
theorem apart_false {xs : List Int} {k : Nat} {x : Int} (hx : xs[k]? = some x) (h : touchAny (xs.take k) x = true) : apartB xs = false := by
  unfold apartB
  rw [List.all_eq_false]
  refine ⟨k, List.mem_range.2 (List.getElem?_eq_some_iff.1 hx).1, ?_⟩
  simp [apartAt, hx, h]
theorem apart_true {xs : List Int} (h : ∀ j, j < xs.length → apartAt xs j = true) : apartB xs = true := by
  unfold apartB
  rw [List.all_eq_true]
  exact fun j hj => h j (List.mem_range.1 hj)


end Go.Proofs.YtifjdiiafofnpaaDoor
