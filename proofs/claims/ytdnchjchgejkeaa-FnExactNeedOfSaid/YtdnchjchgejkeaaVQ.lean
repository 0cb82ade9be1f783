/- ValidPieces, the program's side. -/
import Derived.Test.YtdnchjchgejkeaaVP
namespace Go.Proofs.Ytdnchjchgejkeaa
open Go.RowKit

theorem Pieces.seg {w : World} {ps : List PieceD} {b off : Nat} (h : Pieces w (some ⟨b, off, none⟩) ps) {i j : Nat} (hj : j ≤ ps.length) : Pieces w (some ⟨b, off + i * 3, none⟩) (segP ps i j) := by
  intro k hk
  rw [segP_length hj] at hk
  obtain ⟨b', off', p, hA, hp, c0, c1, c2⟩ := h (i + k) (by omega)
  injection hA with hA
  injection hA with hb ho
  subst hb ho
  refine ⟨b, off + i * 3, p, rfl, ?_, ?_, ?_, ?_⟩
  · unfold segP
    rw [List.getElem?_take_of_lt hk, List.getElem?_drop]
    exact hp
  · rw [show off + i * 3 + k * 3 = off + (i + k) * 3 by omega]; exact c0
  · rw [show off + i * 3 + k * 3 + 1 = off + (i + k) * 3 + 1 by omega]; exact c1
  · rw [show off + i * 3 + k * 3 + 2 = off + (i + k) * 3 + 2 by omega]; exact c2
theorem Blk.set1 {w : World} {g : Nat} {t : TypeId} {a : Value} (h : Blk w g t #[a]) (u : Value) : Blk (w.setCell ⟨g, 0, none⟩ u) g t #[u] := by
  unfold Blk at h ⊢
  simp [World.setCell, Array.getElem?_modify, h]

theorem spec_l16Ok (ps : List PieceD) (A : Option Addr) (c : Nat) (w : World) (h : Pieces w A ps) (_hl : ps.length ≤ 9223372036854775807) :
    Calls Try.prog 77 #[.slice A ps.length c] w fun e w' => e = .returned (.bool (piecesB ps)) ∧ Below w.heap.size w w' := by
  by_cases hn : ps.length ≤ 24
  · have HF : Hid (piecesB ps = okP (rangeP 0 ps)) := Lib.hid (by unfold piecesB; rw [decide_eq_true hn, Bool.true_and])
    have hI := spec_l16Range ps A c (by omega) ps.length 0 ps.length 0 w h (by omega) (by omega) (by omega) (by omega)
    rw [segP_all] at hI
    have HI := Lib.hid hI; clear hI
    cases hr : rangeP 0 ps with
    | none =>
      rw [hr] at HI HF
      go_enter Try.func77, Try.ntmps77
      go_wp2_with (fail)
      refine (HI.out).mono ?_; rintro e w2 ⟨rfl, b2⟩
      go_wp2_with (fail)
      go_ret
      exact ⟨ret_bool HF.out.symm, b2⟩
    | some o =>
      rw [hr] at HI HF
      have ho : openOf (some o) = (o : Int) := rfl
      rw [ho] at HI
      clear ho
      go_enter Try.func77, Try.ntmps77
      go_wp2_with (fail)
      refine (HI.out).mono ?_; rintro e w2 ⟨rfl, b2⟩
      go_wp2_with (fail)
      go_ret
      exact ⟨ret_bool (by rw [HF.out]; simp [okP]; omega), b2⟩
  · have HF : Hid (piecesB ps = false) := Lib.hid (by unfold piecesB; rw [decide_eq_false hn, Bool.false_and])
    go_enter Try.func77, Try.ntmps77
    go_wp2_with (fail)
    go_ret
    exact ⟨ret_bool HF.out.symm, Below.refl _ _⟩
theorem spec_ValidPieces (ps : List PieceD) (A : Option Addr) (c : Nat) (w : World) (h : Pieces w A ps) (hl : ps.length ≤ 9223372036854775807) :
    Calls Try.prog 17 #[.slice A ps.length c] w fun e w' => e = .returned (.bool (piecesB ps)) ∧ Below w.heap.size w w' := by
  go_enter Try.func17, Try.ntmps17
  go_wp2_with (fail)
  refine (spec_l16Ok _ _ _ _ h hl).mono ?_; rintro e w2 ⟨rfl, b2⟩
  go_wp2_with (fail)
  go_ret
  exact ⟨rfl, b2⟩

theorem impl_arePieces_deep (n c g : Nat) (A : Option Addr) (w : World) (hn : 1 ≤ n) (hl : n ≤ 1000) :
    Calls Try.prog 79 #[.slice A n c, .int .i64 4, .pointer (some ⟨g, 0, none⟩)] w fun e w' => e = .returned (.bool false) ∧ w = w' := by
  go_enter Try.func79, Try.ntmps79
  go_wp2_with (fail)
  go_ret
  exact ⟨ret_bool (by simp; omega), rfl⟩
set_option maxHeartbeats 4000000 in
theorem impl_arePieces (g : Nat) (w0 : World) (hg0 : w0.heap.size ≤ g) (m : Nat) : ∀ (ps : List PieceD) (A : Option Addr) (c d v : Nat) (w : World), ps.length ≤ m → ps.length ≤ 24 → ps.length ≤ c → c ≤ 9223372036854775807 → Pieces w0 A ps → Below w0.heap.size w0 w → Blk w g 3 #[.int .i64 v] → v + ps.length ≤ 100 → d ≤ 3 →
    Calls Try.prog 79 #[.slice A ps.length c, .int .i64 d, .pointer (some ⟨g, 0, none⟩)] w fun e w' => e = .returned (.bool (rangeP d ps).isSome) ∧ Upd g (g + 1) w w' ∧ ∀ o, rangeP d ps = some o → Blk w' g 3 #[.int .i64 ((v + o : Nat) : Int)] := by
  induction m using Nat.strongRecOn with
  | ind m ih =>
  intro ps A c d v w hm h24 hc hcm h hb0 hbox hv hd
  have IH := Lib.hid ih; clear ih
  have hd4 : decide ((3 : Int) < (d : Int)) = false := decide_eq_false (by omega)
  have hgw := hbox.lt
  go_enter Try.func79, Try.ntmps79
  go_wp2_with (fail)
  go_loopw [7] (fun iv wr => ∃ (k o : Nat), k ≤ ps.length ∧ o ≤ k ∧ iv = .int .i64 k ∧ rangeP d ps = (rangeP d (segP ps k ps.length)).map (fun q => o + q) ∧ Upd g (g + 1) w wr ∧ Blk wr g 3 #[.int .i64 ((v + o : Nat) : Int)]) (fun iv _ => ps.length - (intOf iv).toNat)
  case atStart => exact ⟨0, 0, Nat.zero_le _, Nat.zero_le _, rfl, by rw [segP_all]; simp, Upd.refl _ _ _, hbox⟩
  case round =>
    obtain ⟨k, o, hk, hok, rfl, hr, hu, bx⟩ := hrel
    have hb : Below w0.heap.size w0 wr := hb0.trans ((hu.below (by omega)).mono hg0)
    have hz := hu.size
    have HR := Lib.hid hr; clear hr
    by_cases hlt : k < ps.length
    · obtain ⟨b1, off, p, rfl, hp, p0, p1, p2⟩ := (h.below hb) k hlt
      have HS : Hid (segP ps k ps.length = p :: segP ps (k + 1) ps.length) := Lib.hid (segP_cons hp hlt)
      have HP := Lib.hid hp; clear hp
      have j1 : (0 : Int) ≤ (k : Int) := by omega
      have j2 : (k : Int) < (ps.length : Int) := by omega
      have hgr := bx.lt
      by_cases hk : p.kind = 12
      · have hk' : (p.kind != 12) = false := by simp [hk]
        have HL : Hid ((segP ps (k + 1) ps.length).length = ps.length - (k + 1)) := Lib.hid (segP_length (Nat.le_refl _))
        have hcast : ((ps.length - (k + 1) : Nat) : Int) = (ps.length : Int) - (k : Int) - 1 := by omega
        have HG : Hid (groupP d p (segP ps (k + 1) ps.length).length = (inR p.times 0 16 && !(decide (p.times = 0) && decide (0 < d)) && inR p.len 1 ((ps.length : Int) - (k : Int) - 1))) := Lib.hid (by rw [HL.out, groupP, hcast])
        clear hcast
        cases ht : inR p.times 0 16
        · have HN : Hid (rangeP d ps = none) := Lib.hid (by rw [HR.out, HS.out, rangeP_group hk (by rw [HG.out, ht]; simp)]; rfl)
          clear hk
          set_option maxRecDepth 10000 in go_wp2_with (first | (go_at_call 140; refine (impl_isStitch _ _).mono ?_; rintro e _ ⟨rfl, rfl⟩) | (go_at_call 92; refine (impl_within _ _ _ _).mono ?_; rintro e _ ⟨rfl, rfl⟩))
          go_ret
          exact ⟨ret_bool (by rw [HN.out]; rfl), by (repeat (first | exact Upd.refl _ _ _ | assumption | (refine Upd.setCell ?_ (by first | omega | (simp; done) | (simp; omega)) (by first | omega | (simp; done) | (simp; omega)) _) | (refine Upd.trans ?_ (upd_alloc _ _ _ _)))), fun o' ho' => by rw [HN.out] at ho'; cases ho'⟩
        · cases hn : inR p.len 1 ((ps.length : Int) - (k : Int) - 1)
          · have HN : Hid (rangeP d ps = none) := Lib.hid (by rw [HR.out, HS.out, rangeP_group hk (by rw [HG.out, hn]; simp)]; rfl)
            clear hk
            set_option maxRecDepth 10000 in go_wp2_with (first | (go_at_call 140; refine (impl_isStitch _ _).mono ?_; rintro e _ ⟨rfl, rfl⟩) | (go_at_call 92; refine (impl_within _ _ _ _).mono ?_; rintro e _ ⟨rfl, rfl⟩))
            go_ret
            exact ⟨ret_bool (by rw [HN.out]; rfl), by (repeat (first | exact Upd.refl _ _ _ | assumption | (refine Upd.setCell ?_ (by first | omega | (simp; done) | (simp; omega)) (by first | omega | (simp; done) | (simp; omega)) _) | (refine Upd.trans ?_ (upd_alloc _ _ _ _)))), fun o' ho' => by rw [HN.out] at ho'; cases ho'⟩
          · have h1 : 1 ≤ p.len ∧ p.len ≤ (ps.length : Int) - (k : Int) - 1 := by simpa [inR] using hn
            obtain ⟨n, hnl⟩ : ∃ n : Nat, p.len = (n : Int) := ⟨p.len.toNat, by omega⟩
            have HNL := Lib.hid hnl
            rw [hnl] at p2 hn h1
            clear hnl
            have hlen : k + 1 + n ≤ ps.length := by omega
            have b1x := bx.alloc (.cells #[.int .i64 p.kind, .int .i64 p.times, .int .i64 (n : Int)] 102)
            have q0 := b1x.c1
            have fz := b1x.frozen 0
            have i1 : (k : Int) + 1 ≤ (k : Int) + 1 + (n : Int) := by omega
            have i2 : (k : Int) + 1 + (n : Int) ≤ (c : Int) := by omega
            by_cases h0 : p.times = 0
            · have h0' : (p.times == 0) = true := by simp [h0]
              by_cases hd0 : 0 < d
              · have hd0' : decide ((0 : Int) < (d : Int)) = true := decide_eq_true (by omega)
                have HN : Hid (rangeP d ps = none) := Lib.hid (by rw [HR.out, HS.out, rangeP_group hk (by rw [HG.out, h0]; simp [hd0])]; rfl)
                clear hk h0
                set_option maxRecDepth 10000 in go_wp2_with (first | (go_at_call 140; refine (impl_isStitch _ _).mono ?_; rintro e _ ⟨rfl, rfl⟩) | (go_at_call 92; refine (impl_within _ _ _ _).mono ?_; rintro e _ ⟨rfl, rfl⟩))
                go_ret
                exact ⟨ret_bool (by rw [HN.out]; rfl), by (repeat (first | exact Upd.refl _ _ _ | assumption | (refine Upd.setCell ?_ (by first | omega | (simp; done) | (simp; omega)) (by first | omega | (simp; done) | (simp; omega)) _) | (refine Upd.trans ?_ (upd_alloc _ _ _ _)))), fun o' ho' => by rw [HN.out] at ho'; cases ho'⟩
              · have hd0' : decide ((0 : Int) < (d : Int)) = false := decide_eq_false (by omega)
                have HGT : Hid (groupP d p (segP ps (k + 1) ps.length).length = true) := Lib.hid (by rw [HG.out, ht, HNL.out, hn]; simp; omega)
                have hd3 : d < 3 := by omega
                have hsl : (segP ps (k + 1) (k + 1 + n)).length = n := by rw [segP_length hlen]; omega
                have f3 : ((d + 1 : Nat) : Int) = (d : Int) + 1 := by omega
                have HIC : Hid (∀ (W : World) (v' : Nat), Below w0.heap.size w0 W → Blk W g 3 #[.int .i64 v'] → v' + n ≤ 100 → Calls Try.prog 79 #[.slice (some ⟨b1, off + (k + 1) * 3, none⟩) n (c - (k + 1)), .int .i64 ((d : Int) + 1), .pointer (some ⟨g, 0, none⟩)] W fun e w' => e = .returned (.bool (rangeP (d + 1) (segP ps (k + 1) (k + 1 + n))).isSome) ∧ Upd g (g + 1) W w' ∧ ∀ o, rangeP (d + 1) (segP ps (k + 1) (k + 1 + n)) = some o → Blk w' g 3 #[.int .i64 ((v' + o : Nat) : Int)]) := Lib.hid (fun W v' hW hB hv' => by
                  have := IH.out n (by omega) (segP ps (k + 1) (k + 1 + n)) (some ⟨b1, off + (k + 1) * 3, none⟩) (c - (k + 1)) (d + 1) v' W (by rw [hsl]; exact Nat.le_refl _) (by rw [hsl]; omega) (by rw [hsl]; omega) (by omega) (Pieces.seg h hlen) hW hB (by rw [hsl]; exact hv') (by omega)
                  rw [hsl, f3] at this
                  exact this)
                clear f3 hsl
                have HT : Hid ((segP ps (k + 1) ps.length).take p.len.toNat = segP ps (k + 1) (k + 1 + n)) := Lib.hid (by rw [HNL.out]; exact segP_take hlen)
                have HD : Hid ((segP ps (k + 1) ps.length).drop p.len.toNat = segP ps (k + 1 + n) ps.length) := Lib.hid (by rw [HNL.out]; exact segP_drop)
                have bs : Blk ((wr.setCell ⟨g, 0, none⟩ (.int .i64 ((v : Int) + (o : Int) + 1))).alloc (.cells #[.int .i64 p.kind, .int .i64 p.times, .int .i64 (n : Int)] 102)) g 3 #[.int .i64 ((v + o + 1 : Nat) : Int)] := by have := (bx.set1 (.int .i64 ((v : Int) + (o : Int) + 1))).alloc (.cells #[.int .i64 p.kind, .int .i64 p.times, .int .i64 (n : Int)] 102); simpa using this
                have bp : Blk ((wr.setCell ⟨g, 0, none⟩ (.int .i64 ((v : Int) + (o : Int) + 1))).alloc (.cells #[.int .i64 p.kind, .int .i64 p.times, .int .i64 (n : Int)] 102)) wr.heap.size 102 #[.int .i64 p.kind, .int .i64 p.times, .int .i64 (n : Int)] := by have := Blk.new (wr.setCell ⟨g, 0, none⟩ (.int .i64 ((v : Int) + (o : Int) + 1))) 102 #[.int .i64 p.kind, .int .i64 p.times, .int .i64 (n : Int)]; simpa using this
                have HBS := Lib.hid bs; clear bs
                have HBP := Lib.hid bp; clear bp
                cases hin : (rangeP (d + 1) (segP ps (k + 1) (k + 1 + n))).isSome
                · have HN : Hid (rangeP d ps = none) := Lib.hid (by rw [HR.out, HS.out, rangeP_inner hk (by rw [HT.out]; simpa using hin)]; rfl)
                  clear hk h0
                  set_option maxRecDepth 10000 in go_wp2_with (first | (go_at_call 140; refine (impl_isStitch _ _).mono ?_; rintro e _ ⟨rfl, rfl⟩) | (go_at_call 92; refine (impl_within _ _ _ _).mono ?_; rintro e _ ⟨rfl, rfl⟩))
                  refine (HIC.out _ (v + o + 1) (by (repeat (first | exact Below.refl _ _ | assumption | apply Below.drew | apply below_drewN | (refine Below.alloc ?_ (by first | omega | (simp; done) | (simp; omega)) _) | (refine Below.setCell ?_ (by first | omega | (simp; done) | (simp; omega)) _)))) HBS.out (by omega)).mono ?_; rintro e w2 ⟨rfl, u2, hbx2⟩
                  have HX2 := Lib.hid hbx2; clear hbx2
                  obtain ⟨s0, s1, s2⟩ := (Blk.upd HBP.out u2 (Or.inr (by omega))).c3
                  have hu2 : Upd g (g + 1) w w2 := Upd.trans (by (repeat (first | exact Upd.refl _ _ _ | assumption | (refine Upd.setCell ?_ (by first | omega | (simp; done) | (simp; omega)) (by first | omega | (simp; done) | (simp; omega)) _) | (refine Upd.trans ?_ (upd_alloc _ _ _ _))))) u2
                  set_option maxRecDepth 10000 in go_wp2_with (first | (go_at_call 140; refine (impl_isStitch _ _).mono ?_; rintro e _ ⟨rfl, rfl⟩) | (go_at_call 92; refine (impl_within _ _ _ _).mono ?_; rintro e _ ⟨rfl, rfl⟩))
                  go_ret
                  exact ⟨ret_bool (by rw [HN.out]; rfl), hu2, fun o' ho' => by rw [HN.out] at ho'; cases ho'⟩
                · have HQ : Hid (rangeP d ps = (rangeP d (segP ps (k + 1 + n) ps.length)).map (fun q => (o + 1) + q)) := Lib.hid (by rw [HR.out, HS.out, rangeP_open hk hd3 HGT.out (by rw [HT.out]; exact hin), HD.out, Option.map_map]; congr 1; funext q; simp [h0]; omega)
                  have HZ : Hid (rangeP (d + 1) (segP ps (k + 1) (k + 1 + n)) = some 0) := Lib.hid (by obtain ⟨q, hq⟩ := Option.isSome_iff_exists.1 hin; rw [hq, rangeP_zero _ (d + 1) (by omega) _ (Nat.le_refl _) q hq])
                  clear hk h0
                  set_option maxRecDepth 10000 in go_wp2_with (first | (go_at_call 140; refine (impl_isStitch _ _).mono ?_; rintro e _ ⟨rfl, rfl⟩) | (go_at_call 92; refine (impl_within _ _ _ _).mono ?_; rintro e _ ⟨rfl, rfl⟩))
                  refine (HIC.out _ (v + o + 1) (by (repeat (first | exact Below.refl _ _ | assumption | apply Below.drew | apply below_drewN | (refine Below.alloc ?_ (by first | omega | (simp; done) | (simp; omega)) _) | (refine Below.setCell ?_ (by first | omega | (simp; done) | (simp; omega)) _)))) HBS.out (by omega)).mono ?_; rintro e w2 ⟨rfl, u2, hbx2⟩
                  have HX2 := Lib.hid hbx2; clear hbx2
                  obtain ⟨s0, s1, s2⟩ := (Blk.upd HBP.out u2 (Or.inr (by omega))).c3
                  have hu2 : Upd g (g + 1) w w2 := Upd.trans (by (repeat (first | exact Upd.refl _ _ _ | assumption | (refine Upd.setCell ?_ (by first | omega | (simp; done) | (simp; omega)) (by first | omega | (simp; done) | (simp; omega)) _) | (refine Upd.trans ?_ (upd_alloc _ _ _ _))))) u2
                  set_option maxRecDepth 10000 in go_wp2_with (first | (go_at_call 140; refine (impl_isStitch _ _).mono ?_; rintro e _ ⟨rfl, rfl⟩) | (go_at_call 92; refine (impl_within _ _ _ _).mono ?_; rintro e _ ⟨rfl, rfl⟩))
                  refine ⟨⟨k + 1 + n, o + 1, by omega, by omega, by go_num, HQ.out, hu2, ?_⟩, by simp [intOf]; omega⟩
                  have := HX2.out 0 HZ.out
                  simpa [Nat.add_assoc] using this
            · have h0' : (p.times == 0) = false := by simpa using h0
              by_cases hd3 : d < 3
              · have HGT : Hid (groupP d p (segP ps (k + 1) ps.length).length = true) := Lib.hid (by rw [HG.out, ht, HNL.out, hn]; simp [h0])
                have hsl : (segP ps (k + 1) (k + 1 + n)).length = n := by rw [segP_length hlen]; omega
                have f3 : ((d + 1 : Nat) : Int) = (d : Int) + 1 := by omega
                have HIC : Hid (∀ (W : World) (v' : Nat), Below w0.heap.size w0 W → Blk W g 3 #[.int .i64 v'] → v' + n ≤ 100 → Calls Try.prog 79 #[.slice (some ⟨b1, off + (k + 1) * 3, none⟩) n (c - (k + 1)), .int .i64 ((d : Int) + 1), .pointer (some ⟨g, 0, none⟩)] W fun e w' => e = .returned (.bool (rangeP (d + 1) (segP ps (k + 1) (k + 1 + n))).isSome) ∧ Upd g (g + 1) W w' ∧ ∀ o, rangeP (d + 1) (segP ps (k + 1) (k + 1 + n)) = some o → Blk w' g 3 #[.int .i64 ((v' + o : Nat) : Int)]) := Lib.hid (fun W v' hW hB hv' => by
                  have := IH.out n (by omega) (segP ps (k + 1) (k + 1 + n)) (some ⟨b1, off + (k + 1) * 3, none⟩) (c - (k + 1)) (d + 1) v' W (by rw [hsl]; exact Nat.le_refl _) (by rw [hsl]; omega) (by rw [hsl]; omega) (by omega) (Pieces.seg h hlen) hW hB (by rw [hsl]; exact hv') (by omega)
                  rw [hsl, f3] at this
                  exact this)
                clear f3 hsl
                have HT : Hid ((segP ps (k + 1) ps.length).take p.len.toNat = segP ps (k + 1) (k + 1 + n)) := Lib.hid (by rw [HNL.out]; exact segP_take hlen)
                have HD : Hid ((segP ps (k + 1) ps.length).drop p.len.toNat = segP ps (k + 1 + n) ps.length) := Lib.hid (by rw [HNL.out]; exact segP_drop)
                have bs := b1x
                have bp := Blk.new wr 102 #[.int .i64 p.kind, .int .i64 p.times, .int .i64 (n : Int)]
                have HBS := Lib.hid bs; clear bs
                have HBP := Lib.hid bp; clear bp
                cases hin : (rangeP (d + 1) (segP ps (k + 1) (k + 1 + n))).isSome
                · have HN : Hid (rangeP d ps = none) := Lib.hid (by rw [HR.out, HS.out, rangeP_inner hk (by rw [HT.out]; simpa using hin)]; rfl)
                  clear hk h0
                  set_option maxRecDepth 10000 in go_wp2_with (first | (go_at_call 140; refine (impl_isStitch _ _).mono ?_; rintro e _ ⟨rfl, rfl⟩) | (go_at_call 92; refine (impl_within _ _ _ _).mono ?_; rintro e _ ⟨rfl, rfl⟩))
                  refine (HIC.out _ (v + o) (by (repeat (first | exact Below.refl _ _ | assumption | apply Below.drew | apply below_drewN | (refine Below.alloc ?_ (by first | omega | (simp; done) | (simp; omega)) _) | (refine Below.setCell ?_ (by first | omega | (simp; done) | (simp; omega)) _)))) HBS.out (by omega)).mono ?_; rintro e w2 ⟨rfl, u2, hbx2⟩
                  have HX2 := Lib.hid hbx2; clear hbx2
                  obtain ⟨s0, s1, s2⟩ := (Blk.upd HBP.out u2 (Or.inr (by omega))).c3
                  have hu2 : Upd g (g + 1) w w2 := Upd.trans (by (repeat (first | exact Upd.refl _ _ _ | assumption | (refine Upd.setCell ?_ (by first | omega | (simp; done) | (simp; omega)) (by first | omega | (simp; done) | (simp; omega)) _) | (refine Upd.trans ?_ (upd_alloc _ _ _ _))))) u2
                  set_option maxRecDepth 10000 in go_wp2_with (first | (go_at_call 140; refine (impl_isStitch _ _).mono ?_; rintro e _ ⟨rfl, rfl⟩) | (go_at_call 92; refine (impl_within _ _ _ _).mono ?_; rintro e _ ⟨rfl, rfl⟩))
                  go_ret
                  exact ⟨ret_bool (by rw [HN.out]; rfl), hu2, fun o' ho' => by rw [HN.out] at ho'; cases ho'⟩
                · have HQ : Hid (rangeP d ps = (rangeP d (segP ps (k + 1 + n) ps.length)).map (fun q => (o) + q)) := Lib.hid (by rw [HR.out, HS.out, rangeP_open hk hd3 HGT.out (by rw [HT.out]; exact hin), HD.out, Option.map_map]; congr 1; funext q; simp [h0])
                  have HZ : Hid (rangeP (d + 1) (segP ps (k + 1) (k + 1 + n)) = some 0) := Lib.hid (by obtain ⟨q, hq⟩ := Option.isSome_iff_exists.1 hin; rw [hq, rangeP_zero _ (d + 1) (by omega) _ (Nat.le_refl _) q hq])
                  clear hk h0
                  set_option maxRecDepth 10000 in go_wp2_with (first | (go_at_call 140; refine (impl_isStitch _ _).mono ?_; rintro e _ ⟨rfl, rfl⟩) | (go_at_call 92; refine (impl_within _ _ _ _).mono ?_; rintro e _ ⟨rfl, rfl⟩))
                  refine (HIC.out _ (v + o) (by (repeat (first | exact Below.refl _ _ | assumption | apply Below.drew | apply below_drewN | (refine Below.alloc ?_ (by first | omega | (simp; done) | (simp; omega)) _) | (refine Below.setCell ?_ (by first | omega | (simp; done) | (simp; omega)) _)))) HBS.out (by omega)).mono ?_; rintro e w2 ⟨rfl, u2, hbx2⟩
                  have HX2 := Lib.hid hbx2; clear hbx2
                  obtain ⟨s0, s1, s2⟩ := (Blk.upd HBP.out u2 (Or.inr (by omega))).c3
                  have hu2 : Upd g (g + 1) w w2 := Upd.trans (by (repeat (first | exact Upd.refl _ _ _ | assumption | (refine Upd.setCell ?_ (by first | omega | (simp; done) | (simp; omega)) (by first | omega | (simp; done) | (simp; omega)) _) | (refine Upd.trans ?_ (upd_alloc _ _ _ _))))) u2
                  set_option maxRecDepth 10000 in go_wp2_with (first | (go_at_call 140; refine (impl_isStitch _ _).mono ?_; rintro e _ ⟨rfl, rfl⟩) | (go_at_call 92; refine (impl_within _ _ _ _).mono ?_; rintro e _ ⟨rfl, rfl⟩))
                  refine ⟨⟨k + 1 + n, o, by omega, by omega, by go_num, HQ.out, hu2, ?_⟩, by simp [intOf]; omega⟩
                  have := HX2.out 0 HZ.out
                  exact this
              · have HN : Hid (rangeP d ps = none) := Lib.hid (by rw [HR.out, HS.out, rangeP_group hk (by omega)]; rfl)
                clear hk h0
                have hd33 : d = 3 := by omega
                subst hd33
                set_option maxRecDepth 10000 in go_wp2_with (first | (go_at_call 140; refine (impl_isStitch _ _).mono ?_; rintro e _ ⟨rfl, rfl⟩) | (go_at_call 92; refine (impl_within _ _ _ _).mono ?_; rintro e _ ⟨rfl, rfl⟩))
                refine (impl_arePieces_deep n _ _ _ _ (by omega) (by omega)).mono ?_; rintro e _ ⟨rfl, rfl⟩
                set_option maxRecDepth 10000 in go_wp2_with (first | (go_at_call 140; refine (impl_isStitch _ _).mono ?_; rintro e _ ⟨rfl, rfl⟩) | (go_at_call 92; refine (impl_within _ _ _ _).mono ?_; rintro e _ ⟨rfl, rfl⟩))
                go_ret
                exact ⟨ret_bool (by rw [HN.out]; rfl), by (repeat (first | exact Upd.refl _ _ _ | assumption | (refine Upd.setCell ?_ (by first | omega | (simp; done) | (simp; omega)) (by first | omega | (simp; done) | (simp; omega)) _) | (refine Upd.trans ?_ (upd_alloc _ _ _ _)))), fun o' ho' => by rw [HN.out] at ho'; cases ho'⟩
      · have hk' : (p.kind != 12) = true := by simpa using hk
        cases t1 : isStitchB p.kind
        · have HN : Hid (rangeP d ps = none) := Lib.hid (by rw [HR.out, HS.out, rangeP_bad hk (by simp [plainP, t1])]; rfl)
          clear hk
          set_option maxRecDepth 10000 in go_wp2_with (first | (go_at_call 140; refine (impl_isStitch _ _).mono ?_; rintro e _ ⟨rfl, rfl⟩) | (go_at_call 92; refine (impl_within _ _ _ _).mono ?_; rintro e _ ⟨rfl, rfl⟩))
          go_ret
          exact ⟨ret_bool (by rw [HN.out]; rfl), by (repeat (first | exact Upd.refl _ _ _ | assumption | (refine Upd.setCell ?_ (by first | omega | (simp; done) | (simp; omega)) (by first | omega | (simp; done) | (simp; omega)) _) | (refine Upd.trans ?_ (upd_alloc _ _ _ _)))), fun o' ho' => by rw [HN.out] at ho'; cases ho'⟩
        · by_cases t3 : p.len = 0
          · have t3' : (p.len != 0) = false := by simp [t3]
            cases t2 : inR p.times 1 16
            · have HN : Hid (rangeP d ps = none) := Lib.hid (by rw [HR.out, HS.out, rangeP_bad hk (by simp [plainP, t2])]; rfl)
              clear hk t3
              set_option maxRecDepth 10000 in go_wp2_with (first | (go_at_call 140; refine (impl_isStitch _ _).mono ?_; rintro e _ ⟨rfl, rfl⟩) | (go_at_call 92; refine (impl_within _ _ _ _).mono ?_; rintro e _ ⟨rfl, rfl⟩))
              go_ret
              exact ⟨ret_bool (by rw [HN.out]; rfl), by (repeat (first | exact Upd.refl _ _ _ | assumption | (refine Upd.setCell ?_ (by first | omega | (simp; done) | (simp; omega)) (by first | omega | (simp; done) | (simp; omega)) _) | (refine Upd.trans ?_ (upd_alloc _ _ _ _)))), fun o' ho' => by rw [HN.out] at ho'; cases ho'⟩
            · have HPL : Hid (rangeP d (segP ps k ps.length) = rangeP d (segP ps (k + 1) ps.length)) := Lib.hid (by rw [HS.out, rangeP_plain hk (by simp [plainP, t1, t2, t3])])
              clear t3 hk
              set_option maxRecDepth 10000 in go_wp2_with (first | (go_at_call 140; refine (impl_isStitch _ _).mono ?_; rintro e _ ⟨rfl, rfl⟩) | (go_at_call 92; refine (impl_within _ _ _ _).mono ?_; rintro e _ ⟨rfl, rfl⟩))
              exact ⟨⟨k + 1, o, by omega, by omega, by go_num, by rw [HR.out, HPL.out], by (repeat (first | exact Upd.refl _ _ _ | assumption | (refine Upd.setCell ?_ (by first | omega | (simp; done) | (simp; omega)) (by first | omega | (simp; done) | (simp; omega)) _) | (refine Upd.trans ?_ (upd_alloc _ _ _ _)))), bx.alloc _⟩, by simp [intOf]; omega⟩
          · have t3' : (p.len != 0) = true := by simpa using t3
            have HN : Hid (rangeP d ps = none) := Lib.hid (by rw [HR.out, HS.out, rangeP_bad hk (by simp [plainP, t3])]; rfl)
            clear hk t3
            set_option maxRecDepth 10000 in go_wp2_with (first | (go_at_call 140; refine (impl_isStitch _ _).mono ?_; rintro e _ ⟨rfl, rfl⟩) | (go_at_call 92; refine (impl_within _ _ _ _).mono ?_; rintro e _ ⟨rfl, rfl⟩))
            go_ret
            exact ⟨ret_bool (by rw [HN.out]; rfl), by (repeat (first | exact Upd.refl _ _ _ | assumption | (refine Upd.setCell ?_ (by first | omega | (simp; done) | (simp; omega)) (by first | omega | (simp; done) | (simp; omega)) _) | (refine Upd.trans ?_ (upd_alloc _ _ _ _)))), fun o' ho' => by rw [HN.out] at ho'; cases ho'⟩
    · go_wp2_with (fail)
      go_ret
      have : k = ps.length := by omega
      subst this
      have e := HR.out
      rw [segP_nil, rangeP_nil] at e
      refine ⟨ret_bool (by rw [e]; rfl), hu, fun o' ho' => ?_⟩
      rw [e] at ho'
      simp at ho'
      subst ho'
      exact bx

end Go.Proofs.Ytdnchjchgejkeaa
