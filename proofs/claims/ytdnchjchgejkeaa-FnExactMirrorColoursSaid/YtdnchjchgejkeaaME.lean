/- MirrorColours, the program's function. -/
import Derived.Test.YtdnchjchgejkeaaMD
namespace Go.Proofs.Ytdnchjchgejkeaa
open Go.RowKit

theorem OwnII.farT {w : World} {lo hi n : Nat} {A : Option Addr} {c : Nat} {xss : List (List Int)} {g : Nat} {t : TypeId} {bs : Array Value} (h : OwnII w lo hi A n c xss) (hb : Blk w g t bs) (t1 : t ≠ 2) (t2 : t ≠ 29) (j : Nat) (u : Value) : OwnII (w.setCell ⟨g, j, none⟩ u) lo hi A n c xss := by
  obtain ⟨cs, h1, h2⟩ := h.ex
  exact ⟨cs, h1.farT hb t2 j u, h2.farT hb t1 j u⟩
theorem cntII_rev (xss : List (List Int)) : cntII (xss.map List.reverse) = cntII xss := by
  induction xss with
  | nil => rfl
  | cons x r ih => simp [cntII, ih]
def revTo (xss : List (List Int)) (k : Nat) : List (List Int) := (xss.take k).map List.reverse ++ xss.drop k
theorem revTo_length (xss : List (List Int)) (k : Nat) : (revTo xss k).length = xss.length := by simp [revTo]; omega
theorem revTo_at {xss : List (List Int)} {k : Nat} {row : List Int} (h : xss[k]? = some row) : (revTo xss k)[k]? = some row ∧ (revTo xss k).set k row.reverse = revTo xss (k + 1) := by
  have hk : k < xss.length := (List.getElem?_eq_some_iff.1 h).1
  have hl : ((xss.take k).map List.reverse).length = k := by simp; omega
  refine ⟨?_, ?_⟩
  · unfold revTo
    rw [List.getElem?_append_right (by omega), hl, Nat.sub_self, List.getElem?_drop, Nat.add_zero]
    exact h
  · unfold revTo
    rw [List.set_append_right _ _ (by omega), hl, Nat.sub_self, drop_cons h, List.set_cons_zero, take_snoc h, List.map_append, List.append_assoc]
    rfl

set_option maxHeartbeats 4000000 in
set_option maxRecDepth 10000 in
theorem impl_MirrorColours (n : Int) (xss : List (List Int)) (A : Option Addr) (c : Nat) (w : World) (h : Ints2 w A xss) (hl : xss.length ≤ 9223372036854775807) :
    Calls Try.prog 49 #[.agg #[.int .i64 n, .slice A xss.length c]] w fun e w' => ∃ A' c', e = .returned (.tuple #[.agg #[.int .i64 (mirC n xss).n, .slice A' (mirC n xss).xs.length c'], .int .i64 (mirCode n xss)]) ∧ OwnII w' w.heap.size w'.heap.size A' (mirC n xss).xs.length c' (mirC n xss).xs ∧ Below w.heap.size w w' := by
  have hb1 : Below w.heap.size w ((w.alloc (.cells #[.int .i64 n, .slice A xss.length c] 60)).alloc (.cells #[.int .i64 0, .slice none 0 0] 60)) := by (repeat (first | exact Below.refl _ _ | assumption | apply Below.drew | apply below_drewN | (refine Below.alloc ?_ (by first | omega | (simp; done) | (simp; omega)) _) | (refine Below.setCell ?_ (by first | omega | (simp; done) | (simp; omega)) _)))
  have ka := (Blk.new w 60 #[.int .i64 n, .slice A xss.length c]).alloc (.cells #[.int .i64 0, .slice none 0 0] 60)
  have kz : Blk ((w.alloc (.cells #[.int .i64 n, .slice A xss.length c] 60)).alloc (.cells #[.int .i64 0, .slice none 0 0] 60)) (w.heap.size + 1) 60 #[.int .i64 0, .slice none 0 0] := by simpa using Blk.new (w.alloc (.cells #[.int .i64 n, .slice A xss.length c] 60)) 60 #[.int .i64 0, .slice none 0 0]
  have t1 : (60 : TypeId) ≠ 2 := by decide
  have t2 : (60 : TypeId) ≠ 29 := by decide
  by_cases hv : coloursB n xss = true
  · have HF : Hid (mirC n xss = ⟨n, xss.map List.reverse⟩ ∧ mirCode n xss = 0) := Lib.hid ⟨by rw [mirC, if_pos hv], by rw [mirCode, if_pos hv]⟩
    have HV := Lib.hid hv
    have hms := mirC_size n xss
    rw [HF.out.1] at hms
    have hx8 : xss.length ≤ 8 := by simpa using hms.1
    have hsz : sizeII xss ≤ 1048576 := by
      have h1 := cntII_rev xss
      have h2 : cntII (xss.map List.reverse) ≤ 64 := hms.2
      unfold sizeII
      omega
    have hrl : ∀ row ∈ xss, row.length ≤ 1048576 := by
      intro row hr
      obtain ⟨k, hk⟩ := List.getElem?_of_mem hr
      have := cntII_at hk
      unfold sizeII at hsz
      omega
    have HRL := Lib.hid hrl; clear hrl hms
    go_enter Try.func49, Try.ntmps49
    go_wp2_with (fail)
    refine (impl_ValidColours n xss A c _ (h.below hb1) hl).mono ?_; rintro e w2 ⟨rfl, b2⟩
    have hb2 : Below w.heap.size w w2 := hb1.trans (b2.mono (by simp only [World.size_alloc]; omega))
    have ka2 := ka.below b2 (by simp; omega)
    have kz2 := kz.below b2 (by simp)
    have z2 := b2.size
    simp only [World.size_alloc] at z2
    go_wp2_with (fail)
    go_region_held3 (fun W' => W'.cell? ⟨w.heap.size, 0, none⟩ = some (.int .i64 n) ∧ W'.cell? ⟨w.heap.size, 1, none⟩ = some (.slice A xss.length c)) (first | exact ka2.c2 | exact (ka2.below b3 (by omega)).c2 | exact ((ka2.below b3 (by omega)).alloc _).c2 | exact (((ka2.below b3 (by omega)).alloc _).far (p := ⟨w3.heap.size, 0, none⟩) (by show w.heap.size ≠ w3.heap.size; have := b3.size; omega) _).c2 | exact ((((ka2.below b3 (by omega)).alloc _).far (p := ⟨w3.heap.size, 0, none⟩) (by show w.heap.size ≠ w3.heap.size; have := b3.size; omega) _).far (p := ⟨w3.heap.size, 1, none⟩) (by show w.heap.size ≠ w3.heap.size; have := b3.size; omega) _).c2 | exact (ka2.alloc (.cells #[.int .i64 0, .slice none 0 0] 60)).c2 | exact ((ka2.alloc (.cells #[.int .i64 0, .slice none 0 0] 60)).below b3 (by simp only [World.size_alloc]; omega)).c2 | exact ((ka2.alloc (.cells #[.int .i64 0, .slice none 0 0] 60)).far (p := ⟨w2.heap.size, 0, none⟩) (by show w.heap.size ≠ w2.heap.size; omega) _).c2 | exact (((ka2.alloc (.cells #[.int .i64 0, .slice none 0 0] 60)).below b3 (by simp only [World.size_alloc]; omega)).far (p := ⟨w2.heap.size, 0, none⟩) (by show w.heap.size ≠ w2.heap.size; omega) _).c2 | exact ((((ka2.alloc (.cells #[.int .i64 0, .slice none 0 0] 60)).below b3 (by simp only [World.size_alloc]; omega)).far (p := ⟨w2.heap.size, 0, none⟩) (by show w.heap.size ≠ w2.heap.size; omega) _).far (p := ⟨w2.heap.size, 1, none⟩) (by show w.heap.size ≠ w2.heap.size; omega) _).c2)
      (first | (go_at_call 113; refine (impl_copyLists xss A c _ (h.below (by first | exact Below.drew2 hb2 | exact Below.drew2 (Below.alloc hb2 (by omega) _))) hsz).mono ?_; rintro e w3 ⟨A3, c3, rfl, o3, b3'⟩; have b3 := undrew b3'; (first | (have kt : Blk w3 w2.heap.size 60 #[.int .i64 0, .slice none 0 0] := (Blk.new w2 60 #[.int .i64 0, .slice none 0 0]).below b3 (by simp); obtain ⟨u0, u1⟩ := kt.c2; have u2 := kt.frozen 0; have u3 := kt.frozen 1) | skip)))
    · have z3 := b3.size
      have KT := Blk.new w3 60 #[.int .i64 n, .slice A3 xss.length c3]
      have KZ := (kz2.below b3 (by omega)).alloc (.cells #[.int .i64 n, .slice A3 xss.length c3] 60)
      have OI : OwnII (w3.alloc (.cells #[.int .i64 n, .slice A3 xss.length c3] 60)) w2.heap.size w3.heap.size A3 xss.length c3 xss := o3.alloc _
      have HB : Below w.heap.size w (w3.alloc (.cells #[.int .i64 n, .slice A3 xss.length c3] 60)) := (hb2.trans (b3.mono (by omega))).alloc (by omega) _
      have hws : w3.heap.size ≤ (w3.alloc (.cells #[.int .i64 n, .slice A3 xss.length c3] 60)).heap.size := by simp
      generalize w3.alloc (.cells #[.int .i64 n, .slice A3 xss.length c3] 60) = W at KT KZ OI HB hws ⊢
      have hx : ∀ k, k < xss.length → xss[k]? = some (xss[k]?.getD []) := fun k hk => by rw [List.getElem?_eq_getElem hk]; rfl
      have HX := Lib.hid hx; clear hx
      obtain ⟨p0, p1⟩ := KT.c2
      have HO := Lib.hid OI; clear OI
      go_wp2_with (fail)
      go_loopw [20] (fun iv wr => ∃ k : Nat, k ≤ xss.length ∧ iv = .int .i64 k ∧ OwnII wr (w2.heap.size) w3.heap.size A3 xss.length c3 (revTo xss k) ∧ Upd (w2.heap.size) w3.heap.size W wr) (fun iv _ => xss.length - (intOf iv).toNat)
      case atStart => exact ⟨0, Nat.zero_le _, rfl, by simpa [revTo] using HO.out, Upd.refl _ _ _⟩
      case round =>
        clear HO p0 p1
        obtain ⟨k, hk, rfl, ho, hu⟩ := hrel
        by_cases hlt : k < xss.length
        · obtain ⟨hat, hset⟩ := revTo_at (HX.out k hlt)
          have hrw := HRL.out _ (List.mem_of_getElem? (HX.out k hlt))
          generalize xss[k]?.getD [] = row at hat hset hrw
          have HS := Lib.hid hset; clear hset
          obtain ⟨g, A', c', l, h', rfl, hcell, hoi, _, hback⟩ := ho.open_ hat
          clear hat
          go_wp2_with (fail)
          refine (slices_Reverse A' c' row l h' _ hoi hrw).mono ?_; rintro e w5 ⟨rfl, o5, u5⟩
          obtain ⟨o6, u6⟩ := hback w5 row.reverse (by simp) u5 o5
          rw [HS.out] at o6
          go_wp2_with (fail)
          go_roundw
          case rel => exact ⟨k + 1, by omega, by go_num, o6, hu.trans u6⟩
          case measure => simp [intOf]; omega
        · obtain rfl : k = xss.length := by omega
          have ho' : OwnII wr (w2.heap.size) w3.heap.size A3 xss.length c3 (xss.map List.reverse) := by
            have := ho
            unfold revTo at this
            rwa [take_all (Nat.le_refl _), drop_all (Nat.le_refl _), List.append_nil] at this
          have kt' := KT.upd hu (by omega)
          have kz' := KZ.upd hu (by omega)
          obtain ⟨p0, p1⟩ := kt'.c2
          obtain ⟨r0, r1⟩ := kz'.c2
          have g0 := kz'.frozen 0
          have g1 := kz'.frozen 1
          have hz3 := hu.size
          have hb9 : Below w.heap.size w wr := HB.trans ((hu.below (by omega)).mono (by omega))
          go_wp2_with (fail)
          refine bodyPost_ret (v := .tuple #[.agg #[.int .i64 (mirC n xss).n, .slice A3 (mirC n xss).xs.length c3], .int .i64 (mirCode n xss)]) (by rw [HF.out.1, HF.out.2]; simp [results, Try.results49, go_sem, r0, r1]) rfl ⟨A3, c3, rfl, ?_, ?_⟩
          · rw [HF.out.1]
            show OwnII _ _ _ _ (xss.map List.reverse).length _ (xss.map List.reverse)
            rw [List.length_map]
            have k1 := kz'.set20 (.int .i64 n)
            exact ((ho'.farT kz' t1 t2 0 _).farT k1 t1 t2 1 _).mono (by omega) (by simp; omega)
          · (repeat (first | exact Below.refl _ _ | assumption | apply Below.drew | apply below_drewN | (refine Below.alloc ?_ (by first | omega | (simp; done) | (simp; omega)) _) | (refine Below.setCell ?_ (by first | omega | (simp; done) | (simp; omega)) _)))
    · have z3 := b3.size
      simp only [World.size_alloc] at z3
      have kt : Blk w3 w2.heap.size 60 #[.int .i64 0, .slice none 0 0] := (Blk.new w2 60 #[.int .i64 0, .slice none 0 0]).below b3 (by simp)
      have kz3 := (kz2.alloc (.cells #[.int .i64 0, .slice none 0 0] 60)).below b3 (by simp only [World.size_alloc]; omega)
      have KT := (kt.set20 (.int .i64 n)).set21 (.slice A3 xss.length c3)
      have KZ := (kz3.far (p := ⟨w2.heap.size, 0, none⟩) (by show w.heap.size + 1 ≠ w2.heap.size; omega) (.int .i64 n)).far (p := ⟨w2.heap.size, 1, none⟩) (by show w.heap.size + 1 ≠ w2.heap.size; omega) (.slice A3 xss.length c3)
      have o3' : OwnII w3 (w2.heap.size + 1) w3.heap.size A3 xss.length c3 xss := by
        have h9 : (World.drew (w2.alloc (.cells #[.int .i64 0, .slice none 0 0] 60))).heap.size = w2.heap.size + 1 := by show (w2.alloc _).heap.size = _; simp
        rwa [h9] at o3
      have OI := (o3'.farT kt t1 t2 0 (.int .i64 n)).farT (kt.set20 (.int .i64 n)) t1 t2 1 (.slice A3 xss.length c3)
      have hb3' : Below w.heap.size w w3 := (hb2.alloc (by omega) _).trans (b3.mono (by simp only [World.size_alloc]; omega))
      have HB : Below w.heap.size w ((w3.setCell ⟨w2.heap.size, 0, none⟩ (.int .i64 n)).setCell ⟨w2.heap.size, 1, none⟩ (.slice A3 xss.length c3)) := by (repeat (first | exact Below.refl _ _ | assumption | apply Below.drew | apply below_drewN | (refine Below.alloc ?_ (by first | omega | (simp; done) | (simp; omega)) _) | (refine Below.setCell ?_ (by first | omega | (simp; done) | (simp; omega)) _)))
      have hws : w3.heap.size ≤ ((w3.setCell ⟨w2.heap.size, 0, none⟩ (.int .i64 n)).setCell ⟨w2.heap.size, 1, none⟩ (.slice A3 xss.length c3)).heap.size := by simp
      generalize (w3.setCell ⟨w2.heap.size, 0, none⟩ (.int .i64 n)).setCell ⟨w2.heap.size, 1, none⟩ (.slice A3 xss.length c3) = W at KT KZ OI HB hws ⊢
      have hx : ∀ k, k < xss.length → xss[k]? = some (xss[k]?.getD []) := fun k hk => by rw [List.getElem?_eq_getElem hk]; rfl
      have HX := Lib.hid hx; clear hx
      obtain ⟨p0, p1⟩ := KT.c2
      have HO := Lib.hid OI; clear OI
      go_wp2_with (fail)
      go_loopw [20] (fun iv wr => ∃ k : Nat, k ≤ xss.length ∧ iv = .int .i64 k ∧ OwnII wr (w2.heap.size + 1) w3.heap.size A3 xss.length c3 (revTo xss k) ∧ Upd (w2.heap.size + 1) w3.heap.size W wr) (fun iv _ => xss.length - (intOf iv).toNat)
      case atStart => exact ⟨0, Nat.zero_le _, rfl, by simpa [revTo] using HO.out, Upd.refl _ _ _⟩
      case round =>
        clear HO p0 p1
        obtain ⟨k, hk, rfl, ho, hu⟩ := hrel
        by_cases hlt : k < xss.length
        · obtain ⟨hat, hset⟩ := revTo_at (HX.out k hlt)
          have hrw := HRL.out _ (List.mem_of_getElem? (HX.out k hlt))
          generalize xss[k]?.getD [] = row at hat hset hrw
          have HS := Lib.hid hset; clear hset
          obtain ⟨g, A', c', l, h', rfl, hcell, hoi, _, hback⟩ := ho.open_ hat
          clear hat
          go_wp2_with (fail)
          refine (slices_Reverse A' c' row l h' _ hoi hrw).mono ?_; rintro e w5 ⟨rfl, o5, u5⟩
          obtain ⟨o6, u6⟩ := hback w5 row.reverse (by simp) u5 o5
          rw [HS.out] at o6
          go_wp2_with (fail)
          go_roundw
          case rel => exact ⟨k + 1, by omega, by go_num, o6, hu.trans u6⟩
          case measure => simp [intOf]; omega
        · obtain rfl : k = xss.length := by omega
          have ho' : OwnII wr (w2.heap.size + 1) w3.heap.size A3 xss.length c3 (xss.map List.reverse) := by
            have := ho
            unfold revTo at this
            rwa [take_all (Nat.le_refl _), drop_all (Nat.le_refl _), List.append_nil] at this
          have kt' := KT.upd hu (by omega)
          have kz' := KZ.upd hu (by omega)
          obtain ⟨p0, p1⟩ := kt'.c2
          obtain ⟨r0, r1⟩ := kz'.c2
          have g0 := kz'.frozen 0
          have g1 := kz'.frozen 1
          have hz3 := hu.size
          have hb9 : Below w.heap.size w wr := HB.trans ((hu.below (by omega)).mono (by omega))
          go_wp2_with (fail)
          refine bodyPost_ret (v := .tuple #[.agg #[.int .i64 (mirC n xss).n, .slice A3 (mirC n xss).xs.length c3], .int .i64 (mirCode n xss)]) (by rw [HF.out.1, HF.out.2]; simp [results, Try.results49, go_sem, r0, r1]) rfl ⟨A3, c3, rfl, ?_, ?_⟩
          · rw [HF.out.1]
            show OwnII _ _ _ _ (xss.map List.reverse).length _ (xss.map List.reverse)
            rw [List.length_map]
            have k1 := kz'.set20 (.int .i64 n)
            exact ((ho'.farT kz' t1 t2 0 _).farT k1 t1 t2 1 _).mono (by omega) (by simp; omega)
          · (repeat (first | exact Below.refl _ _ | assumption | apply Below.drew | apply below_drewN | (refine Below.alloc ?_ (by first | omega | (simp; done) | (simp; omega)) _) | (refine Below.setCell ?_ (by first | omega | (simp; done) | (simp; omega)) _)))
  · have hv' : coloursB n xss = false := by simpa using hv
    have HF : Hid (mirC n xss = ⟨0, []⟩ ∧ mirCode n xss = 1) := Lib.hid ⟨by rw [mirC, if_neg hv], by rw [mirCode, if_neg hv]⟩
    clear hv
    go_enter Try.func49, Try.ntmps49
    go_wp2_with (fail)
    refine (impl_ValidColours n xss A c _ (h.below hb1) hl).mono ?_; rintro e w2 ⟨rfl, b2⟩
    have hb2 : Below w.heap.size w w2 := hb1.trans (b2.mono (by simp only [World.size_alloc]; omega))
    have kz2 := kz.below b2 (by simp)
    obtain ⟨r0, r1⟩ := kz2.c2
    have g0 := kz2.frozen 0
    have g1 := kz2.frozen 1
    go_wp2_with (fail)
    refine bodyPost_ret (v := .tuple #[.agg #[.int .i64 (mirC n xss).n, .slice none (mirC n xss).xs.length 0], .int .i64 (mirCode n xss)]) (by rw [HF.out.1, HF.out.2]; simp [results, Try.results49, go_sem, r0, r1]) rfl ⟨none, 0, rfl, ?_, ?_⟩
    · rw [HF.out.1]
      exact ⟨[], OwnC.nil _ _ _ _ _, ⟨rfl, fun k xs hx => by simp at hx, fun i j v v' g hi' => by simp at hi'⟩⟩
    · (repeat (first | exact Below.refl _ _ | assumption | apply Below.drew | apply below_drewN | (refine Below.alloc ?_ (by first | omega | (simp; done) | (simp; omega)) _) | (refine Below.setCell ?_ (by first | omega | (simp; done) | (simp; omega)) _)))

end Go.Proofs.Ytdnchjchgejkeaa
