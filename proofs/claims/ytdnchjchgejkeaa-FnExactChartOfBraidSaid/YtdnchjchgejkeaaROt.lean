/- RowOfLetters: the two functions. -/
import Derived.Test.YtdnchjchgejkeaaRO
import Derived.Test.YtdnchjchgejkeaaB
namespace Go.Proofs.Ytdnchjchgejkeaa
open Go.RowKit

structure RowX where
  d : Int
  r : Int
  xs : List Int
def apartAt (xs : List Int) (i : Nat) : Bool := !touchAny (xs.take i) (xs[i]?.getD 0)
def apartB (xs : List Int) : Bool := (List.range xs.length).all (apartAt xs)
def rolCode (n : Int) (xs : List Int) (d r : Int) : Int := if inR n 1 8 && dirB d && carrierB r then (if lettersB n xs then (if apartB xs then 0 else 6) else 1) else 2
def rolRow (n : Int) (xs : List Int) (d r : Int) : RowX := if rolCode n xs d r = 0 then ⟨d, r, rowFrom n.toNat xs 0⟩ else ⟨0, 0, []⟩
theorem rolRow_length (n : Int) (xs : List Int) (d r : Int) : (rolRow n xs d r).xs.length ≤ 8 := by
  unfold rolRow
  split
  · rename_i h
    have hn : inR n 1 8 = true := by
      unfold rolCode at h
      cases e : inR n 1 8
      · rw [e] at h; simp at h
      · rfl
    have := inR_iff.1 hn
    have := rowFrom_length n.toNat xs 8 0 (by omega)
    exact this
  · simp
theorem rol_err {n : Int} {xs : List Int} {d r k : Int} (e : rolCode n xs d r = k) (hk : k ≠ 0) : rolRow n xs d r = ⟨0, 0, []⟩ ∧ rolCode n xs d r = k := ⟨by rw [rolRow, if_neg (by rw [e]; exact hk)], e⟩
theorem letters_small {n : Int} {xs : List Int} (hn : inR n 1 8 = true) (h : lettersB n xs = true) : smallB xs := by
  intro y hy
  have h1 := inR_iff.1 hn
  unfold lettersB letterB at h
  simp only [List.all_eq_true, Bool.and_eq_true] at h
  have h2 := inR_iff.1 (h y hy).2
  omega
theorem smallB_take {xs : List Int} (h : smallB xs) (k : Nat) : smallB (xs.take k) := fun y hy => h y (List.mem_of_mem_take hy)
theorem apart_false {xs : List Int} {k : Nat} {x : Int} (hx : xs[k]? = some x) (h : touchAny (xs.take k) x = true) : apartB xs = false := by
  unfold apartB
  rw [List.all_eq_false]
  refine ⟨k, List.mem_range.2 (List.getElem?_eq_some_iff.1 hx).1, ?_⟩
  simp [apartAt, hx, h]
theorem apart_true {xs : List Int} (h : ∀ j, j < xs.length → apartAt xs j = true) : apartB xs = true := by
  unfold apartB
  rw [List.all_eq_true]
  exact fun j hj => h j (List.mem_range.1 hj)

set_option maxHeartbeats 2000000 in
set_option maxRecDepth 10000 in
theorem spec_RowOfLetters (n : Int) (xs : List Int) (A : Option Addr) (c : Nat) (d r : Int) (w : World) (h : Ints w A xs) (hl : xs.length ≤ 9223372036854775807) (hcap : xs.length ≤ c) :
    Calls Try.prog 30 #[.int .i64 n, .slice A xs.length c, .int .i64 d, .int .i64 r] w fun e w' => ∃ A' c', e = .returned (.tuple #[.agg #[.int .i64 (rolRow n xs d r).d, .int .i64 (rolRow n xs d r).r, .slice A' (rolRow n xs d r).xs.length c'], .int .i64 (rolCode n xs d r)]) ∧ OwnI w' w.heap.size w'.heap.size A' c' (rolRow n xs d r).xs ∧ Below w.heap.size w w' := by
  have ht : (44 : TypeId) ≠ 2 := by decide
  have b0 : Below w.heap.size w (w.alloc (.cells #[.int .i64 0, .int .i64 0, .slice none 0 0] 44)) := by (repeat (first | exact Below.refl _ _ | assumption | apply Below.drew | apply below_drewN | (refine Below.alloc ?_ (by first | omega | (simp; done) | (simp; omega)) _) | (refine Below.setCell ?_ (by first | omega | (simp; done) | (simp; omega)) _)))
  have k0 := Blk.new w 44 #[.int .i64 0, .int .i64 0, .slice none 0 0]
  cases hv : inR n 1 8
  · have HF : Hid (rolRow n xs d r = ⟨0, 0, []⟩ ∧ rolCode n xs d r = 2) := Lib.hid (rol_err (by simp [rolCode, hv]) (by decide))
    go_enter Try.func30, Try.ntmps30
    go_wp2_with (first | (go_at_call 86; refine (spec_l00In _ _ _ _).mono ?_; rintro e _ ⟨rfl, rfl⟩) | (go_at_call 87; refine (spec_l07Dir _ _).mono ?_; rintro e _ ⟨rfl, rfl⟩) | (go_at_call 88; refine (spec_l07Yarn _ _).mono ?_; rintro e _ ⟨rfl, rfl⟩))
    refine bodyPost_ret (v := .tuple #[.agg #[.int .i64 (rolRow n xs d r).d, .int .i64 (rolRow n xs d r).r, .slice none (rolRow n xs d r).xs.length 0], .int .i64 (rolCode n xs d r)]) (by rw [HF.out.1, HF.out.2]; simp [results, Try.results30, go_sem, ]) rfl ⟨none, 0, rfl, ?_, ?_⟩
    · rw [HF.out.1]; exact OwnC.nil _ _ _ _ _
    · (repeat (first | exact Below.refl _ _ | assumption | apply Below.drew | apply below_drewN | (refine Below.alloc ?_ (by first | omega | (simp; done) | (simp; omega)) _) | (refine Below.setCell ?_ (by first | omega | (simp; done) | (simp; omega)) _)))
  · cases hd : dirB d
    · have HF : Hid (rolRow n xs d r = ⟨0, 0, []⟩ ∧ rolCode n xs d r = 2) := Lib.hid (rol_err (by simp [rolCode, hd]) (by decide))
      go_enter Try.func30, Try.ntmps30
      go_wp2_with (first | (go_at_call 86; refine (spec_l00In _ _ _ _).mono ?_; rintro e _ ⟨rfl, rfl⟩) | (go_at_call 87; refine (spec_l07Dir _ _).mono ?_; rintro e _ ⟨rfl, rfl⟩) | (go_at_call 88; refine (spec_l07Yarn _ _).mono ?_; rintro e _ ⟨rfl, rfl⟩))
      refine bodyPost_ret (v := .tuple #[.agg #[.int .i64 (rolRow n xs d r).d, .int .i64 (rolRow n xs d r).r, .slice none (rolRow n xs d r).xs.length 0], .int .i64 (rolCode n xs d r)]) (by rw [HF.out.1, HF.out.2]; simp [results, Try.results30, go_sem, ]) rfl ⟨none, 0, rfl, ?_, ?_⟩
      · rw [HF.out.1]; exact OwnC.nil _ _ _ _ _
      · (repeat (first | exact Below.refl _ _ | assumption | apply Below.drew | apply below_drewN | (refine Below.alloc ?_ (by first | omega | (simp; done) | (simp; omega)) _) | (refine Below.setCell ?_ (by first | omega | (simp; done) | (simp; omega)) _)))
    · cases hr : carrierB r
      · have HF : Hid (rolRow n xs d r = ⟨0, 0, []⟩ ∧ rolCode n xs d r = 2) := Lib.hid (rol_err (by simp [rolCode, hr]) (by decide))
        go_enter Try.func30, Try.ntmps30
        go_wp2_with (first | (go_at_call 86; refine (spec_l00In _ _ _ _).mono ?_; rintro e _ ⟨rfl, rfl⟩) | (go_at_call 87; refine (spec_l07Dir _ _).mono ?_; rintro e _ ⟨rfl, rfl⟩) | (go_at_call 88; refine (spec_l07Yarn _ _).mono ?_; rintro e _ ⟨rfl, rfl⟩))
        refine bodyPost_ret (v := .tuple #[.agg #[.int .i64 (rolRow n xs d r).d, .int .i64 (rolRow n xs d r).r, .slice none (rolRow n xs d r).xs.length 0], .int .i64 (rolCode n xs d r)]) (by rw [HF.out.1, HF.out.2]; simp [results, Try.results30, go_sem, ]) rfl ⟨none, 0, rfl, ?_, ?_⟩
        · rw [HF.out.1]; exact OwnC.nil _ _ _ _ _
        · (repeat (first | exact Below.refl _ _ | assumption | apply Below.drew | apply below_drewN | (refine Below.alloc ?_ (by first | omega | (simp; done) | (simp; omega)) _) | (refine Below.setCell ?_ (by first | omega | (simp; done) | (simp; omega)) _)))
      · have hn18 := inR_iff.1 hv
        obtain ⟨m, rfl⟩ := Int.eq_ofNat_of_zero_le (show (0 : Int) ≤ n by omega)
        cases hle : lettersB m xs
        · have HF : Hid (rolRow m xs d r = ⟨0, 0, []⟩ ∧ rolCode m xs d r = 1) := Lib.hid (rol_err (by simp [rolCode, hv, hd, hr, hle]) (by decide))
          go_enter Try.func30, Try.ntmps30
          go_wp2_with (first | (go_at_call 86; refine (spec_l00In _ _ _ _).mono ?_; rintro e _ ⟨rfl, rfl⟩) | (go_at_call 87; refine (spec_l07Dir _ _).mono ?_; rintro e _ ⟨rfl, rfl⟩) | (go_at_call 88; refine (spec_l07Yarn _ _).mono ?_; rintro e _ ⟨rfl, rfl⟩))
          refine (spec_l03Letters _ _ _ _ _ (h.below b0) hl (by omega)).mono ?_; rintro e _ ⟨rfl, rfl⟩
          go_wp2_with (fail)
          refine bodyPost_ret (v := .tuple #[.agg #[.int .i64 (rolRow m xs d r).d, .int .i64 (rolRow m xs d r).r, .slice none (rolRow m xs d r).xs.length 0], .int .i64 (rolCode m xs d r)]) (by rw [HF.out.1, HF.out.2]; simp [results, Try.results30, go_sem, ]) rfl ⟨none, 0, rfl, ?_, ?_⟩
          · rw [HF.out.1]; exact OwnC.nil _ _ _ _ _
          · (repeat (first | exact Below.refl _ _ | assumption | apply Below.drew | apply below_drewN | (refine Below.alloc ?_ (by first | omega | (simp; done) | (simp; omega)) _) | (refine Below.setCell ?_ (by first | omega | (simp; done) | (simp; omega)) _)))
        · have HSM : Hid (smallB xs) := Lib.hid (letters_small hv hle)
          have HC0 : Hid (∀ b, apartB xs = b → rolCode m xs d r = if b then 0 else 6) := Lib.hid (fun b hb => by simp [rolCode, hv, hd, hr, hle, hb])
          go_enter Try.func30, Try.ntmps30
          go_wp2_with (first | (go_at_call 86; refine (spec_l00In _ _ _ _).mono ?_; rintro e _ ⟨rfl, rfl⟩) | (go_at_call 87; refine (spec_l07Dir _ _).mono ?_; rintro e _ ⟨rfl, rfl⟩) | (go_at_call 88; refine (spec_l07Yarn _ _).mono ?_; rintro e _ ⟨rfl, rfl⟩))
          refine (spec_l03Letters _ _ _ _ _ (h.below b0) hl (by omega)).mono ?_; rintro e _ ⟨rfl, rfl⟩
          go_wp2_with (fail)
          go_loopw [10] (fun iv wr => ∃ (k : Nat), k ≤ xs.length ∧ iv = .int .i64 k ∧ Hid (∀ j, j < k → apartAt xs j = true) ∧ Blk wr w.heap.size 44 #[.int .i64 0, .int .i64 0, .slice none 0 0] ∧ Below w.heap.size w wr) (fun iv _ => xs.length - (intOf iv).toNat)
          case atStart => exact ⟨0, Nat.zero_le _, rfl, Lib.hid (fun j hj => by omega), k0, b0⟩
          case round =>
            obtain ⟨k, hk, rfl, HA, kb, hb⟩ := hrel
            obtain ⟨q0, q1, q2⟩ := kb.c3
            have f0 := kb.frozen 0
            have f1 := kb.frozen 1
            have f2 := kb.frozen 2
            by_cases hlt : k < xs.length
            · obtain ⟨b, off, x, rfl, hc, hx⟩ := h k hlt
              replace hc := cells_below hb _ _ hc
              have HX := Lib.hid hx; clear hx
              have hkl : (xs.take k).length = k := by rw [List.length_take]; omega
              have j1 : (0 : Int) ≤ (k : Int) := by omega
              have j2 : (k : Int) < (xs.length : Int) := by omega
              have j3 : (k : Int) ≤ (c : Int) := by omega
              have hcon : ∀ W, Ints W (some ⟨b, off, none⟩) xs → Calls Try.prog 90 #[.slice (some ⟨b, off, none⟩) k c, .int .i64 x] W fun e w' => e = .returned (.bool (touchAny (xs.take k) x)) ∧ W = w' := fun W hW => by
                have := spec_l18Touch (some ⟨b, off, none⟩) c (xs.take k) x W (Ints.take hW k) (by omega) (smallB_take HSM.out k) (smallB_at HSM.out HX.out)
                rwa [hkl] at this
              have HC := Lib.hid hcon; clear hcon hkl
              have HI := Lib.hid (h.below hb)
              go_wp2_with (fail)
              go_quiet ((go_at_call 90; exact quietS (HC.out _ (HI.out.drewN _))))
              have kq := kb.drewN nq
              have hbq := below_drewN hb nq
              cases htt : touchAny (xs.take k) x
              · go_wp2_with (fail)
                go_roundw
                case rel =>
                  refine ⟨k + 1, by omega, by go_num, Lib.hid (fun j hj => ?_), kq, hbq⟩
                  rcases Nat.lt_or_ge j k with h1 | h1
                  · exact HA.out j h1
                  · obtain rfl : j = k := by omega
                    simp [apartAt, HX.out, htt]
                case measure => simp [intOf]; omega
              · have hap := apart_false HX.out htt
                have hc6 := HC0.out false hap
                have HF : Hid (rolRow m xs d r = ⟨0, 0, []⟩ ∧ rolCode m xs d r = 6) := Lib.hid ⟨by rw [rolRow, hc6]; rfl, hc6⟩
                clear hc6
                go_wp2_with (fail)
                refine bodyPost_ret (v := .tuple #[.agg #[.int .i64 (rolRow m xs d r).d, .int .i64 (rolRow m xs d r).r, .slice none (rolRow m xs d r).xs.length 0], .int .i64 (rolCode m xs d r)]) (by rw [HF.out.1, HF.out.2]; simp [results, Try.results30, go_sem, q0, q1, q2]) rfl ⟨none, 0, rfl, ?_, ?_⟩
                · rw [HF.out.1]; exact OwnC.nil _ _ _ _ _
                · (repeat (first | exact Below.refl _ _ | assumption | apply Below.drew | apply below_drewN | (refine Below.alloc ?_ (by first | omega | (simp; done) | (simp; omega)) _) | (refine Below.setCell ?_ (by first | omega | (simp; done) | (simp; omega)) _)))
            · have hap : apartB xs = true := apart_true fun j hj => HA.out j (by omega)
              have hc0 := HC0.out true hap
              have HF : Hid (rolRow m xs d r = ⟨d, r, rowFrom m xs 0⟩ ∧ rolCode m xs d r = 0) := Lib.hid ⟨by rw [rolRow, hc0]; rfl, hc0⟩
              clear hc0
              go_wp2_with (fail)
              refine (spec_l18Row m xs d r A c _ (h.below hb) hl (by omega)).mono ?_; rintro e w2 ⟨A2, c2, rfl, o2, b2⟩
              have hz9 := hb.size
              have hzk := kb.lt
              have k2 := kb.below b2 hzk
              have hb2 : Below w.heap.size w w2 := hb.trans (b2.mono hz9)
              obtain ⟨r0, r1, r2⟩ := k2.c3
              have g0 := k2.frozen 0
              have g1 := k2.frozen 1
              have g2 := k2.frozen 2
              go_wp2_with (fail)
              refine bodyPost_ret (v := .tuple #[.agg #[.int .i64 (rolRow m xs d r).d, .int .i64 (rolRow m xs d r).r, .slice A2 (rolRow m xs d r).xs.length c2], .int .i64 (rolCode m xs d r)]) (by rw [HF.out.1, HF.out.2]; simp [results, Try.results30, go_sem, r0, r1, r2]) rfl ⟨A2, c2, rfl, ?_, ?_⟩
              · rw [HF.out.1]
                have o3 : OwnI w2 w.heap.size w2.heap.size A2 c2 (rowFrom m xs 0) := o2.mono hz9 (Nat.le_refl _)
                have p1 := o3.farT k2 ht 0 (.int .i64 d)
                have k3 := k2.set30 (.int .i64 d)
                have p2 := p1.farT k3 ht 1 (.int .i64 r)
                have k4 := k3.set31 (.int .i64 r)
                exact (p2.farT k4 ht 2 _).mono (Nat.le_refl _) (by simp)
              · (repeat (first | exact Below.refl _ _ | assumption | apply Below.drew | apply below_drewN | (refine Below.alloc ?_ (by first | omega | (simp; done) | (simp; omega)) _) | (refine Below.setCell ?_ (by first | omega | (simp; done) | (simp; omega)) _)))

set_option maxHeartbeats 2000000 in
set_option maxRecDepth 10000 in
theorem impl_RowOfLetters (n : Int) (xs : List Int) (A : Option Addr) (c : Nat) (d r : Int) (w : World) (h : Ints w A xs) (hl : xs.length ≤ 9223372036854775807) (hcap : xs.length ≤ c) :
    Calls Try.prog 32 #[.int .i64 n, .slice A xs.length c, .int .i64 d, .int .i64 r] w fun e w' => ∃ A' c', e = .returned (.tuple #[.agg #[.int .i64 (rolRow n xs d r).d, .int .i64 (rolRow n xs d r).r, .slice A' (rolRow n xs d r).xs.length c'], .int .i64 (rolCode n xs d r)]) ∧ OwnI w' w.heap.size w'.heap.size A' c' (rolRow n xs d r).xs ∧ Below w.heap.size w w' := by
  have ht : (44 : TypeId) ≠ 2 := by decide
  have b0 : Below w.heap.size w (w.alloc (.cells #[.int .i64 0, .int .i64 0, .slice none 0 0] 44)) := by (repeat (first | exact Below.refl _ _ | assumption | apply Below.drew | apply below_drewN | (refine Below.alloc ?_ (by first | omega | (simp; done) | (simp; omega)) _) | (refine Below.setCell ?_ (by first | omega | (simp; done) | (simp; omega)) _)))
  have k0 := Blk.new w 44 #[.int .i64 0, .int .i64 0, .slice none 0 0]
  have hmf : ∀ (fn : Fn) (first cap : Array Value) (w : World), (Instr.makeFunc fn first cap).run Try.prog w = .ok (.func fn first cap) w := fun _ _ _ _ => rfl
  cases hv : inR n 1 8
  · have HF : Hid (rolRow n xs d r = ⟨0, 0, []⟩ ∧ rolCode n xs d r = 2) := Lib.hid (rol_err (by simp [rolCode, hv]) (by decide))
    go_enter Try.func32, Try.ntmps32
    go_wp2_with (first | (go_at_call 92; refine (impl_within _ _ _ _).mono ?_; rintro e _ ⟨rfl, rfl⟩) | (go_at_call 93; refine (impl_isDirection _ _).mono ?_; rintro e _ ⟨rfl, rfl⟩) | (go_at_call 94; refine (impl_isCarrier _ _).mono ?_; rintro e _ ⟨rfl, rfl⟩))
    refine bodyPost_ret (v := .tuple #[.agg #[.int .i64 (rolRow n xs d r).d, .int .i64 (rolRow n xs d r).r, .slice none (rolRow n xs d r).xs.length 0], .int .i64 (rolCode n xs d r)]) (by rw [HF.out.1, HF.out.2]; simp [results, Try.results32, go_sem, ]) rfl ⟨none, 0, rfl, ?_, ?_⟩
    · rw [HF.out.1]; exact OwnC.nil _ _ _ _ _
    · (repeat (first | exact Below.refl _ _ | assumption | apply Below.drew | apply below_drewN | (refine Below.alloc ?_ (by first | omega | (simp; done) | (simp; omega)) _) | (refine Below.setCell ?_ (by first | omega | (simp; done) | (simp; omega)) _)))
  · cases hd : dirB d
    · have HF : Hid (rolRow n xs d r = ⟨0, 0, []⟩ ∧ rolCode n xs d r = 2) := Lib.hid (rol_err (by simp [rolCode, hd]) (by decide))
      go_enter Try.func32, Try.ntmps32
      go_wp2_with (first | (go_at_call 92; refine (impl_within _ _ _ _).mono ?_; rintro e _ ⟨rfl, rfl⟩) | (go_at_call 93; refine (impl_isDirection _ _).mono ?_; rintro e _ ⟨rfl, rfl⟩) | (go_at_call 94; refine (impl_isCarrier _ _).mono ?_; rintro e _ ⟨rfl, rfl⟩))
      refine bodyPost_ret (v := .tuple #[.agg #[.int .i64 (rolRow n xs d r).d, .int .i64 (rolRow n xs d r).r, .slice none (rolRow n xs d r).xs.length 0], .int .i64 (rolCode n xs d r)]) (by rw [HF.out.1, HF.out.2]; simp [results, Try.results32, go_sem, ]) rfl ⟨none, 0, rfl, ?_, ?_⟩
      · rw [HF.out.1]; exact OwnC.nil _ _ _ _ _
      · (repeat (first | exact Below.refl _ _ | assumption | apply Below.drew | apply below_drewN | (refine Below.alloc ?_ (by first | omega | (simp; done) | (simp; omega)) _) | (refine Below.setCell ?_ (by first | omega | (simp; done) | (simp; omega)) _)))
    · cases hr : carrierB r
      · have HF : Hid (rolRow n xs d r = ⟨0, 0, []⟩ ∧ rolCode n xs d r = 2) := Lib.hid (rol_err (by simp [rolCode, hr]) (by decide))
        go_enter Try.func32, Try.ntmps32
        go_wp2_with (first | (go_at_call 92; refine (impl_within _ _ _ _).mono ?_; rintro e _ ⟨rfl, rfl⟩) | (go_at_call 93; refine (impl_isDirection _ _).mono ?_; rintro e _ ⟨rfl, rfl⟩) | (go_at_call 94; refine (impl_isCarrier _ _).mono ?_; rintro e _ ⟨rfl, rfl⟩))
        refine bodyPost_ret (v := .tuple #[.agg #[.int .i64 (rolRow n xs d r).d, .int .i64 (rolRow n xs d r).r, .slice none (rolRow n xs d r).xs.length 0], .int .i64 (rolCode n xs d r)]) (by rw [HF.out.1, HF.out.2]; simp [results, Try.results32, go_sem, ]) rfl ⟨none, 0, rfl, ?_, ?_⟩
        · rw [HF.out.1]; exact OwnC.nil _ _ _ _ _
        · (repeat (first | exact Below.refl _ _ | assumption | apply Below.drew | apply below_drewN | (refine Below.alloc ?_ (by first | omega | (simp; done) | (simp; omega)) _) | (refine Below.setCell ?_ (by first | omega | (simp; done) | (simp; omega)) _)))
      · have hn18 := inR_iff.1 hv
        obtain ⟨m, rfl⟩ := Int.eq_ofNat_of_zero_le (show (0 : Int) ≤ n by omega)
        cases hle : lettersB m xs
        · have HF : Hid (rolRow m xs d r = ⟨0, 0, []⟩ ∧ rolCode m xs d r = 1) := Lib.hid (rol_err (by simp [rolCode, hv, hd, hr, hle]) (by decide))
          go_enter Try.func32, Try.ntmps32
          go_wp2_with (first | (go_at_call 92; refine (impl_within _ _ _ _).mono ?_; rintro e _ ⟨rfl, rfl⟩) | (go_at_call 93; refine (impl_isDirection _ _).mono ?_; rintro e _ ⟨rfl, rfl⟩) | (go_at_call 94; refine (impl_isCarrier _ _).mono ?_; rintro e _ ⟨rfl, rfl⟩))
          refine (impl_areLetters _ _ _ xs _ (h.below b0) hl (by omega)).mono ?_; rintro e w2 ⟨rfl, b2⟩
          have k2 := k0.below b2 (by simp)
          have hb2 : Below w.heap.size w w2 := b0.trans (b2.mono (by simp))
          obtain ⟨r0, r1, r2⟩ := k2.c3
          have g0 := k2.frozen 0
          have g1 := k2.frozen 1
          have g2 := k2.frozen 2
          go_wp2_with (fail)
          refine bodyPost_ret (v := .tuple #[.agg #[.int .i64 (rolRow m xs d r).d, .int .i64 (rolRow m xs d r).r, .slice none (rolRow m xs d r).xs.length 0], .int .i64 (rolCode m xs d r)]) (by rw [HF.out.1, HF.out.2]; simp [results, Try.results32, go_sem, r0, r1, r2]) rfl ⟨none, 0, rfl, ?_, ?_⟩
          · rw [HF.out.1]; exact OwnC.nil _ _ _ _ _
          · (repeat (first | exact Below.refl _ _ | assumption | apply Below.drew | apply below_drewN | (refine Below.alloc ?_ (by first | omega | (simp; done) | (simp; omega)) _) | (refine Below.setCell ?_ (by first | omega | (simp; done) | (simp; omega)) _)))
        · have HSM : Hid (smallB xs) := Lib.hid (letters_small hv hle)
          have HC0 : Hid (∀ b, apartB xs = b → rolCode m xs d r = if b then 0 else 6) := Lib.hid (fun b hb => by simp [rolCode, hv, hd, hr, hle, hb])
          go_enter Try.func32, Try.ntmps32
          go_wp2_with (first | (go_at_call 92; refine (impl_within _ _ _ _).mono ?_; rintro e _ ⟨rfl, rfl⟩) | (go_at_call 93; refine (impl_isDirection _ _).mono ?_; rintro e _ ⟨rfl, rfl⟩) | (go_at_call 94; refine (impl_isCarrier _ _).mono ?_; rintro e _ ⟨rfl, rfl⟩))
          refine (impl_areLetters _ _ _ xs _ (h.below b0) hl (by omega)).mono ?_; rintro e w2 ⟨rfl, b2⟩
          have k2 := k0.below b2 (by simp)
          have hb2 : Below w.heap.size w w2 := b0.trans (b2.mono (by simp))
          go_wp2_with (fail)
          go_loopw [33] (fun iv wr => ∃ (k : Nat), k ≤ xs.length ∧ iv = .int .i64 k ∧ Hid (∀ j, j < k → apartAt xs j = true) ∧ Blk wr w.heap.size 44 #[.int .i64 0, .int .i64 0, .slice none 0 0] ∧ Below w.heap.size w wr) (fun iv _ => xs.length - (intOf iv).toNat)
          case atStart => exact ⟨0, Nat.zero_le _, rfl, Lib.hid (fun j hj => by omega), k2, hb2⟩
          case round =>
            clear k2 hb2
            obtain ⟨k, hk, rfl, HA, kb, hb⟩ := hrel
            have hzk := kb.lt
            by_cases hlt : k < xs.length
            · obtain ⟨b, off, x, rfl, hc, hx⟩ := h k hlt
              replace hc := cells_below hb _ _ hc
              have HX := Lib.hid hx; clear hx
              have hkl : (xs.take k).length = k := by rw [List.length_take]; omega
              have j1 : (0 : Int) ≤ (k : Int) := by omega
              have j3 : (k : Int) ≤ (c : Int) := by omega
              have hba : Below w.heap.size w (wr.alloc (.cells #[.int .i64 x] 2)) := by (repeat (first | exact Below.refl _ _ | assumption | apply Below.drew | apply below_drewN | (refine Below.alloc ?_ (by first | omega | (simp; done) | (simp; omega)) _) | (refine Below.setCell ?_ (by first | omega | (simp; done) | (simp; omega)) _)))
              have kba := kb.alloc (.cells #[.int .i64 x] 2)
              obtain ⟨q0, q1, q2⟩ := kb.c3
              obtain ⟨p0, p1, p2⟩ := ((((kb.set30 (.int .i64 0)).set31 (.int .i64 0)).set32 (.slice none 0 0)).alloc (.cells #[.int .i64 x] 2)).c3
              have f0 := kb.frozen 0
              have f1 := kb.frozen 1
              have f2 := kb.frozen 2
              have hcon : Calls Try.prog 96 #[.slice (some ⟨b, off, none⟩) k c, .func (.func 97) #[] #[.pointer (some ⟨wr.heap.size, 0, none⟩)]] (wr.alloc (.cells #[.int .i64 x] 2)) fun e w' => e = .returned (.bool (touchAny (xs.take k) x)) ∧ wr.alloc (.cells #[.int .i64 x] 2) = w' := by
                have := containsFunc_impl_RowOfLetters_1 x wr.heap.size (some ⟨b, off, none⟩) c (xs.take k) (wr.alloc (.cells #[.int .i64 x] 2)) (Ints.take (h.below hba) k) (by omega) (smallB_take HSM.out k) (smallB_at HSM.out HX.out) (by simp)
                rwa [hkl] at this
              have HC := Lib.hid hcon; clear hcon hkl
              cases htt : touchAny (xs.take k) x
              · go_wp2_with (go_at_call 96; refine HC.out.mono ?_; rintro e _ ⟨rfl, rfl⟩)
                go_roundw
                case rel =>
                  refine ⟨k + 1, by omega, by go_num, Lib.hid (fun j hj => ?_), kba, hba⟩
                  rcases Nat.lt_or_ge j k with h1 | h1
                  · exact HA.out j h1
                  · obtain rfl : j = k := by omega
                    simp [apartAt, HX.out, htt]
                case measure => simp [intOf]; omega
              · have hap := apart_false HX.out htt
                have hc6 := HC0.out false hap
                have HF : Hid (rolRow m xs d r = ⟨0, 0, []⟩ ∧ rolCode m xs d r = 6) := Lib.hid ⟨by rw [rolRow, hc6]; rfl, hc6⟩
                clear hc6
                go_wp2_with (go_at_call 96; refine HC.out.mono ?_; rintro e _ ⟨rfl, rfl⟩)
                refine bodyPost_ret (v := .tuple #[.agg #[.int .i64 (rolRow m xs d r).d, .int .i64 (rolRow m xs d r).r, .slice none (rolRow m xs d r).xs.length 0], .int .i64 (rolCode m xs d r)]) (by rw [HF.out.1, HF.out.2]; simp [results, Try.results32, go_sem, q0, q1, q2, p0, p1, p2]) rfl ⟨none, 0, rfl, ?_, ?_⟩
                · rw [HF.out.1]; exact OwnC.nil _ _ _ _ _
                · (repeat (first | exact Below.refl _ _ | assumption | apply Below.drew | apply below_drewN | (refine Below.alloc ?_ (by first | omega | (simp; done) | (simp; omega)) _) | (refine Below.setCell ?_ (by first | omega | (simp; done) | (simp; omega)) _)))
            · have hap : apartB xs = true := apart_true fun j hj => HA.out j (by omega)
              have hc0 := HC0.out true hap
              have HF : Hid (rolRow m xs d r = ⟨d, r, rowFrom m xs 0⟩ ∧ rolCode m xs d r = 0) := Lib.hid ⟨by rw [rolRow, hc0]; rfl, hc0⟩
              clear hc0
              go_wp2_with (fail)
              refine (impl_rowOfLetters m xs d r A c _ (h.below hb) hl (by omega)).mono ?_; rintro e w2 ⟨A2, c2, rfl, o2, b2⟩
              have hz9 := hb.size
              have k2 := kb.below b2 hzk
              have hb2 : Below w.heap.size w w2 := hb.trans (b2.mono hz9)
              obtain ⟨r0, r1, r2⟩ := k2.c3
              have g0 := k2.frozen 0
              have g1 := k2.frozen 1
              have g2 := k2.frozen 2
              go_wp2_with (fail)
              refine bodyPost_ret (v := .tuple #[.agg #[.int .i64 (rolRow m xs d r).d, .int .i64 (rolRow m xs d r).r, .slice A2 (rolRow m xs d r).xs.length c2], .int .i64 (rolCode m xs d r)]) (by rw [HF.out.1, HF.out.2]; simp [results, Try.results32, go_sem, r0, r1, r2]) rfl ⟨A2, c2, rfl, ?_, ?_⟩
              · rw [HF.out.1]
                have o3 : OwnI w2 w.heap.size w2.heap.size A2 c2 (rowFrom m xs 0) := o2.mono hz9 (Nat.le_refl _)
                have p1 := o3.farT k2 ht 0 (.int .i64 d)
                have k3 := k2.set30 (.int .i64 d)
                have p2 := p1.farT k3 ht 1 (.int .i64 r)
                have k4 := k3.set31 (.int .i64 r)
                exact (p2.farT k4 ht 2 _).mono (Nat.le_refl _) (by simp)
              · (repeat (first | exact Below.refl _ _ | assumption | apply Below.drew | apply below_drewN | (refine Below.alloc ?_ (by first | omega | (simp; done) | (simp; omega)) _) | (refine Below.setCell ?_ (by first | omega | (simp; done) | (simp; omega)) _)))

theorem laws_heldRow (d r : Int) (A : Option Addr) (c : Nat) (xs : List Int) (k0 : Int) (w : World) (h : Ints w A (marksI k0 xs.length)) (hk0 : 0 ≤ k0) (hk1 : k0 + xs.length ≤ 1000000000000) (_hl : xs.length ≤ 1000000000000) :
    Calls Try.prog 37 #[.agg #[.int .i64 d, .int .i64 r, .slice A xs.length c], .int .i64 k0] w fun e w' => e = .returned (.int .i64 (k0 + xs.length)) ∧ Below w.heap.size w w' := by
  have hd : decide (k0 + (xs.length : Int) < 0) = false := decide_eq_false (by omega)
  go_enter Try.func37, Try.ntmps37
  go_wp2_with (fail)
  refine (laws_heldInt64S A c xs.length k0 _ (h.below (by (repeat (first | exact Below.refl _ _ | assumption | apply Below.drew | apply below_drewN | (refine Below.alloc ?_ (by first | omega | (simp; done) | (simp; omega)) _) | (refine Below.setCell ?_ (by first | omega | (simp; done) | (simp; omega)) _))))) hk0 hk1).mono ?_
  rintro e _ ⟨rfl, rfl⟩
  go_wp2_with (fail)
  go_ret
  exact ⟨rfl, by (repeat (first | exact Below.refl _ _ | assumption | apply Below.drew | apply below_drewN | (refine Below.alloc ?_ (by first | omega | (simp; done) | (simp; omega)) _) | (refine Below.setCell ?_ (by first | omega | (simp; done) | (simp; omega)) _)))⟩

end Go.Proofs.Ytdnchjchgejkeaa
