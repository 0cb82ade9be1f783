/- Steps of the proof, joined from several texts: WF. -/
import Derived.Test.YtcgbogofmdjddaaDoorZ16

/- ShortRow, the given side's function. -/
namespace Go.Proofs.YtcgbogofmdjddaaDoor
open Go Go.RowKit

theorem spec_l00Same_sub {xs ys : List Int} {A B : Option Addr} {n c d : Nat} {w : World} (hx : xs.length = n) (hy : ys.length = n) (hn : n ≤ 100) (h : Ints w A xs) (h' : Ints w B ys) :
    Calls Tryd.prog 57 #[.slice A n c, .slice B n d] w fun e w' => e = .returned (.bool (decide (xs = ys))) ∧ ∃ n, w' = w.drewN n := by
  have := spec_l00Same A B c d xs ys w h h' (by omega) (by omega)
  rw [hx, hy] at this
  exact this
set_option maxHeartbeats 4000000 in
set_option maxRecDepth 10000 in
theorem spec_ShortRow (l : List Int) (A : Option Addr) (c : Nat) (w : World) (h : Ints w A l) (hl : l.length ≤ 9223372036854775807) (hc : l.length ≤ c) (hcm : c ≤ 9223372036854775807) :
    Calls Tryd.prog 19 #[.slice A l.length c] w fun e w' => e = .returned (.string (shortP l)) ∧ Below w.heap.size w w' := by
  cases hv : stitchesB l
  · have HF : Hid (shortP l = ⟨#[]⟩) := Lib.hid (by rw [shortP, hv]; rfl)
    go_enter Tryd.func19, Tryd.ntmps19
    go_wp2_with (fail)
    refine (spec_l14Ok A c l _ h hl).mono ?_; rintro e _ ⟨rfl, rfl⟩
    rw [hv]
    go_wp2_with (fail)
    go_ret
    exact ⟨by rw [HF.out]; rfl, Below.refl _ _⟩
  · have HF : Hid (shortP l = shF l 0 (txtP (compressed l))) := Lib.hid (by rw [shortP, hv]; rfl)
    have HV := Lib.hid hv
    have hl16 := (stitchesB_of hv).1
    obtain ⟨hg0, hg16⟩ := compressed_good hv
    have HG0 := Lib.hid hg0; clear hg0
    go_enter Tryd.func19, Tryd.ntmps19
    go_wp2_with (fail)
    refine (spec_l14Ok A c l _ h hl).mono ?_; rintro e _ ⟨rfl, rfl⟩
    rw [hv]
    clear hv
    go_wp2_with (fail)
    refine (spec_l16Compress A c l _ h (by omega)).mono ?_; rintro e w0 ⟨A0, c0, rfl, o0, b0⟩
    go_wp2_with (fail)
    refine (spec_l16Text 100 (compressed l) A0 c0 0 w0 (by omega) (by omega) (OwnC.cap o0) (OwnC.capmax o0) (OwnC.pieces o0) HG0.out).mono ?_; rintro e w1 ⟨rfl, b1⟩
    have hb1 := b0.trans (b1.mono b0.size)
    clear hg16 HG0 o0 b0 b1
    generalize txtP (compressed l) = B0 at HF ⊢
    go_wp2_with (fail)
    go_loopw [3, 4, 5, 6, 7, 8] (fun bv fv _ _ _ _ wr => ∃ (f : Nat) (b : ByteArray), f ≤ l.length ∧ fv = .int .i64 (f : Int) ∧ bv = .string b ∧ Hid (shortP l = shF l f b) ∧ Below w.heap.size w wr) (fun _ fv _ _ _ _ _ => l.length - (intOf fv).toNat)
    case atStart => exact ⟨0, B0, Nat.zero_le _, rfl, rfl, HF, hb1⟩
    case round =>
      obtain ⟨f, b, hf, rfl, rfl, HS, hb⟩ := hrel
      by_cases hfl : f < l.length
      · have dfl : decide ((f : Int) < (l.length : Int)) = true := decide_eq_true (by omega)
        obtain ⟨bA, oA, x0, rfl, _, _⟩ := h 0 (by omega)
        have HS2 : Hid (shortP l = shF l (f + 1) (shS l f 1 b)) := Lib.hid (by rw [HS.out, shF_yes hfl])
        clear HS
        obtain ⟨wo, rfl⟩ : ∃ wo : World, wo = wr := ⟨_, rfl⟩
        go_wp2_with (fail)
        go_loopw [3, 5, 6, 7, 8] (fun bv sv _ _ _ ws => ∃ (s : Nat) (b : ByteArray), 1 ≤ s ∧ s ≤ l.length + 1 ∧ sv = .int .i64 (s : Int) ∧ bv = .string b ∧ Hid (shortP l = shF l (f + 1) (shS l f s b)) ∧ Below w.heap.size w ws) (fun _ sv _ _ _ _ => l.length + 2 - (intOf sv).toNat)
        case atStart => exact ⟨1, b, Nat.le_refl _, by omega, rfl, rfl, HS2, hb⟩
        case round =>
          obtain ⟨s, b, hs1, hsl, rfl, rfl, HS, hb⟩ := hrel
          by_cases hfs : f + 2 * s ≤ l.length
          · have dfs : decide ((f : Int) + 2 * (s : Int) ≤ (l.length : Int)) = true := decide_eq_true (by omega)
            have HS2 : Hid (shortP l = shF l (f + 1) (shS l f (s + 1) (shT l f s 2 b))) := Lib.hid (by rw [HS.out, shS_yes hs1 hfs])
            clear HS
            obtain ⟨wo, rfl⟩ : ∃ wo : World, wo = wr := ⟨_, rfl⟩
            go_wp2_with (fail)
            go_loopw [3, 6, 7, 8] (fun bv kv _ _ ws => ∃ (k : Nat) (b : ByteArray), 2 ≤ k ∧ k ≤ l.length + 1 ∧ kv = .int .i64 (k : Int) ∧ bv = .string b ∧ Hid (shortP l = shF l (f + 1) (shS l f (s + 1) (shT l f s k b))) ∧ Below w.heap.size w ws) (fun _ kv _ _ _ => l.length + 2 - (intOf kv).toNat)
            case atStart => exact ⟨2, b, Nat.le_refl _, by omega, rfl, rfl, HS2, hb⟩
            case round =>
              obtain ⟨k, b, hk2, hkl, rfl, rfl, HS, hb⟩ := hrel
              have hz := hb.size
              obtain ⟨K, hK⟩ : ∃ K, K = k * s := ⟨_, rfl⟩
              obtain ⟨K0, hK0⟩ : ∃ K0, K0 = (k - 1) * s := ⟨_, rfl⟩
              have hKK : K = K0 + s := by
                obtain ⟨m, rfl⟩ : ∃ m, k = m + 1 := ⟨k - 1, by omega⟩
                rw [hK, hK0, Nat.succ_mul]; rfl
              have hKa : K ≤ K0 + s := by omega
              have hKb : K0 + s ≤ K := by omega
              clear hKK
              have hKs : K ≤ 17 * 17 := by rw [hK]; exact Nat.mul_le_mul (by omega) (by omega)
              have hPi : (k : Int) * (s : Int) = (K : Int) := by rw [hK]; push_cast; rfl
              have HRN : Hid (runs l f s k = runAt l f s (f + K0)) := Lib.hid (by rw [runs, decide_eq_true hs1, Bool.true_and, hK0])
              have HKE := Lib.hid hK
              clear hK hK0
              have w0' : IntKind.i64.wrap (K : Int) = (K : Int) := IntWalk.i64_in _ ⟨by omega, by omega⟩
              by_cases hin : f + K ≤ l.length
              · have din : decide ((f : Int) + (K : Int) ≤ (l.length : Int)) = true := decide_eq_true (by omega)
                have hse : (segL l (f + K0) s).length = s := by rw [segL, List.length_take, List.length_drop]; omega
                have hsf : (segL l f s).length = s := by rw [segL, List.length_take, List.length_drop]; omega
                have HSM : Hid (∀ W cc dd, Below w.heap.size w W → Calls Tryd.prog 57 #[.slice (some ⟨bA, oA + (f + K0), none⟩) s cc, .slice (some ⟨bA, oA + f, none⟩) s dd] W fun e w' => e = .returned (.bool (decide (segL l (f + K0) s = segL l f s))) ∧ ∃ n, w' = W.drewN n) := Lib.hid (fun W cc dd hW => spec_l00Same_sub hse hsf (by omega) (((h.below hW).drop (f + K0)).take s) (((h.below hW).drop f).take s))
                have w1 : IntKind.i64.wrap ((f : Int) + (K : Int) - (s : Int)) = (f : Int) + (K : Int) - (s : Int) := IntWalk.i64_in _ ⟨by omega, by omega⟩
                have w2 : IntKind.i64.wrap ((f : Int) + (s : Int)) = (f : Int) + (s : Int) := IntWalk.i64_in _ ⟨by omega, by omega⟩
                clear hse hsf
                have q1 : (0 : Int) ≤ (f : Int) + (K : Int) - (s : Int) := by omega
                have q2 : (f : Int) + (K : Int) - (s : Int) ≤ (f : Int) + (K : Int) := by omega
                have q3 : (f : Int) + (K : Int) ≤ (c : Int) := by omega
                have q4 : ((f : Int) + (K : Int)).toNat = f + K := by omega
                have q5 : (0 : Int) ≤ (f : Int) + (K : Int) := by omega
                have q6 : f + K - (f + K0) = s := by omega
                have q7 : ¬ c = f + K0 := by omega
                have q8 : (f : Int) ≤ (f : Int) + (s : Int) := by omega
                have q9 : (f : Int) + (s : Int) ≤ (c : Int) := by omega
                have q10 : ((f : Int) + (s : Int)).toNat = f + s := by omega
                have q11 : (0 : Int) ≤ (f : Int) + (s : Int) := by omega
                have q12 : f + s - f = s := by omega
                have q13 : ¬ c = f := by omega
                have q14 : ((f : Int) + (K : Int) - (s : Int)).toNat = f + K0 := by omega
                have q15 : f + K - s = f + K0 := by omega
                cases hr : decide (segL l (f + K0) s = segL l f s)
                · have HS2 : Hid (shortP l = shF l (f + 1) (shS l f (s + 1) b)) := Lib.hid (by
                    have hno : runs l f s k = false := by rw [HRN.out, runAt, hr, Bool.and_false]
                    rw [HS.out, shT_no hno])
                  clear HS
                  rw [hr] at HSM
                  go_wp2_with (fail)
                  go_quiet ((go_at_call 57; (with_reducible exact Calls.quiet_of ((HSM.out _ _ _ (below_drewN hb _))))))
                  go_wp2_with (fail)
                  go_roundw
                  case rel => exact ⟨s + 1, b, by omega, by omega, by go_num, rfl, HS2, below_drewN hb _⟩
                  case measure => simp [intOf]; omega
                · have hyes : runs l f s k = true := by rw [HRN.out, runAt, hr, decide_eq_true (by omega)]; rfl
                  obtain ⟨_, hks, hkn⟩ := runs_le (by omega) hyes
                  rw [Nat.mul_comm] at hks
                  have HS2 : Hid (shortP l = shF l (f + 1) (shS l f (s + 1) (shT l f s (k + 1) (pickT (txtP (foldP l f s k)) b)))) := Lib.hid (by rw [HS.out, shT_yes (by omega) hyes])
                  have HFD : Hid (∀ W, Below w.heap.size w W → Calls Tryd.prog 58 #[.slice (some ⟨bA, oA, none⟩) l.length c, .int .i64 (f : Int), .int .i64 (s : Int), .int .i64 (k : Int)] W fun e w' => e = .returned (.string (txtP (foldP l f s k))) ∧ Below W.heap.size W w') := Lib.hid (fun W hW => spec_l16Fold l bA oA c f s k W (h.below hW) HV.out hfl hs1 hk2 (by omega) hks hc hcm)
                  rw [hr] at HSM
                  clear HS hyes hks
                  generalize txtP (foldP l f s k) = T at HFD HS2
                  rcases better_cases T b with ⟨c1, c2⟩ | ⟨c1, c2, c3, c4⟩ | ⟨c1, c2, c3, c4⟩ | ⟨c1, c2, c4⟩
                  · have HS3 : Hid (shortP l = shF l (f + 1) (shS l f (s + 1) (shT l f s (k + 1) T))) := Lib.hid (by rw [HS2.out, pick_yes c2])
                    clear HS2 c2
                    go_wp2_with (fail)
                    go_quiet ((go_at_call 57; (with_reducible exact Calls.quiet_of ((HSM.out _ _ _ (below_drewN hb _))))))
                    have hbq := below_drewN hb nq
                    generalize World.drewN wr nq = W at hbq ⊢
                    have hzq := hbq.size
                    go_wp2_with (go_at_call 58; refine (HFD.out _ hbq).mono ?_; rintro e w3 ⟨rfl, b3⟩; have hb3 := hbq.trans (b3.mono hzq))
                    go_roundw
                    case rel => exact ⟨k + 1, T, by omega, by omega, by go_num, rfl, HS3, hb3⟩
                    case measure => simp [intOf]; omega
                  · have HS3 : Hid (shortP l = shF l (f + 1) (shS l f (s + 1) (shT l f s (k + 1) T))) := Lib.hid (by rw [HS2.out, pick_yes c4])
                    have ce : ((T.size : Int) == (b.size : Int)) = true := by rw [c2]; simp
                    have C2 := Lib.hid c2
                    clear HS2 c2 c4
                    go_wp2_with (fail)
                    go_quiet ((go_at_call 57; (with_reducible exact Calls.quiet_of ((HSM.out _ _ _ (below_drewN hb _))))))
                    have hbq := below_drewN hb nq
                    generalize World.drewN wr nq = W at hbq ⊢
                    have hzq := hbq.size
                    go_wp2_with (go_at_call 58; refine (HFD.out _ hbq).mono ?_; rintro e w3 ⟨rfl, b3⟩; have hb3 := hbq.trans (b3.mono hzq))
                    go_roundw
                    case rel => exact ⟨k + 1, T, by omega, by omega, by go_num, rfl, HS3, hb3⟩
                    case measure => simp [intOf]; omega
                  · have HS3 : Hid (shortP l = shF l (f + 1) (shS l f (s + 1) (shT l f s (k + 1) b))) := Lib.hid (by rw [HS2.out, pick_no c4])
                    have ce : ((T.size : Int) == (b.size : Int)) = true := by rw [c2]; simp
                    have C2 := Lib.hid c2
                    clear HS2 c2 c4
                    go_wp2_with (fail)
                    go_quiet ((go_at_call 57; (with_reducible exact Calls.quiet_of ((HSM.out _ _ _ (below_drewN hb _))))))
                    have hbq := below_drewN hb nq
                    generalize World.drewN wr nq = W at hbq ⊢
                    have hzq := hbq.size
                    go_wp2_with (go_at_call 58; refine (HFD.out _ hbq).mono ?_; rintro e w3 ⟨rfl, b3⟩; have hb3 := hbq.trans (b3.mono hzq))
                    go_roundw
                    case rel => exact ⟨k + 1, b, by omega, by omega, by go_num, rfl, HS3, hb3⟩
                    case measure => simp [intOf]; omega
                  · have HS3 : Hid (shortP l = shF l (f + 1) (shS l f (s + 1) (shT l f s (k + 1) b))) := Lib.hid (by rw [HS2.out, pick_no c4])
                    have ce : ((T.size : Int) == (b.size : Int)) = false := by rw [beq_eq_false_iff_ne]; omega
                    clear HS2 c2 c4
                    go_wp2_with (fail)
                    go_quiet ((go_at_call 57; (with_reducible exact Calls.quiet_of ((HSM.out _ _ _ (below_drewN hb _))))))
                    have hbq := below_drewN hb nq
                    generalize World.drewN wr nq = W at hbq ⊢
                    have hzq := hbq.size
                    go_wp2_with (go_at_call 58; refine (HFD.out _ hbq).mono ?_; rintro e w3 ⟨rfl, b3⟩; have hb3 := hbq.trans (b3.mono hzq))
                    go_roundw
                    case rel => exact ⟨k + 1, b, by omega, by omega, by go_num, rfl, HS3, hb3⟩
                    case measure => simp [intOf]; omega
              · have din : decide ((f : Int) + (K : Int) ≤ (l.length : Int)) = false := decide_eq_false (by omega)
                have HS2 : Hid (shortP l = shF l (f + 1) (shS l f (s + 1) b)) := Lib.hid (by
                  have hno : runs l f s k = false := by rw [HRN.out, runAt, decide_eq_false (by omega), Bool.false_and]
                  rw [HS.out, shT_no hno])
                clear HS
                go_wp2_with (fail)
                go_roundw
                case rel => exact ⟨s + 1, b, by omega, by omega, by go_num, rfl, HS2, hb⟩
                case measure => simp [intOf]; omega
          · have dfs : decide ((f : Int) + 2 * (s : Int) ≤ (l.length : Int)) = false := decide_eq_false (by omega)
            have HS2 : Hid (shortP l = shF l (f + 1) b) := Lib.hid (by rw [HS.out, shS_no hfs])
            clear HS
            go_wp2_with (fail)
            go_roundw
            case rel => exact ⟨f + 1, b, by omega, by go_num, rfl, HS2, hb⟩
            case measure => simp [intOf]; omega
      · have dfl : decide ((f : Int) < (l.length : Int)) = false := decide_eq_false (by omega)
        have HS2 : Hid (shortP l = b) := Lib.hid (by rw [HS.out, shF_no hfl])
        go_wp2_with (fail)
        go_ret
        exact ⟨by rw [HS2.out]; rfl, hb⟩

end Go.Proofs.YtcgbogofmdjddaaDoor
