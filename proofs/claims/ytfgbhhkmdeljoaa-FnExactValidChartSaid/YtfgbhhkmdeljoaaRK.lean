/- l03Ok. -/
import Derived.Test.YtfgbhhkmdeljoaaRL
import Derived.BigQuiet
namespace Go.Proofs.Ytfgbhhkmdeljoaa
open Go.RowKit

theorem spec_l03Ok (g o : Nat) (n : Int) (A : Option Addr) (c : Nat) (xs : List Int) (w : World) (h : Ints w A xs) (hl : xs.length ≤ 9223372036854775807)
    (c0 : w.cell? ⟨g, o, none⟩ = some (.int .i64 n)) (c1 : w.cell? ⟨g, o + 1, none⟩ = some (.slice A xs.length c)) :
    Calls Try.prog 118 #[.pointer (some ⟨g, o, none⟩)] w fun e w' => e = .returned (.bool (braidB n xs)) ∧ Drawn w w' := by
  cases hn : inR n 0 12
  · have hc : ∀ W, Calls Try.prog 66 #[.int .i64 n, .int .i64 0, .int .i64 12] W fun e w' => e = .returned (.bool false) ∧ W = w' := fun W => by have := spec_l00In n 0 12 W; rwa [hn] at this
    have HF : Hid (braidB n xs = false) := Lib.hid (by simp [braidB, hn])
    have HC := Lib.hid hc; clear hc
    go_enter Try.func118, Try.ntmps118
    go_wp2_with (fail)
    go_quiet (first | (go_at_call 66; exact quietS (HC.out _)))
    go_wp2_with (fail)
    go_ret
    exact ⟨ret_bool HF.out.symm, (Drawn.refl _).drewN _⟩
  · have hc : ∀ W, Calls Try.prog 66 #[.int .i64 n, .int .i64 0, .int .i64 12] W fun e w' => e = .returned (.bool true) ∧ W = w' := fun W => by have := spec_l00In n 0 12 W; rwa [hn] at this
    have HC := Lib.hid hc; clear hc
    by_cases h4 : xs.length ≤ 40
    · have h4' : decide ((xs.length : Int) ≤ 40) = true := decide_eq_true (by omega)
      have HF : Hid (braidB n xs = lettersB n xs) := Lib.hid (by simp [braidB, hn, h4])
      have hnn := inR_iff.1 hn
      go_enter Try.func118, Try.ntmps118
      go_wp2_with (fail)
      go_quiet (first | (go_at_call 66; exact quietS (HC.out _)) | (go_at_call 145; exact quietS (spec_l03Letters _ _ _ _ _ h hl (by omega))))
      go_wp2_with (fail)
      go_ret
      exact ⟨ret_bool HF.out.symm, (Drawn.refl _).drewN _⟩
    · have h4' : decide ((xs.length : Int) ≤ 40) = false := decide_eq_false (by omega)
      have HF : Hid (braidB n xs = false) := Lib.hid (by simp [braidB, h4])
      go_enter Try.func118, Try.ntmps118
      go_wp2_with (fail)
      go_quiet (first | (go_at_call 66; exact quietS (HC.out _)))
      go_wp2_with (fail)
      go_ret
      exact ⟨ret_bool HF.out.symm, (Drawn.refl _).drewN _⟩

end Go.Proofs.Ytfgbhhkmdeljoaa
