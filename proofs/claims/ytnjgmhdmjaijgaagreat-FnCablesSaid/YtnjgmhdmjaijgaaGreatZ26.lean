/- Steps of the proof, joined from several texts: GA GB O4 GC GD GE QV. -/
import Derived.Test.YtnjgmhdmjaijgaaGreatZ1
import Derived.Test.YtnjgmhdmjaijgaaGreatZ3
import Derived.Laws.Bits64b
import Derived.Test.YtnjgmhdmjaijgaaGreatZ16
import Derived.Test.YtnjgmhdmjaijgaaGreatZ4
import Derived.Deep.DeepCutAuto

/- The draws: the numbers of the source, plain. -/
namespace Go.Proofs.YtnjgmhdmjaijgaaGreat
open Go Go.RowKit

def iterN (f : Nat → Nat) : Nat → Nat → Nat
  | 0, s => s
  | n + 1, s => iterN f n (f s)
theorem iterN_zero (f : Nat → Nat) (s : Nat) : iterN f 0 s = s := rfl
theorem iterN_succ (f : Nat → Nat) (n s : Nat) : iterN f (n + 1) s = iterN f n (f s) := rfl
theorem iterN_add (f : Nat → Nat) (a b s : Nat) : iterN f (a + b) s = iterN f b (iterN f a s) := by
  induction a generalizing s with
  | zero => rw [Nat.zero_add, iterN_zero]
  | succ a ih => rw [Nat.succ_add, iterN_succ, ih, iterN_succ]
theorem mod_lin (x a c m : Nat) : (x % m * a + c) % m = (x * a + c) % m := by
  rw [Nat.add_mod, Nat.mul_mod, Nat.mod_mod, ← Nat.mul_mod, ← Nat.add_mod]
def lin (a c m s : Nat) : Nat := (s * a + c) % m
/-- The map behind 2^k steps: x * A + C. -/
theorem iter_pow (a c m u v : Nat) (ha : a = 4 * u + 1) (hc : c = 2 * v + 1) (k : Nat) : ∃ A C u' v', A = 4 * 2 ^ k * u' + 1 ∧ C = 2 ^ k * (2 * v' + 1) ∧ ∀ s, iterN (lin a c m) (2 ^ k) s = (s * A + C) % m := by
  induction k with
  | zero => exact ⟨a, c, u, v, by simp [ha], by simp [hc], fun s => rfl⟩
  | succ k ih =>
    obtain ⟨A, C, u', v', hA, hC, h⟩ := ih
    refine ⟨A * A, C * A + C, 2 * 2 ^ k * u' * u' + u', 2 * v' * (2 ^ k * u') + v' + 2 ^ k * u', ?_, ?_, fun s => ?_⟩
    · rw [hA, Nat.pow_succ]
      generalize 2 ^ k = P
      simp only [Nat.mul_add, Nat.add_mul, Nat.mul_one, Nat.one_mul]
      generalize hq : P * u' = q
      have e0 : 4 * P * u' = 4 * q := by rw [← hq, Nat.mul_assoc]
      have e1 : 4 * (P * 2) * (2 * P * u' * u') = 16 * (q * q) := by
        rw [← hq]
        simp only [Nat.mul_assoc, Nat.mul_left_comm, Nat.mul_comm]
        try omega
      have e2 : 4 * (P * 2) * u' = 8 * q := by rw [← hq, show 4 * (P * 2) = 8 * P by omega, Nat.mul_assoc]
      have e3 : 4 * q * (4 * q) = 16 * (q * q) := by
        simp only [Nat.mul_assoc, Nat.mul_left_comm, Nat.mul_comm]
        try omega
      rw [e0, e1, e2, e3]
      omega
    · rw [hC, hA, Nat.pow_succ]
      generalize 2 ^ k = P
      generalize hq : P * u' = q
      have e0 : 4 * P * u' = 4 * q := by rw [← hq, Nat.mul_assoc]
      rw [e0, ← Nat.mul_succ, Nat.mul_assoc, Nat.mul_assoc]
      congr 1
      simp only [Nat.mul_add, Nat.add_mul, Nat.mul_one, Nat.one_mul, Nat.succ_eq_add_one]
      have e1 : 2 * v' * (4 * q) = 2 * (2 * (2 * v' * q)) := by
        simp only [Nat.mul_assoc, Nat.mul_left_comm, Nat.mul_comm]
        try omega
      omega
    · rw [Nat.pow_succ, Nat.mul_two, iterN_add, h, h, mod_lin]
      congr 1
      rw [Nat.add_mul, Nat.mul_assoc, Nat.add_assoc]
/-- The seed behind one number, where the code is at its end. -/
abbrev lcg : Nat → Nat := lin 6364136223846793005 1442695040888963407 18446744073709551616
/-- The byte that the source gives. -/
def byteOf (s : Nat) : Nat := s / 1099511627776 % 256
theorem flipG_at (s q : Nat) : byteOf ((1099511627776 * (2 * q + 1) + s) % 18446744073709551616) % 2 = (byteOf s + 1) % 2 := by
  unfold byteOf
  omega
theorem flip_arr (P s u v : Nat) : s * (4 * P * u + 1) + P * (2 * v + 1) = P * (2 * (2 * (s * u) + v) + 1) + s := by
  have e3 : s * (4 * P * u + 1) = P * (4 * (s * u)) + s := by
    rw [Nat.mul_add, Nat.mul_one]
    congr 1
    simp only [Nat.mul_assoc, Nat.mul_left_comm, Nat.mul_comm]
  have e4 : P * (2 * (2 * (s * u) + v) + 1) = P * (4 * (s * u)) + P * (2 * v + 1) := by
    rw [← Nat.mul_add]
    congr 1
    omega
  rw [e3, e4]
  omega
theorem pow_40 : (2 : Nat) ^ 40 = 1099511627776 := by decide
theorem byte_flip (s : Nat) : byteOf (iterN lcg (2 ^ 40) s) % 2 = (byteOf s + 1) % 2 := by
  obtain ⟨A, C, u, v, hA, hC, h⟩ := iter_pow 6364136223846793005 1442695040888963407 18446744073709551616 1591034055961698251 721347520444481703 (by decide) (by decide) 40
  rw [h s, hA, hC, flip_arr, pow_40]
  exact flipG_at s _
/-- The source leaves the bytes that stand for the fifth of fourteen. -/
theorem leaves (s : Nat) : ∃ n : Nat, n ≤ 2 ^ 40 ∧ byteOf (iterN lcg n s) % 14 ≠ 5 := by
  by_cases h : byteOf s % 14 = 5
  · refine ⟨2 ^ 40, Nat.le_refl _, fun h2 => ?_⟩
    have h3 := byte_flip s
    generalize byteOf (iterN lcg (2 ^ 40) s) = x at h2 h3
    omega
  · exact ⟨0, Nat.zero_le _, h⟩

end Go.Proofs.YtnjgmhdmjaijgaaGreat

/- The draws: the source. -/
namespace Go.Proofs.YtnjgmhdmjaijgaaGreat
open Go Go.RowKit

theorem drawn_sets (w : World) (a b : Nat) (p q : Addr) (u v : Value) : (((w.drewN a).setCell p u).setCell q v).drewN b = World.drewN ((w.setCell p u).setCell q v) (a + b) := by
  simp [World.drewN, World.setCell, Nat.add_comm, Nat.add_left_comm]
/-- A slice of bytes that is read. -/
def Bytes (w : World) (A : Option Addr) (bs : List Int) : Prop :=
  ∀ k, k < bs.length → ∃ b off x, A = some ⟨b, off, none⟩ ∧ bs[k]? = some x ∧ w.cell? ⟨b, off + k, none⟩ = some (.int .u8 x) ∧ 0 ≤ x ∧ x < 256
theorem Bytes.of_cells {w w' : World} {A : Option Addr} {bs : List Int} (h : Bytes w A bs) (hk : ∀ a v, w.cell? a = some v → w'.cell? a = some v) : Bytes w' A bs :=
  fun k hk' => by
    obtain ⟨b, off, x, hA, hx, hc, h0⟩ := h k hk'
    exact ⟨b, off, x, hA, hx, hk _ _ hc, h0⟩
/-- The source's box. -/
abbrev Src (w : World) (g : Nat) (A : Option Addr) (n c : Nat) (p s : Nat) : Prop := Blk w g 109 #[.slice A n c, .int .i64 (p : Int), .int .u64 (s : Int)]

set_option maxHeartbeats 1000000 in
theorem spec_next_end (g : Nat) (A : Option Addr) (c p s : Nat) (bs : List Int) (w : World) (h : Src w g A bs.length c p s) (hp : bs.length ≤ p) (hp2 : p ≤ 1152921504606846976) :
    Calls Tryz.prog 125 #[.pointer (some ⟨g, 0, none⟩)] w fun e w' => ∃ n, e = .returned (.int .i64 (byteOf (lcg s) : Nat)) ∧ w' = World.drewN ((w.setCell ⟨g, 1, none⟩ (.int .i64 ((p + 1 : Nat) : Int))).setCell ⟨g, 2, none⟩ (.int .u64 (lcg s : Nat))) n := by
  obtain ⟨c0, c1, c2⟩ := h.c3
  have f1 := h.frozen 1
  have f2 := h.frozen 2
  have d1 : decide ((p : Int) < (bs.length : Int)) = false := decide_eq_false (by omega)
  have j1 : IntKind.i64.wrap ((p : Int) + 1) = (p : Int) + 1 := IntWalk.i64_in _ ⟨by omega, by omega⟩
  go_enter Tryz.func125, Tryz.ntmps125
  go_wp2_with (fail)
  go_quiet (fail)
  go_wp2_with (fail)
  go_wp2_with (fail)
  have hu : IntKind.u64.wrap (IntKind.u64.wrap (IntKind.u64.wrap ((s : Int) * 6364136223846793005)) + 1442695040888963407) = ((lcg s : Nat) : Int) := by
    simp only [IntKind.wrap_u64, lin]
    omega
  rw [hu]
  have hL : lcg s < 18446744073709551616 := Nat.mod_lt _ (by decide)
  obtain ⟨L, hLs⟩ : ∃ L, L = lcg s := ⟨_, rfl⟩
  rw [← hLs] at hL ⊢
  have HL := Lib.hid hLs; clear hLs hu
  have d2 : decide ((p : Int) + 1 ≤ (bs.length : Int)) = false := decide_eq_false (by omega)
  go_quiet (fail)
  go_wp2_with (fail)
  have e1 : wrap64 (bits BinOp.and IntKind.u64 ((L : Int) / 1099511627776) 255) = ((byteOf L : Nat) : Int) := by
    have e2 := bits_and_u64_nat (L / 1099511627776) 255 (by omega) (by decide)
    rw [show ((L : Int) / 1099511627776) = ((L / 1099511627776 : Nat) : Int) from rfl]
    rw [show ((255 : Int)) = ((255 : Nat) : Int) from rfl, e2, show (255 : Nat) = 2 ^ 8 - 1 from rfl, Nat.and_two_pow_sub_one_eq_mod]
    unfold byteOf
    exact IntWalk.wrap64_in _ ⟨by omega, by omega⟩
  rw [e1]
  clear e1
  go_ret
  rw [drawn_sets, ← HL.out]
  exact ⟨_, rfl, rfl⟩

set_option maxHeartbeats 1000000 in
theorem spec_next_in (g : Nat) (A : Option Addr) (c p s : Nat) (bs : List Int) (w : World) (h : Src w g A bs.length c p s) (hby : Bytes w A bs) (hp : p < bs.length) (hp2 : p ≤ 1152921504606846976) :
    Calls Tryz.prog 125 #[.pointer (some ⟨g, 0, none⟩)] w fun e w' => ∃ (x : Int) (s' n : Nat), e = .returned (.int .i64 x) ∧ (0 ≤ x ∧ x < 256) ∧ s' < 18446744073709551616 ∧ w' = World.drewN ((w.setCell ⟨g, 1, none⟩ (.int .i64 ((p + 1 : Nat) : Int))).setCell ⟨g, 2, none⟩ (.int .u64 (s' : Int))) n := by
  obtain ⟨c0, c1, c2⟩ := h.c3
  have f1 := h.frozen 1
  have f2 := h.frozen 2
  obtain ⟨b, off, x, rfl, hx, hc, hx0, hx1⟩ := hby p hp
  clear hx
  have d1 : decide ((p : Int) < (bs.length : Int)) = true := decide_eq_true (by omega)
  have j1 : IntKind.i64.wrap ((p : Int) + 1) = (p : Int) + 1 := IntWalk.i64_in _ ⟨by omega, by omega⟩
  have j2 : (0 : Int) ≤ (p : Int) := by omega
  have j3 : (p : Int) < (bs.length : Int) := by omega
  have j4 : IntKind.i64.wrap x = x := IntWalk.i64_in _ ⟨by omega, by omega⟩
  have j5 : IntKind.u64.wrap x = x := IntWalk.u64_in _ ⟨by omega, by omega⟩
  go_enter Tryz.func125, Tryz.ntmps125
  go_wp2_with (fail)
  go_quiet (fail)
  go_wp2_with (fail)
  go_quiet (fail)
  go_wp2_with (fail)
  obtain ⟨s', hs1, hs2⟩ : ∃ s' : Nat, s' < 18446744073709551616 ∧ IntKind.u64.wrap (IntKind.u64.wrap (IntKind.u64.wrap ((s : Int) * 6364136223846793005) + x) + 1442695040888963407) = (s' : Int) := by
    refine ⟨(IntKind.u64.wrap (IntKind.u64.wrap (IntKind.u64.wrap ((s : Int) * 6364136223846793005) + x) + 1442695040888963407)).toNat, ?_, ?_⟩ <;> simp only [IntKind.wrap_u64] <;> omega
  rw [hs2]
  clear hs2
  have d2 : decide ((p : Int) + 1 ≤ (bs.length : Int)) = true := decide_eq_true (by omega)
  go_quiet (fail)
  go_wp2_with (fail)
  rw [drawn_sets]
  go_ret
  exact ⟨x, s', _, rfl, ⟨hx0, hx1⟩, hs1, rfl⟩
/-- What a number costs: while there is code, one of its bytes; then the seed goes on. -/
def Next (len p s : Nat) (x : Int) (s' : Nat) : Prop := (0 ≤ x ∧ x < 256) ∧ s' < 18446744073709551616 ∧ (len ≤ p → s' = lcg s ∧ x = ((byteOf s' : Nat) : Int))
theorem spec_next (g : Nat) (A : Option Addr) (c p s : Nat) (bs : List Int) (w : World) (h : Src w g A bs.length c p s) (hby : Bytes w A bs) (hp2 : p ≤ 1152921504606846976) (_hs : s < 18446744073709551616) :
    Calls Tryz.prog 125 #[.pointer (some ⟨g, 0, none⟩)] w fun e w' => ∃ (x : Int) (s' n : Nat), e = .returned (.int .i64 x) ∧ Next bs.length p s x s' ∧ w' = World.drewN ((w.setCell ⟨g, 1, none⟩ (.int .i64 ((p + 1 : Nat) : Int))).setCell ⟨g, 2, none⟩ (.int .u64 (s' : Int))) n := by
  by_cases hp : p < bs.length
  · refine (spec_next_in g A c p s bs w h hby hp hp2).mono ?_
    rintro e w2 ⟨x, s', n, rfl, hx, hs', rfl⟩
    exact ⟨x, s', n, rfl, ⟨hx, hs', fun hh => by omega⟩, rfl⟩
  · refine (spec_next_end g A c p s bs w h (by omega) hp2).mono ?_
    rintro e w2 ⟨n, rfl, rfl⟩
    have hb : byteOf (lcg s) < 256 := Nat.mod_lt _ (by decide)
    refine ⟨_, lcg s, n, rfl, ⟨⟨by omega, by omega⟩, Nat.mod_lt _ (by decide), fun _ => ⟨rfl, rfl⟩⟩, rfl⟩

/-- The world behind one number: the source's box, one number on. -/
def nextW (w : World) (g p s' n : Nat) : World := World.drewN ((w.setCell ⟨g, 1, none⟩ (.int .i64 ((p + 1 : Nat) : Int))).setCell ⟨g, 2, none⟩ (.int .u64 (s' : Int))) n
theorem nextW_src {w : World} {g p s s' n m c : Nat} {A : Option Addr} (h : Src w g A m c p s) : Src (nextW w g p s' n) g A m c (p + 1) s' := by
  have k := (h.setAt 1 (.int .i64 ((p + 1 : Nat) : Int))).setAt 2 (.int .u64 (s' : Int))
  have e : ((#[Value.slice A m c, .int .i64 (p : Int), .int .u64 (s : Int)] : Array Value).setIfInBounds 1 (.int .i64 ((p + 1 : Nat) : Int))).setIfInBounds 2 (.int .u64 (s' : Int)) = #[.slice A m c, .int .i64 ((p + 1 : Nat) : Int), .int .u64 (s' : Int)] := rfl
  rw [e] at k
  exact k.drewN n
theorem nextW_below (w : World) (g p s' n : Nat) : Below g w (nextW w g p s' n) :=
  below_drewN (((Below.refl _ _).setCell (p := ⟨g, 1, none⟩) (Nat.le_refl _) _).setCell (p := ⟨g, 2, none⟩) (Nat.le_refl _) _) n
theorem nextW_far {w : World} {g p s' n q : Nat} (h : q ≠ g) : (nextW w g p s' n).heap[q]? = w.heap[q]? :=
  (Below.heap_setCell _ _ _ q h).trans (Below.heap_setCell _ _ _ q h)
theorem spec_pick (m : Int) (g : Nat) (A : Option Addr) (c p s : Nat) (bs : List Int) (w : World) (h : Src w g A bs.length c p s) (hby : Bytes w A bs) (hp2 : p ≤ 1152921504606846976) (hs : s < 18446744073709551616) (hm : 2 ≤ m ∧ m ≤ 200) :
    Calls Tryz.prog 81 #[.pointer (some ⟨g, 0, none⟩), .int .i64 m] w fun e w' => ∃ (x : Int) (s' n : Nat), e = .returned (.int .i64 (x % m)) ∧ Next bs.length p s x s' ∧ w' = nextW w g p s' n := by
  obtain ⟨hm2, hm200⟩ := hm
  go_enter Tryz.func81, Tryz.ntmps81
  go_wp2_with (fail)
  refine (spec_next g A c p s bs w h hby hp2 hs).mono ?_
  rintro e w2 ⟨x, s', n, rfl, hx, rfl⟩
  obtain ⟨hx0, hx1⟩ := hx.1
  have HX := Lib.hid hx; clear hx
  have e1 : x.tmod m = x % m := Int.tmod_eq_emod_of_nonneg hx0
  have e2 := Int.emod_nonneg x (show m ≠ 0 by omega)
  have e3 := Int.emod_lt_of_pos x (show 0 < m by omega)
  have hm0 : ¬ m = 0 := by omega
  go_wp2_with (fail)
  go_ret
  exact ⟨x, s', n, rfl, HX.out, rfl⟩

theorem spec_one (m : Int) (g : Nat) (A : Option Addr) (c p s : Nat) (bs : List Int) (w : World) (h : Src w g A bs.length c p s) (hby : Bytes w A bs) (hp2 : p ≤ 1152921504606846976) (hs : s < 18446744073709551616) (hm : 2 ≤ m ∧ m ≤ 200) :
    Calls Tryz.prog 60 #[.pointer (some ⟨g, 0, none⟩), .int .i64 m] w fun e w' => ∃ (b : Bool) (x : Int) (s' n : Nat), e = .returned (.bool b) ∧ Next bs.length p s x s' ∧ w' = nextW w g p s' n := by
  go_enter Tryz.func60, Tryz.ntmps60
  go_wp2_with (fail)
  refine (spec_pick m g A c p s bs w h hby hp2 hs hm).mono ?_
  rintro e w2 ⟨x, s', n, rfl, hx, rfl⟩
  have HX := Lib.hid hx; clear hx
  generalize x % m = y
  go_wp2_with (fail)
  go_ret
  exact ⟨_, x, s', n, rfl, HX.out, rfl⟩

theorem spec_among (l : List Int) (L : Option Addr) (d : Nat) (g : Nat) (A : Option Addr) (c p s : Nat) (bs : List Int) (w : World) (h : Src w g A bs.length c p s) (hby : Bytes w A bs) (hp2 : p ≤ 1152921504606846976) (hs : s < 18446744073709551616) (hL : Ints w L l) (hLg : ∀ a, L = some a → a.block ≠ g) (hm : 2 ≤ l.length ∧ l.length ≤ 200) :
    Calls Tryz.prog 39 #[.pointer (some ⟨g, 0, none⟩), .slice L l.length d] w fun e w' => ∃ (x y : Int) (s' n : Nat), e = .returned (.int .i64 y) ∧ l[(x % (l.length : Int)).toNat]? = some y ∧ Next bs.length p s x s' ∧ w' = nextW w g p s' n := by
  go_enter Tryz.func39, Tryz.ntmps39
  go_wp2_with (fail)
  refine (spec_pick l.length g A c p s bs w h hby hp2 hs ⟨by omega, by omega⟩).mono ?_
  rintro e w2 ⟨x, s', n, rfl, hx, rfl⟩
  have e2 := Int.emod_nonneg x (show (l.length : Int) ≠ 0 by omega)
  have e3 := Int.emod_lt_of_pos x (show 0 < (l.length : Int) by omega)
  obtain ⟨k, hk⟩ := Int.eq_ofNat_of_zero_le e2
  rw [hk] at e3 ⊢
  have HK := Lib.hid hk; clear hk
  obtain ⟨b, off, y, rfl, hc, hy⟩ := hL k (by omega)
  have hb : b ≠ g := hLg _ rfl
  have hc' : (nextW w g p s' n).cell? ⟨b, off + k, none⟩ = some (.int .i64 y) := by
    rw [← hc]
    unfold World.cell?
    rw [nextW_far hb]
  have HX := Lib.hid hx; clear hx hc
  have HY := Lib.hid hy; clear hy
  generalize hW : nextW w g p s' n = W at hc'
  have HW := Lib.hid hW; clear hW
  go_wp2_with (fail)
  go_ret
  exact ⟨x, y, s', n, rfl, by rw [HK.out]; simpa using HY.out, HX.out, HW.out.symm⟩

end Go.Proofs.YtnjgmhdmjaijgaaGreat

/- Arguments of the laws: bytes. -/
namespace Go.Proofs.YtnjgmhdmjaijgaaGreat
open Go.ChangeShapes Go.WideShapes Go.ChangeAt Go.RowKit
open Go.ChangeMaps (open_string shut_string)

section
variable {H : Type} {enc : TypeId × Value → H} {W : World} {base : Nat} {v : Value} {d : DataW H} {p : List MemPlace} {fuel : Nat} {cs : List Value} {x : DataW H × List MemPlace} {b0 : Nat}
theorem trod_bytes (h : DataW.trod enc Tryz.prog W b0 (fun _ => true) true fuel 34 cs = some x) :
    ∃ A c xs, cs = [.slice A xs.length c] ∧ Bytes W A xs ∧ xs.length ≤ 9223372036854775807 := by
  rcases open_ints Tryz.underlying34 Tryz.underlying5 (by kernel_rfl) h with ⟨hcs, _⟩ | ⟨x, n, c, zs, hcs, _, hl, hm, hz, _, hcell, hwz⟩
  · exact ⟨none, 0, [], hcs, fun k hk => by simp at hk, by rw [List.length_nil]; omega⟩
  · have hz' : zs.length = c := by simpa using hz
    have hlen : (zs.take n).length = n := by rw [List.length_take]; omega
    refine ⟨some x, c, zs.take n, by rw [hlen]; exact hcs, fun k hk => ?_, by rw [hlen]; unfold maxLen at hm; omega⟩
    have hk' : k < n := by omega
    have h0 := hcell 0 (by omega)
    rw [show x.add 0 = x by simp [Addr.add]] at h0
    have hx := addr_of_cell h0
    have hw := hwz (zs[k]'(by omega)) (List.getElem_mem _)
    refine ⟨x.block, x.off, zs[k]'(by omega), by rw [← hx], ?_, ?_, ?_⟩
    · rw [List.getElem?_take, if_pos hk', List.getElem?_eq_getElem]
    · have := hcell k (by omega)
      rw [hx, add_form] at this
      rw [this]
      simp [show k < zs.length by omega]
    · have e0 : IntKind.u8.min = 0 := rfl
      have e1 : IntKind.u8.max = 255 := rfl
      simp only [Lit.wf, e0, e1, Bool.and_eq_true, decide_eq_true_eq] at hw
      omega
set_option maxRecDepth 100000 in
theorem open_Bytes (hv : Value.okWide Tryz.prog W .any base 34 v) (h : DataW.Trod enc Tryz.prog W 0 (fun _ => true) true 34 v d p) :
    ∃ A c xs, v = .slice A xs.length c ∧ Bytes W A xs ∧ xs.length ≤ 9223372036854775807 := by
  obtain ⟨A, n, c, rfl⟩ := okWide_slice Tryz.underlying34 hv
  obtain ⟨fuel, hf⟩ := h
  obtain ⟨A', c', xs, hcs, hi, hl⟩ := trod_bytes hf
  simp [Value.cells] at hcs
  obtain ⟨rfl, rfl, rfl⟩ := hcs
  exact ⟨_, _, _, rfl, hi, hl⟩

end
end Go.Proofs.YtnjgmhdmjaijgaaGreat

/- The draws: how long the source may stay. -/
namespace Go.Proofs.YtnjgmhdmjaijgaaGreat
open Go Go.RowKit

theorem least {P : Nat → Prop} (n : Nat) (h : P n) : ∃ m, m ≤ n ∧ P m ∧ ∀ k, k < m → ¬ P k := by
  induction n using Nat.strongRecOn with
  | ind n ih =>
    by_cases hk : ∃ k, k < n ∧ P k
    · obtain ⟨k, hk, hp⟩ := hk
      obtain ⟨m, hm, h1, h2⟩ := ih k hk hp
      exact ⟨m, by omega, h1, h2⟩
    · exact ⟨n, Nat.le_refl _, h, fun k hk' hp => hk ⟨k, hk', hp⟩⟩
theorem steps_ex (s : Nat) : ∃ m : Nat, m ≤ 2 ^ 40 ∧ byteOf (iterN lcg m (lcg s)) % 14 ≠ 5 ∧ ∀ k, k < m → ¬ byteOf (iterN lcg k (lcg s)) % 14 ≠ 5 := by
  obtain ⟨n, hn, h⟩ := leaves (lcg s)
  obtain ⟨m, hm, h1, h2⟩ := least (P := fun n => byteOf (iterN lcg n (lcg s)) % 14 ≠ 5) n h
  exact ⟨m, Nat.le_trans hm hn, h1, h2⟩
/-- How many numbers are drawn, from a seed, until one is not the fifth of fourteen. -/
noncomputable def stepsOf (s : Nat) : Nat := Classical.choose (steps_ex s)
theorem stepsOf_spec (s : Nat) : stepsOf s ≤ 1099511627776 ∧ byteOf (iterN lcg (stepsOf s) (lcg s)) % 14 ≠ 5 ∧ ∀ k, k < stepsOf s → byteOf (iterN lcg k (lcg s)) % 14 = 5 := by
  have h := Classical.choose_spec (steps_ex s)
  exact ⟨Nat.le_trans h.1 (Nat.le_of_eq pow_40), h.2.1, fun k hk => by have := h.2.2 k hk; omega⟩
theorem stepsOf_next {s : Nat} (h : byteOf (lcg s) % 14 = 5) : stepsOf (lcg s) < stepsOf s := by
  obtain ⟨_, h1, h2⟩ := stepsOf_spec s
  obtain ⟨_, h3, h4⟩ := stepsOf_spec (lcg s)
  have h0 : stepsOf s ≠ 0 := by
    intro e
    rw [e, iterN_zero] at h1
    exact h1 h
  obtain ⟨m, hm⟩ : ∃ m, stepsOf s = m + 1 := ⟨stepsOf s - 1, by omega⟩
  rw [hm, iterN_succ] at h1
  rw [hm]
  by_cases hlt : m < stepsOf (lcg s)
  · exact absurd (h4 m hlt) h1
  · omega
/-- What is left to draw: bytes of the code, then steps of the seed. -/
noncomputable def lowOf (len p s : Nat) : Nat := if p < len then (len - p) + 2199023255552 else stepsOf s
theorem lowOf_le (len p s : Nat) : lowOf len p s ≤ len + 2199023255552 := by
  unfold lowOf
  have := (stepsOf_spec s).1
  split <;> omega
theorem lowOf_any {len p s : Nat} {s' : Nat} : lowOf len (p + 1) s' ≤ lowOf len p s + 1099511627776 := by
  unfold lowOf
  have := (stepsOf_spec s').1
  split <;> split <;> omega
theorem lowOf_stay {len p s : Nat} {x : Int} {s' : Nat} (h : Next len p s x s') (h5 : x % 14 = 5) : lowOf len (p + 1) s' < lowOf len p s := by
  unfold lowOf
  have h1 := (stepsOf_spec s').1
  by_cases hp : p < len
  · clear h h5
    rw [if_pos hp]
    generalize stepsOf s' = y at h1 ⊢
    split <;> omega
  · have e := h.2.2 (by omega)
    have e1 := e.1
    have e2 := e.2
    rw [e1] at e2 ⊢
    clear e h e1 h1
    have h2 : byteOf (lcg s) % 14 = 5 := by
      generalize byteOf (lcg s) = y at e2 ⊢
      omega
    have h3 := stepsOf_next h2
    rw [if_neg hp, if_neg (by omega)]
    exact h3

end Go.Proofs.YtnjgmhdmjaijgaaGreat

/- The draws: stitches that take some columns. -/
namespace Go.Proofs.YtnjgmhdmjaijgaaGreat
open Go Go.RowKit

theorem nextW_grown (w : World) (g p s' n : Nat) : w.grownBy (nextW w g p s' n) (some g) :=
  ⟨rfl, rfl, rfl, by simp [nextW], fun k _ hk => nextW_far (fun e => hk (by rw [e]))⟩
/-- The bytes that are read lie in an earlier block. -/
def FarB (A : Option Addr) (bs : List Int) (g : Nat) : Prop := 0 < bs.length → ∀ a, A = some a → a.block < g
theorem Bytes.grown {w w' : World} {A : Option Addr} {bs : List Int} {g : Nat} (h : Bytes w A bs) (hg : w.grownBy w' (some g)) (hA : FarB A bs g) : Bytes w' A bs :=
  fun k hk' => by
    obtain ⟨b, off, x, hA', hx, hc, h0⟩ := h k hk'
    refine ⟨b, off, x, hA', hx, hg.cell hc ?_, h0⟩
    intro e
    injection e with e
    exact Nat.ne_of_lt (hA (by omega) _ hA') e
def drawL : List Int := [1, 1, 1, 2, 2, 3, 4, 5, 6, 7, 8, 9, 10, 11]
theorem draw_kind {x y : Int} (h : drawL[(x % 14).toNat]? = some y) : isStitchB y = true ∧ (y = 3 → x % 14 = 5) := by
  obtain ⟨k, hk⟩ := Int.eq_ofNat_of_zero_le (Int.emod_nonneg x (show (14 : Int) ≠ 0 by decide))
  have hlt := Int.emod_lt_of_pos x (show (0 : Int) < 14 by decide)
  rw [hk] at h hlt ⊢
  rw [Int.toNat_natCast] at h
  rcases (by omega : k = 0 ∨ k = 1 ∨ k = 2 ∨ k = 3 ∨ k = 4 ∨ k = 5 ∨ k = 6 ∨ k = 7 ∨ k = 8 ∨ k = 9 ∨ k = 10 ∨ k = 11 ∨ k = 12 ∨ k = 13) with e | e | e | e | e | e | e | e | e | e | e | e | e | e
  all_goals
    subst e
    simp [drawL] at h
    subst h
    decide
def numVg : Option Value → Nat
  | some (.int _ x) => x.toNat
  | _ => 0
def lenOV : Value → Nat
  | .slice _ n _ => n
  | _ => 0
/-- What the loop over draws uses up. -/
noncomputable def potW (len g : Nat) (ov lv : Value) (w : World) : Nat := ((intOf lv).toNat * 17 + (16 - lenOV ov)) * 4398046511104 + lowOf len (numVg (w.cell? ⟨g, 1, none⟩)) (numVg (w.cell? ⟨g, 2, none⟩))
theorem potW_eq {w : World} {g n c p s len : Nat} {A A' : Option Addr} {m c' l : Nat} (h : Src w g A n c p s) : potW len g (.slice A' m c') (.int .i64 (l : Int)) w = (l * 17 + (16 - m)) * 4398046511104 + lowOf len p s := by
  unfold potW
  rw [h.c3.2.1, h.c3.2.2]
  simp [numVg, lenOV, intOf]
theorem taken_cases {k : Int} (h : isStitchB k = true) : ∃ t u : Nat, takenB k = (t : Int) ∧ madeB k = (u : Int) ∧ ((k = 3 ∧ t = 0 ∧ u = 1) ∨ (k ≠ 3 ∧ 1 ≤ t ∧ u ≤ t)) := by
  rcases stitch_cases h with rfl | rfl | rfl | rfl | rfl | rfl | rfl | rfl | rfl | rfl | rfl
  · exact ⟨1, 1, by decide, by decide, by decide⟩
  · exact ⟨1, 1, by decide, by decide, by decide⟩
  · exact ⟨0, 1, by decide, by decide, by decide⟩
  · exact ⟨2, 1, by decide, by decide, by decide⟩
  · exact ⟨2, 1, by decide, by decide, by decide⟩
  · exact ⟨1, 1, by decide, by decide, by decide⟩
  · exact ⟨1, 1, by decide, by decide, by decide⟩
  · exact ⟨2, 2, by decide, by decide, by decide⟩
  · exact ⟨2, 2, by decide, by decide, by decide⟩
  · exact ⟨4, 4, by decide, by decide, by decide⟩
  · exact ⟨4, 4, by decide, by decide, by decide⟩


set_option maxHeartbeats 8000000 in
set_option maxRecDepth 10000 in
theorem spec_l14Draw (m : Nat) (g : Nat) (A : Option Addr) (c p s : Nat) (bs : List Int) (w : World) (h : Src w g A bs.length c p s) (hby : Bytes w A bs) (hA : FarB A bs g) (hlen : bs.length ≤ 1099511627776) (hp : p ≤ 576460752303423488) (hs : s < 18446744073709551616) (hm : m ≤ 8) :
    Calls Tryz.prog 97 #[.pointer (some ⟨g, 0, none⟩), .int .i64 (m : Int)] w fun e w' => ∃ (A' : Option Addr) (c' : Nat) (out : List Int) (p' s' : Nat), e = .returned (.slice A' out.length c') ∧ OwnI w' w.heap.size w'.heap.size A' c' out ∧ stitchesB out = true ∧ takenS out = m ∧ Src w' g A bs.length c p' s' ∧ s' < 18446744073709551616 ∧ p ≤ p' ∧ p' ≤ p + 4503599627370496 ∧ w.grownBy w' (some g) := by
  obtain ⟨iI, hi0, hu0, hu1, hu2⟩ := info_parts info_int64
  have t1 : (109 : TypeId) ≠ 2 := by decide
  have hgw := h.lt
  have HB := Lib.hid hby; clear hby
  have HA := Lib.hid hA; clear hA
  have o1 := (OwnC.lit (w := w) (lo := w.heap.size) (n := 0) 2 1 #[] (Nat.le_refl _) (Nat.zero_le _) rfl).mono (Nat.le_refl _) (show w.heap.size + 1 ≤ (w.alloc (.cells #[] 2)).heap.size by simp)
  have O1 := Lib.hid o1; clear o1
  have HP0 : Hid (p + 2 * ((m * 17 + (16 - 0)) * 4398046511104 + lowOf bs.length p s) ≤ p + 4503599627370496) := Lib.hid (by have := lowOf_le bs.length p s; omega)
  obtain ⟨P0, hP0⟩ : ∃ P0, P0 = p + 2 * ((m * 17 + (16 - 0)) * 4398046511104 + lowOf bs.length p s) := ⟨_, rfl⟩
  rw [← hP0] at HP0
  have HP1 := Lib.hid hP0; clear hP0
  go_enter Tryz.func97, Tryz.ntmps97
  go_wp2_with (fail)
  go_loopw [5, 6, 7] (fun ov mv lv wr => ∃ (A5 : Option Addr) (c5 : Nat) (out : List Int) (made left p' s' : Nat), ov = .slice A5 out.length c5 ∧ mv = .int .i64 (made : Int) ∧ lv = .int .i64 (left : Int) ∧ OwnI wr w.heap.size wr.heap.size A5 c5 out ∧ Hid (∀ k ∈ out, isStitchB k = true) ∧ Hid (takenS out + left = m) ∧ out.length + left ≤ 16 ∧ made + left ≤ 8 ∧ Src wr g A bs.length c p' s' ∧ s' < 18446744073709551616 ∧ p ≤ p' ∧ Hid (p' + 2 * ((left * 17 + (16 - out.length)) * 4398046511104 + lowOf bs.length p' s') ≤ P0) ∧ w.grownBy wr (some g)) (fun ov _ lv wr => potW bs.length g ov lv wr)
  case atStart => exact ⟨some ⟨w.heap.size, 0, none⟩, 0, [], 0, m, p, s, rfl, rfl, rfl, O1.out, Lib.hid (by simp), Lib.hid (by simp [takenS]), by simpa using (by omega : m ≤ 16), by omega, h.alloc _, hs, Nat.le_refl _, Lib.hid (by rw [HP1.out]; exact Nat.le_refl _), World.grownBy_alloc _ _ _⟩
  case round =>
    clear O1 h
    obtain ⟨A5, c5, out, made, left, p1, s1, rfl, rfl, rfl, ho, HK, HT, hol, hml, hsr, hs1, hpp, HPH, hgr⟩ := hrel
    have hzr := hgr.size
    by_cases hl0 : 0 < left
    · have d1 : decide ((0 : Int) < (left : Int)) = true := decide_eq_true (by omega)
      obtain ⟨wL, hwL⟩ : ∃ wL, wL = wr.alloc (.cells #[.int .i64 1, .int .i64 1, .int .i64 1, .int .i64 2, .int .i64 2, .int .i64 3, .int .i64 4, .int .i64 5, .int .i64 6, .int .i64 7, .int .i64 8, .int .i64 9, .int .i64 10, .int .i64 11] 2) := ⟨_, rfl⟩
      have hgL : w.grownBy wL (some g) := by rw [hwL]; exact hgr.trans (World.grownBy_alloc _ _ _)
      have hsL : Src wL g A bs.length c p1 s1 := by rw [hwL]; exact hsr.alloc _
      have hoL : OwnI wL w.heap.size wr.heap.size A5 c5 out := by rw [hwL]; exact OwnC.alloc ho _
      have hzL : wr.heap.size < wL.heap.size := by rw [hwL]; simp
      have hIL : Ints wL (some ⟨wr.heap.size, 0, none⟩) drawL := by
        rw [hwL]
        exact OwnC.ints (lo := wr.heap.size) (hi := wr.heap.size + 1) (OwnC.lit (w := wr) (lo := wr.heap.size) (n := 14) 2 1 #[.int .i64 1, .int .i64 1, .int .i64 1, .int .i64 2, .int .i64 2, .int .i64 3, .int .i64 4, .int .i64 5, .int .i64 6, .int .i64 7, .int .i64 8, .int .i64 9, .int .i64 10, .int .i64 11] (Nat.le_refl _) (by decide) rfl)
      have hlw := lowOf_le bs.length p1 s1
      have hp60 : p1 ≤ 1152921504606846976 := by have h1 := HPH.out; have h2 := HP0.out; omega
      have hPot := potW_eq (A' := A5) (m := out.length) (c' := c5) (l := left) (len := bs.length) hsr
      have HPot := Lib.hid hPot; clear hPot
      go_upto_region 5 with fail
      go_wp2_with (fail)
      rw [← hwL]
      clear hwL
      refine (spec_among drawL (some ⟨wr.heap.size, 0, none⟩) 14 g A c p1 s1 bs wL hsL (HB.out.grown hgL HA.out) hp60 hs1 hIL (fun a ha => by injection ha with ha; subst ha; show wr.heap.size ≠ g; omega) ⟨by decide, by decide⟩).mono ?_
      rintro e w2 ⟨x, y, s2, n2, rfl, hy, hx, rfl⟩
      have hy' : drawL[(x % 14).toNat]? = some y := hy
      obtain ⟨hst, h35⟩ := draw_kind hy'
      clear hy hy'
      have hs2 := hx.2.1
      have HX := Lib.hid hx; clear hx
      have hsN : Src (nextW wL g p1 s2 n2) g A bs.length c (p1 + 1) s2 := nextW_src hsL
      have hgN : w.grownBy (nextW wL g p1 s2 n2) (some g) := hgL.trans (nextW_grown _ _ _ _ _)
      have hoN : OwnI (nextW wL g p1 s2 n2) w.heap.size wr.heap.size A5 c5 out := OwnC.keep hoL fun q h1 _ _ => nextW_far (by omega)
      have hzN : wr.heap.size ≤ (nextW wL g p1 s2 n2).heap.size := by simp [nextW]; omega
      generalize nextW wL g p1 s2 n2 = wN at hsN hgN hoN hzN ⊢
      clear hsL hgL hoL hzL hIL hsr hgr ho
      by_cases hcc : y = 3 ∧ (8 ≤ made + left ∨ 16 ≤ out.length + left)
      · obtain ⟨hy3, hor⟩ := hcc
        have hlw2 := lowOf_stay HX.out (h35 hy3)
        have hyb : (y == 3) = true := by simp [hy3]
        clear hy3 h35 hst
        by_cases h8 : 8 ≤ made + left
        · have d8 : decide ((8 : Int) ≤ (made : Int) + (left : Int)) = true := decide_eq_true (by omega)
          go_wp2_with (fail)
          refine ⟨⟨A5, c5, out, made, left, p1 + 1, s2, rfl, rfl, rfl, OwnC.mono hoN (Nat.le_refl _) hzN, HK, HT, hol, hml, hsN, hs2, by omega, Lib.hid (by have := HPH.out; omega), hgN⟩, ?_⟩
          rw [potW_eq hsN, HPot.out]
          omega
        · have d8 : decide ((8 : Int) ≤ (made : Int) + (left : Int)) = false := decide_eq_false (by omega)
          have d16 : decide ((16 : Int) ≤ (out.length : Int) + (left : Int)) = true := decide_eq_true (by omega)
          go_wp2_with (fail)
          refine ⟨⟨A5, c5, out, made, left, p1 + 1, s2, rfl, rfl, rfl, OwnC.mono hoN (Nat.le_refl _) hzN, HK, HT, hol, hml, hsN, hs2, by omega, Lib.hid (by have := HPH.out; omega), hgN⟩, ?_⟩
          rw [potW_eq hsN, HPot.out]
          omega
      · obtain ⟨t, u, htk, hmd, htu⟩ := taken_cases hst
        have hl1 := lowOf_any (len := bs.length) (p := p1) (s := s1) (s' := s2)
        have HTU := Lib.hid htu; clear htu
        have HMD := Lib.hid hmd; clear hmd
        have HTK := Lib.hid htk; clear htk
        have HCC : Hid (y = 3 → ¬ 8 ≤ made + left ∧ ¬ 16 ≤ out.length + left) := Lib.hid (fun e => ⟨fun hh => hcc ⟨e, .inl hh⟩, fun hh => hcc ⟨e, .inr hh⟩⟩)
        have HG : Hid ((y == 3 && (decide (8 ≤ made + left) || decide (16 ≤ out.length + left))) = false) := Lib.hid (by
          cases hq : (y == 3 && (decide (8 ≤ made + left) || decide (16 ≤ out.length + left)))
          · rfl
          · simp at hq; exact absurd ⟨hq.1, hq.2⟩ hcc)
        clear hcc h35 HG
        have hby5 : Bytes wN A bs := HB.out.grown hgN HA.out
        have hgg := hsN.lt
        go_upto_region 6 with fail
        go_cut [30] (fun bv wx => bv = .bool false ∧ wN = wx)
        case first =>
          by_cases hy3 : y = 3
          · have hyb : (y == 3) = true := by simp [hy3]
            obtain ⟨e8, e16⟩ := HCC.out hy3
            clear hy3
            have d8 : decide ((8 : Int) ≤ (made : Int) + (left : Int)) = false := decide_eq_false (by omega)
            have d16 : decide ((16 : Int) ≤ (out.length : Int) + (left : Int)) = false := decide_eq_false (by omega)
            go_wp2_with (fail)
            go_meet
            exact ⟨rfl, rfl⟩
          · have hyb : (y == 3) = false := by simp [hy3]
            go_wp2_with (fail)
            go_meet
            exact ⟨rfl, rfl⟩
        case rest =>
        obtain ⟨rfl, rfl⟩ := hcut
        go_wp2_with (fail)
        refine (spec_ColumnsTaken y wN).mono ?_; rintro e w5 ⟨rfl, b5⟩
        rw [HTK.out]
        have hs5 : Src w5 g A bs.length c (p1 + 1) s2 := hsN.below b5 hgg
        have hg5 : w.grownBy w5 (some g) := hgN.trans ⟨b5.os, b5.tape, b5.output, b5.size, fun k hk _ => b5.block k hk⟩
        have ho5 := OwnC.below hoN b5 hzN
        have hz5 : wr.heap.size ≤ w5.heap.size := Nat.le_trans hzN b5.size
        have hby6 : Bytes w5 A bs := HB.out.grown hg5 HA.out
        clear hsN hgN hoN hzN b5 hby5 hgg
        go_upto_if 34 with fail
        go_cut [8] (fun zv wx => ∃ (z : Int) (pz sz : Nat), zv = .int .i64 z ∧ isStitchB z = true ∧ takenB z ≤ (left : Int) ∧ (z = 3 → ¬ 8 ≤ made + left ∧ ¬ 16 ≤ out.length + left) ∧ Src wx g A bs.length c pz sz ∧ sz < 18446744073709551616 ∧ p1 ≤ pz ∧ pz ≤ p1 + 2 ∧ lowOf bs.length pz sz ≤ lowOf bs.length p1 s1 + 2199023255552 ∧ w.grownBy wx (some g) ∧ OwnI wx w.heap.size wr.heap.size A5 c5 out ∧ wr.heap.size ≤ wx.heap.size)
        case first =>
          by_cases hgt : left < t
          · have dgt : decide ((left : Int) < (t : Int)) = true := decide_eq_true (by omega)
            go_wp2_with (fail)
            refine (spec_pick 2 g A c (p1 + 1) s2 bs w5 hs5 hby6 (by have h1 := HPH.out; have h2 := HP0.out; omega) hs2 (by decide)).mono ?_
            rintro e w6 ⟨x2, s3, n3, rfl, hx2, rfl⟩
            have hs3 := hx2.2.1
            have hl2 := lowOf_any (len := bs.length) (p := p1 + 1) (s := s2) (s' := s3)
            have hs6 : Src (nextW w5 g (p1 + 1) s3 n3) g A bs.length c (p1 + 1 + 1) s3 := nextW_src hs5
            have hg6 : w.grownBy (nextW w5 g (p1 + 1) s3 n3) (some g) := hg5.trans (nextW_grown _ _ _ _ _)
            have ho6 : OwnI (nextW w5 g (p1 + 1) s3 n3) w.heap.size wr.heap.size A5 c5 out := OwnC.keep ho5 fun q h1 _ _ => nextW_far (by omega)
            have hz6 : wr.heap.size ≤ (nextW w5 g (p1 + 1) s3 n3).heap.size := by simp [nextW]; omega
            generalize nextW w5 g (p1 + 1) s3 n3 = w6 at hs6 hg6 ho6 hz6 ⊢
            have q0 := Int.emod_nonneg x2 (show (2 : Int) ≠ 0 by decide)
            have q1 := Int.emod_lt_of_pos x2 (show (0 : Int) < 2 by decide)
            clear hx2
            generalize x2 % 2 = r at q0 q1 ⊢
            have hw : IntKind.i64.wrap (1 + r) = 1 + r := IntWalk.i64_in _ ⟨by omega, by omega⟩
            go_wp2_with (fail)
            go_meet
            refine ⟨1 + r, p1 + 1 + 1, s3, rfl, ?_, ?_, fun e => by omega, hs6, hs3, by omega, by omega, by omega, hg6, ho6, hz6⟩
            · rcases (by omega : r = 0 ∨ r = 1) with e | e <;> subst e <;> decide
            · rcases (by omega : r = 0 ∨ r = 1) with e | e <;> subst e
              · have : takenB (1 + 0) = 1 := by decide
                omega
              · have : takenB (1 + 1) = 1 := by decide
                omega
          · have dgt : decide ((left : Int) < (t : Int)) = false := decide_eq_false (by omega)
            go_wp2_with (fail)
            go_meet
            exact ⟨y, p1 + 1, s2, rfl, hst, by rw [HTK.out]; omega, HCC.out, hs5, hs2, by omega, by omega, by omega, hg5, ho5, hz5⟩
        case rest =>
        clear hs5 hg5 ho5 hz5 hby6 hst HCC HTK HMD HTU hl1 HX hs2
        obtain ⟨z, pz, sz, rfl, hzst, hzl, hz3, hsz, hszz, hpz, hpz2, hlz, hgz, hoz, hzz⟩ := hcut
        obtain ⟨tz, uz, htz, huz, hcz⟩ := taken_cases hzst
        rw [htz] at hzl
        have HT2 : Hid (takenS (out ++ [z]) + (left - tz) = m) := Lib.hid (by
          have e1 := HT.out
          have e2 : takenB z = ((takenN z : Nat) : Int) := by rw [takenB, if_pos hzst]
          rw [takenS_append, takenS, takenS]
          omega)
        have HTZ := Lib.hid htz; clear htz
        have HUZ := Lib.hid huz; clear huz
        have HK2 : Hid (∀ k ∈ out ++ [z], isStitchB k = true) := Lib.hid (fun k hk => by
          rcases List.mem_append.1 hk with hk | hk
          · exact HK.out k hk
          · rw [List.mem_singleton.1 hk]; exact hzst)
        have hol2 : (out ++ [z]).length + (left - tz) ≤ 16 := by
          rw [List.length_append, List.length_singleton]
          rcases hcz with ⟨e, e1, e2⟩ | ⟨_, e1, e2⟩
          · have := hz3 e; omega
          · omega
        have hml2 : made + uz + (left - tz) ≤ 8 := by
          rcases hcz with ⟨e, e1, e2⟩ | ⟨_, e1, e2⟩
          · have := hz3 e; omega
          · omega
        have hdec : (left - tz) * 17 + (16 - (out ++ [z]).length) + 1 ≤ left * 17 + (16 - out.length) := by
          rw [List.length_append, List.length_singleton]
          rcases hcz with ⟨e, e1, e2⟩ | ⟨_, e1, e2⟩
          · have := hz3 e; omega
          · omega
        clear hz3 hcz hzst
        have hgz2 := hsz.lt
        go_wp2_with (at_builtin; refine wpList_append1 wc [.int .i64 z] _ rfl (.tmp 38) (.tmp 40) _ rfl 2 iI _ 1 8 Tryz.underlying36 hi0 hu0 hu1 hu2 rfl (by decide) rfl hoz (by omega) 1 rfl rfl (by simp [Value.oneCell']) (by omega) (by decide) ?_; intro A9 c9 w8 ho8 hg8 hb8 hz8)
        have hs8 : Src w8 g A bs.length c pz sz := (hsz.alloc (.cells #[.int .i64 z] 2)).grownT (OwnC.alloc hoz (.cells #[.int .i64 z] 2)) t1 hg8
        have hgb8 : w.grownBy w8 (some g) := ⟨hb8.os.trans hgz.os, hb8.tape.trans hgz.tape, hb8.output.trans hgz.output, Nat.le_trans hgz.size hb8.size, fun k hk hne => (hb8.block k hk).trans (hgz.block k hk hne)⟩
        have ho8' : OwnI w8 w.heap.size w8.heap.size A9 c9 (out ++ [z]) := by
          show OwnC _ _ _ _ _ _ _ _ _
          rw [List.map_append, List.length_append]
          exact ho8
        clear hsz hgz hoz ho8 hg8 hb8
        have hgs8 := hs8.lt
        refine (spec_ColumnsTaken z w8).mono ?_; rintro e w9 ⟨rfl, b9⟩
        rw [HTZ.out]
        have hs9 : Src w9 g A bs.length c pz sz := hs8.below b9 hgs8
        have hgb9 : w.grownBy w9 (some g) := hgb8.trans ⟨b9.os, b9.tape, b9.output, b9.size, fun k hk _ => b9.block k hk⟩
        have ho9 : OwnI w9 w.heap.size w9.heap.size A9 c9 (out ++ [z]) := (OwnC.below ho8' b9 (Nat.le_refl _)).mono (Nat.le_refl _) b9.size
        have hgs9 := hs9.lt
        clear hs8 hgb8 ho8' hgs8 b9
        have e1 : (left : Int) - (tz : Int) = ((left - tz : Nat) : Int) := by omega
        have w11 : IntKind.i64.wrap ((left : Int) - (tz : Int)) = ((left - tz : Nat) : Int) := by rw [e1]; exact IntWalk.i64_in _ ⟨by omega, by omega⟩
        have w12 : IntKind.i64.wrap ((made : Int) + (uz : Int)) = ((made + uz : Nat) : Int) := by
          rw [show (made : Int) + (uz : Int) = ((made + uz : Nat) : Int) by omega]
          exact IntWalk.i64_in _ ⟨by omega, by omega⟩
        clear e1
        go_wp2_with (fail)
        refine (spec_ColumnsMade z w9).mono ?_; rintro e w10 ⟨rfl, b10⟩
        rw [HUZ.out]
        have hs10 : Src w10 g A bs.length c pz sz := hs9.below b10 hgs9
        have hgb10 : w.grownBy w10 (some g) := hgb9.trans ⟨b10.os, b10.tape, b10.output, b10.size, fun k hk _ => b10.block k hk⟩
        have ho10 : OwnI w10 w.heap.size w10.heap.size A9 c9 (out ++ [z]) := (OwnC.below ho9 b10 (Nat.le_refl _)).mono (Nat.le_refl _) b10.size
        clear hs9 hgb9 ho9 hgs9 b10
        have HLN : Hid ((out ++ [z]).length = out.length + 1) := Lib.hid (by rw [List.length_append]; rfl)
        have HFIN : Hid (pz + 2 * (((left - tz) * 17 + (16 - (out ++ [z]).length)) * 4398046511104 + lowOf bs.length pz sz) ≤ P0) := Lib.hid (by
          have h1 := HPH.out
          omega)
        have hpot := potW_eq (A' := A9) (m := (out ++ [z]).length) (c' := c9) (l := left - tz) (len := bs.length) hs10
        have HP2 := Lib.hid hpot; clear hpot
        go_wp2_with (fail)
        refine ⟨⟨A9, c9, out ++ [z], made + uz, left - tz, pz, sz, by rw [HLN.out], by first | rfl | omega | (congr 1; omega), by first | rfl | (congr 1; omega), ho10, HK2, HT2, hol2, hml2, hs10, hszz, by omega, HFIN, hgb10⟩, ?_⟩
        rw [HLN.out] at HP2 hdec
        have hP2 := HP2.out
        rw [hP2, HPot.out]
        omega
    · have d1 : decide ((0 : Int) < (left : Int)) = false := decide_eq_false (by omega)
      have hlen16 : stitchesB out = true := by
        unfold stitchesB
        rw [Bool.and_eq_true, List.all_eq_true, decide_eq_true_eq]
        exact ⟨HK.out, by omega⟩
      have HL := Lib.hid hlen16; clear hlen16
      have HTM : Hid (takenS out = m) := Lib.hid (by have := HT.out; omega)
      go_wp2_with (fail)
      go_ret
      refine ⟨A5, c5, out, p1, s1, rfl, ho, HL.out, HTM.out, hsr, hs1, hpp, ?_, hgr⟩
      have h1 := HPH.out
      have h2 := HP0.out
      omega

end Go.Proofs.YtnjgmhdmjaijgaaGreat

/- The draws: the source as one word, and what its methods give. -/
namespace Go.Proofs.YtnjgmhdmjaijgaaGreat
open Go Go.RowKit

/-- The source at block g reads these bytes; it has given at most b numbers. -/
structure Sv (w : World) (g : Nat) (A : Option Addr) (c : Nat) (bs : List Int) (b : Nat) : Prop where
  ex : ∃ p s, Src w g A bs.length c p s ∧ s < 18446744073709551616 ∧ p ≤ b
  bytes : Bytes w A bs
  far : FarB A bs g
  len : bs.length ≤ 1099511627776
section
variable {w w' : World} {g : Nat} {A : Option Addr} {c : Nat} {bs : List Int} {b b' : Nat}
theorem Sv.mono (h : Sv w g A c bs b) (hb : b ≤ b') : Sv w g A c bs b' := by
  obtain ⟨p, s, h1, h2, h3⟩ := h.ex
  exact ⟨⟨p, s, h1, h2, Nat.le_trans h3 hb⟩, h.bytes, h.far, h.len⟩
theorem Sv.lt (h : Sv w g A c bs b) : g < w.heap.size := by obtain ⟨p, s, h1, _⟩ := h.ex; exact h1.lt
theorem Sv.below (h : Sv w g A c bs b) (hb : Below w.heap.size w w') : Sv w' g A c bs b := by
  obtain ⟨p, s, h1, h2, h3⟩ := h.ex
  exact ⟨⟨p, s, h1.below hb h1.lt, h2, h3⟩, h.bytes.of_cells (cells_below hb), h.far, h.len⟩
theorem Sv.alloc (h : Sv w g A c bs b) (o : Obj) : Sv (w.alloc o) g A c bs b := h.below ((Below.refl _ _).alloc (Nat.le_refl _) o)
theorem Sv.drewN (h : Sv w g A c bs b) (n : Nat) : Sv (w.drewN n) g A c bs b := h.below (below_drewN (Below.refl _ _) n)
/-- A world in which the blocks up to the source's are as they were. -/
theorem Sv.keep (h : Sv w g A c bs b) (hk : ∀ q, q ≤ g → w'.heap[q]? = w.heap[q]?) : Sv w' g A c bs b := by
  obtain ⟨p, s, q1, q2, q3⟩ := h.ex
  refine ⟨⟨p, s, (hk g (Nat.le_refl g)).trans q1, q2, q3⟩, fun k hk' => ?_, h.far, h.len⟩
  obtain ⟨b, off, x, hA, hx, hc, h0⟩ := h.bytes k hk'
  have hlt : b < g := h.far (by omega) _ hA
  refine ⟨b, off, x, hA, hx, ?_, h0⟩
  rw [← hc]
  unfold World.cell?
  rw [hk b (by omega)]
theorem Sv.store (h : Sv w g A c bs b) {q j : Nat} (hq : g < q) (u : Value) : Sv (w.setCell ⟨q, j, none⟩ u) g A c bs b :=
  h.keep fun k hk => Below.heap_setCell w _ u k (by show k ≠ q; omega)
theorem Sv.grown {row : Option Nat} (h : Sv w g A c bs b) (hg : w.grownBy w' row) (h1 : ∀ q, row = some q → g < q) : Sv w' g A c bs b :=
  h.keep fun k hk => hg.block k (by have := h.lt; omega) fun e => by have := h1 k e.symm; omega
theorem Sv.next {n p s' : Nat} (h : Sv w g A c bs b) {s : Nat} (hs : Src w g A bs.length c p s) (hp : p ≤ b) (hs' : s' < 18446744073709551616) : Sv (nextW w g p s' n) g A c bs (b + 1) ∧ w.grownBy (nextW w g p s' n) (some g) ∧ (nextW w g p s' n).heap.size = w.heap.size :=
  ⟨⟨⟨p + 1, s', nextW_src hs, hs', by omega⟩, h.bytes.grown (nextW_grown w g p s' n) h.far, h.far, h.len⟩, nextW_grown w g p s' n, by simp [nextW]⟩
theorem OwnC.grownG {lo hi n cc : Nat} {e : TypeId} {sz : Nat} {B : Option Addr} {cs : List Value} (h : OwnC w lo hi e sz B n cc cs) (hg : w.grownBy w' (some g)) (hlo : g < lo ∨ hi ≤ g) : OwnC w' lo hi e sz B n cc cs :=
  h.keep fun k h1 h2 h3 => hg.block k h3 (fun e => by injection e with e; omega)
theorem Blk.grownG {g2 : Nat} {t : TypeId} {cs : Array Value} (h : Blk w g2 t cs) (hg : w.grownBy w' (some g)) (hne : g2 ≠ g) : Blk w' g2 t cs :=
  (hg.block g2 h.lt (fun e => by injection e with e; exact hne e)).trans h
theorem Ints.grownG {B : Option Addr} {xs : List Int} (h : Ints w B xs) (hg : w.grownBy w' (some g)) (hB : ∀ a, B = some a → a.block ≠ g) : Ints w' B xs :=
  fun k hk => by
    obtain ⟨b, off, x, hA, hc, hx⟩ := h k hk
    exact ⟨b, off, x, hA, hg.cell hc (fun e => by injection e with e; exact hB _ hA e), hx⟩
end
theorem below_grownG {w w' : World} {g : Nat} (h : Below w.heap.size w w') : w.grownBy w' (some g) := ⟨h.os, h.tape, h.output, h.size, fun k hk _ => h.block k hk⟩
theorem gb_below {w w' : World} {g B : Nat} (h : w.grownBy w' (some g)) (hB : B ≤ g) (hw : B ≤ w.heap.size) : Below B w w' :=
  ⟨h.os, h.tape, h.output, h.size, fun k hk => h.block k (by omega) (fun e => by injection e with e; omega)⟩

theorem gb_set {w w1 : World} {g : Nat} (h : w.grownBy w1 (some g)) {p : Addr} (hp : w.heap.size ≤ p.block) (u : Value) : w.grownBy (w1.setCell p u) (some g) :=
  ⟨h.os, h.tape, h.output, by simpa using h.size, fun q hq hne => (Below.heap_setCell w1 p u q (by omega)).trans (h.block q hq hne)⟩
theorem gb_app {w w1 w2 : World} {g : Nat} {row : Option Nat} (h : w.grownBy w1 (some g)) (hg : w1.grownBy w2 row) (hr : ∀ q, row = some q → w.heap.size ≤ q) : w.grownBy w2 (some g) :=
  ⟨hg.os.trans h.os, hg.tape.trans h.tape, hg.output.trans h.output, Nat.le_trans h.size hg.size, fun q hq hne => (hg.block q (Nat.lt_of_lt_of_le hq h.size) (fun e => by have := hr q e.symm; omega)).trans (h.block q hq hne)⟩
theorem gb_al {w w1 : World} {g : Nat} (h : w.grownBy w1 (some g)) (o : Obj) : w.grownBy (w1.alloc o) (some g) := h.trans (World.grownBy_alloc _ _ _)
theorem gb_bel {w w1 w2 : World} {g : Nat} (h : w.grownBy w1 (some g)) (b : Below w1.heap.size w1 w2) : w.grownBy w2 (some g) := h.trans (below_grownG b)

/-- Rows (50) outside the source's block. -/
theorem OwnRows.grownG {w w' : World} {g : Nat} {lo hi n cc : Nat} {B : Option Addr} {rs : List RowD} (h : OwnRows w lo hi B n cc rs) (hg : w.grownBy w' (some g)) (hlo : g < lo ∨ hi ≤ g) : OwnRows w' lo hi B n cc rs :=
  h.keep fun k h1 h2 h3 => hg.block k h3 (fun e => by injection e with e; omega)
theorem sv_pick (m : Int) (hm : m ≤ 200) {w : World} {g : Nat} {A : Option Addr} {c : Nat} {bs : List Int} {b : Nat} (h : Sv w g A c bs b) (hb : b ≤ 1152921504606846000) :
    Calls Tryz.prog 81 #[.pointer (some ⟨g, 0, none⟩), .int .i64 m] w fun e w' => ∃ x : Int, e = .returned (.int .i64 x) ∧ 0 ≤ x ∧ (x < m ∨ x = 0) ∧ Sv w' g A c bs (b + 1) ∧ w.grownBy w' (some g) ∧ w'.heap.size = w.heap.size := by
  by_cases h1 : m ≤ 1
  · have d1 : decide (m ≤ 1) = true := decide_eq_true h1
    go_enter Tryz.func81, Tryz.ntmps81
    go_wp2_with (fail)
    go_ret
    exact ⟨0, rfl, by decide, .inr rfl, h.mono (by omega), ⟨rfl, rfl, rfl, Nat.le_refl _, fun _ _ _ => rfl⟩, rfl⟩
  · obtain ⟨p, s, q1, q2, q3⟩ := h.ex
    refine (spec_pick m g A c p s bs w q1 h.bytes (by omega) q2 ⟨by omega, hm⟩).mono ?_
    rintro e w2 ⟨x, s', n, rfl, hx, rfl⟩
    obtain ⟨k1, k2, k3⟩ := h.next q1 (n := n) q3 hx.2.1
    exact ⟨_, rfl, Int.emod_nonneg x (by omega), .inl (Int.emod_lt_of_pos x (by omega)), k1, k2, k3⟩

theorem sv_one (m : Int) (hm : 2 ≤ m ∧ m ≤ 200) {w : World} {g : Nat} {A : Option Addr} {c : Nat} {bs : List Int} {b : Nat} (h : Sv w g A c bs b) (hb : b ≤ 1152921504606846000) :
    Calls Tryz.prog 60 #[.pointer (some ⟨g, 0, none⟩), .int .i64 m] w fun e w' => ∃ x : Bool, e = .returned (.bool x) ∧ Sv w' g A c bs (b + 1) ∧ w.grownBy w' (some g) ∧ w'.heap.size = w.heap.size := by
  obtain ⟨p, s, q1, q2, q3⟩ := h.ex
  refine (spec_one m g A c p s bs w q1 h.bytes (by omega) q2 hm).mono ?_
  rintro e w2 ⟨y, x, s', n, rfl, hx, rfl⟩
  obtain ⟨k1, k2, k3⟩ := h.next q1 (n := n) q3 hx.2.1
  exact ⟨_, rfl, k1, k2, k3⟩

theorem sv_among (l : List Int) (L : Option Addr) (d : Nat) (hl : 2 ≤ l.length ∧ l.length ≤ 200) {w : World} {g : Nat} {A : Option Addr} {c : Nat} {bs : List Int} {b : Nat} (h : Sv w g A c bs b) (hb : b ≤ 1152921504606846000) (hL : Ints w L l) (hLg : ∀ a, L = some a → a.block ≠ g) :
    Calls Tryz.prog 39 #[.pointer (some ⟨g, 0, none⟩), .slice L l.length d] w fun e w' => ∃ y : Int, e = .returned (.int .i64 y) ∧ y ∈ l ∧ Sv w' g A c bs (b + 1) ∧ w.grownBy w' (some g) ∧ w'.heap.size = w.heap.size := by
  obtain ⟨p, s, q1, q2, q3⟩ := h.ex
  refine (spec_among l L d g A c p s bs w q1 h.bytes (by omega) q2 hL hLg hl).mono ?_
  rintro e w2 ⟨x, y, s', n, rfl, hy, hx, rfl⟩
  obtain ⟨k1, k2, k3⟩ := h.next q1 (n := n) q3 hx.2.1
  exact ⟨_, rfl, List.mem_of_getElem? hy, k1, k2, k3⟩

theorem sv_draw14 (m : Nat) (hm : m ≤ 8) {w : World} {g : Nat} {A : Option Addr} {c : Nat} {bs : List Int} {b : Nat} (h : Sv w g A c bs b) (hb : b ≤ 576460752303423488) :
    Calls Tryz.prog 97 #[.pointer (some ⟨g, 0, none⟩), .int .i64 (m : Int)] w fun e w' => ∃ (A' : Option Addr) (c' : Nat) (out : List Int), e = .returned (.slice A' out.length c') ∧ OwnI w' w.heap.size w'.heap.size A' c' out ∧ stitchesB out = true ∧ takenS out = m ∧ Sv w' g A c bs (b + 4503599627370496) ∧ w.grownBy w' (some g) := by
  obtain ⟨p, s, q1, q2, q3⟩ := h.ex
  refine (spec_l14Draw m g A c p s bs w q1 h.bytes h.far h.len (by omega) q2 hm).mono ?_
  rintro e w2 ⟨A', c', out, p', s', rfl, ho, hs, ht, q4, q5, q6, q7, hg⟩
  exact ⟨A', c', out, rfl, ho, hs, ht, ⟨⟨p', s', q4, q5, by omega⟩, h.bytes.grown hg h.far, h.far, h.len⟩, hg⟩

theorem spec_l00From (A : Option Addr) (c : Nat) (bs : List Int) (w : World) (hby : Bytes w A bs) (hl : bs.length ≤ 1099511627776) :
    Calls Tryz.prog 37 #[.slice A bs.length c] w fun e w' => e = .returned (.pointer (some ⟨w.heap.size, 0, none⟩)) ∧ Sv w' w.heap.size A c bs 0 ∧ Below w.heap.size w w' ∧ w'.heap.size = w.heap.size + 1 := by
  have kb := Blk.new w 109 #[.slice A bs.length c, .int .i64 0, .int .u64 0]
  go_enter Tryz.func37, Tryz.ntmps37
  go_wp2_with (fail)
  go_ret
  have hb : Below w.heap.size w (w.alloc (.cells #[.slice A bs.length c, .int .i64 0, .int .u64 0] 109)) := by (repeat (first | exact Below.refl _ _ | assumption | apply Below.drew | apply below_drewN | (refine Below.alloc ?_ (by first | omega | (simp; done) | (simp; omega)) _) | (refine Below.setCell ?_ (by first | omega | (simp; done) | (simp; omega)) _)))
  refine ⟨rfl, ⟨⟨0, 0, kb, by decide, Nat.le_refl _⟩, hby.of_cells (cells_below hb), fun h0 a ha => ?_, hl⟩, hb, by simp⟩
  obtain ⟨b, off, x, hA, _, hc, _⟩ := hby 0 h0
  have h2 := cell_lt hc
  rw [ha] at hA
  injection hA with hA
  subst hA
  exact h2

end Go.Proofs.YtnjgmhdmjaijgaaGreat

/- Drawn braids, the given side. -/
namespace Go.Proofs.YtnjgmhdmjaijgaaGreat
open Go Go.RowKit

set_option maxHeartbeats 4000000 in
set_option maxRecDepth 10000 in
theorem spec_l03DrawWord (n most : Nat) (w : World) (g : Nat) (AB : Option Addr) (cB : Nat) (bs : List Int) (b : Nat) (hsv : Sv w g AB cB bs b) (hb : b ≤ 1000000) (hn : n ≤ 12) (hm : most ≤ 20) :
    Calls Tryz.prog 124 #[.pointer (some ⟨g, 0, none⟩), .int .i64 (n : Int), .int .i64 (most : Int)] w fun e w' => ∃ (xs : List Int) (A' : Option Addr) (c' : Nat), e = .returned (.slice A' xs.length c') ∧ OwnC w' w.heap.size w'.heap.size 2 1 A' xs.length c' (xs.map (Value.int .i64)) ∧ xs.length ≤ most ∧ Sv w' g AB cB bs (b + 1 + 2 * most) ∧ w.grownBy w' (some g) := by
  obtain ⟨i0, hi0, hz0, hz1, hz2⟩ := info_parts info_int64
  have hgw := hsv.lt
  have hs1 := hsv.alloc (.cells #[] 2)
  have hg1 : w.grownBy (w.alloc (.cells #[] 2)) (some g) := World.grownBy_alloc _ _ _
  have o1 : OwnC (w.alloc (.cells #[] 2)) w.heap.size (w.alloc (.cells #[] 2)).heap.size 2 1 (some ⟨w.heap.size, 0, none⟩) 0 0 [] := (OwnC.lit (w := w) (lo := w.heap.size) (n := 0) 2 1 #[] (Nat.le_refl _) (Nat.zero_le _) rfl).mono (Nat.le_refl _) (by simp)
  by_cases h2 : n < 2
  · have d2 : decide ((n : Int) < 2) = true := decide_eq_true (by omega)
    go_enter Tryz.func124, Tryz.ntmps124
    go_wp2_with (fail)
    go_ret
    exact ⟨[], _, _, rfl, o1, Nat.zero_le _, hs1.mono (by omega), hg1⟩
  · have d2 : decide ((n : Int) < 2) = false := decide_eq_false (by omega)
    have wm : IntKind.i64.wrap ((most : Int) + 1) = (most : Int) + 1 := IntWalk.i64_in _ ⟨by omega, by omega⟩
    have wn : IntKind.i64.wrap ((n : Int) - 1) = (n : Int) - 1 := IntWalk.i64_in _ ⟨by omega, by omega⟩
    go_enter Tryz.func124, Tryz.ntmps124
    go_wp2_with (fail)
    refine (sv_pick ((most : Int) + 1) (by omega) hs1 (by omega)).mono ?_
    rintro e w2 ⟨x, rfl, hx0, hx1, hs2, hg2, hz2'⟩
    obtain ⟨q, rfl⟩ := Int.eq_ofNat_of_zero_le hx0
    have hq : q ≤ most := by omega
    have o2 : OwnC w2 w.heap.size w2.heap.size 2 1 (some ⟨w.heap.size, 0, none⟩) 0 0 [] := (o1.grownG hg2 (.inl (by omega))).mono (Nat.le_refl _) hg2.size
    have hg3 := hg1.trans hg2
    clear o1 hs1 hg1 hg2 hz2' hx0 hx1
    go_wp2_with (fail)
    go_loopw [7, 8] (fun ov kv wr => ∃ (k : Nat) (xs : List Int) (A3 : Option Addr) (c3 m : Nat), kv = .int .i64 (k : Int) ∧ Hid (m = xs.length) ∧ k + m ≤ most ∧ ov = .slice A3 m c3 ∧ OwnC wr w.heap.size wr.heap.size 2 1 A3 m c3 (xs.map (Value.int .i64)) ∧ Sv wr g AB cB bs (b + 1 + 2 * m) ∧ w.grownBy wr (some g)) (fun _ kv _ => (intOf kv).toNat)
    case atStart => exact ⟨q, [], _, _, 0, rfl, Lib.hid rfl, by omega, rfl, o2, hs2, hg3⟩
    case round =>
      clear o2 hs2 hg3 hq
      obtain ⟨k, xs, A3, c3, m, rfl, HM, hk, rfl, oo, hs, hgr⟩ := hrel
      have hzr := hgr.size
      by_cases hk0 : k = 0
      · subst hk0
        go_wp2_with (fail)
        go_ret
        have hmm := HM.out
        subst hmm
        exact ⟨xs, A3, c3, rfl, oo, by omega, hs.mono (by omega), hgr⟩
      · obtain ⟨k', hk'⟩ : ∃ k', k = k' + 1 := ⟨k - 1, by omega⟩
        have dk : decide ((k : Int) > 0) = true := decide_eq_true (by omega)
        have wk : IntKind.i64.wrap ((k : Int) - 1) = (k' : Int) := by rw [show (k : Int) - 1 = (k' : Int) by omega]; exact IntWalk.i64_in _ ⟨by omega, by omega⟩
        have hkk : k' < k ∧ k' + (m + 1) ≤ most := by omega
        clear hk' hk0
        go_wp2_with (fail)
        refine (sv_pick ((n : Int) - 1) (by omega) hs (by omega)).mono ?_
        rintro e w3 ⟨y, rfl, hy0, hy1, hs3, hg3, hz3⟩
        have wy : IntKind.i64.wrap (1 + y) = 1 + y := IntWalk.i64_in _ ⟨by omega, by omega⟩
        have wyn : IntKind.i64.wrap (-(1 + y)) = -(1 + y) := IntWalk.i64_in _ ⟨by omega, by omega⟩
        have oo3 : OwnC w3 w.heap.size w3.heap.size 2 1 A3 m c3 (xs.map (Value.int .i64)) := (oo.grownG hg3 (.inl (by omega))).mono (Nat.le_refl _) hg3.size
        have hgr3 := hgr.trans hg3
        clear oo hs hg3 hgr hz3
        go_wp2_with (fail)
        refine (sv_one 2 (by omega) hs3 (by omega)).mono ?_
        rintro e w4 ⟨bo, rfl, hs4, hg4, hz4⟩
        have oo4 : OwnC w4 w.heap.size w4.heap.size 2 1 A3 m c3 (xs.map (Value.int .i64)) := (oo3.grownG hg4 (.inl (by omega))).mono (Nat.le_refl _) hg4.size
        have hgr4 := hgr3.trans hg4
        have hz4' := hgr4.size
        clear oo3 hs3 hg4 hgr3 hz4
        have HGW := Lib.hid hgw
        have HNEXT : Hid (∀ (x : Int) (A9 : Option Addr) (c9 : Nat) (w8 : World), OwnC w8 w.heap.size w8.heap.size 2 1 A9 (m + 1) c9 (xs.map (Value.int .i64) ++ [.int .i64 x]) → (w4.alloc (.cells #[.int .i64 x] 2)).grownBy w8 (Value.slice A3 m c3).ownBlock → ∃ (xs' : List Int), Hid (m + 1 = xs'.length) ∧ OwnC w8 w.heap.size w8.heap.size 2 1 A9 (m + 1) c9 (xs'.map (Value.int .i64)) ∧ Sv w8 g AB cB bs (b + 1 + 2 * (m + 1)) ∧ w.grownBy w8 (some g)) := Lib.hid (fun x A9 c9 w8 ho hg => by
          have hr : ∀ q, (Value.slice A3 m c3).ownBlock = some q → w.heap.size ≤ q := fun q hq => by
            rcases oo4.form with ⟨hA, _⟩ | ⟨g2, _, hA, h1, _⟩
            · rw [hA] at hq; cases hq
            · rw [hA] at hq; injection hq with hq; exact hq ▸ h1
          refine ⟨xs ++ [x], Lib.hid (by rw [List.length_append, List.length_singleton, HM.out]), by simpa using ho, ?_, gb_app (gb_al hgr4 _) hg hr⟩
          exact ((hs4.alloc _).grown hg (fun q hq => by have := hr q hq; have := HGW.out; omega)).mono (by omega))
        cases bo
        all_goals
          go_wp2_with (at_builtin; refine wpList_append1 w4 [.int .i64 _] _ rfl (.tmp 31) (.tmp 33) _ rfl 2 i0 _ 1 8 Tryz.underlying36 hi0 hz0 hz1 hz2 rfl (by decide) rfl oo4 hz4' 1 rfl rfl (by simp [Value.oneCell']) (by omega) (by decide) ?_; intro A9 c9 w8 ho8 hg8 hb8 hz8)
          obtain ⟨xs', h1, h3, h4, h5⟩ := HNEXT.out _ A9 c9 w8 ho8 hg8
          exact ⟨⟨k', xs', A9, c9, m + 1, rfl, h1, hkk.2, rfl, h3, h4, h5⟩, by simp [intOf]; omega⟩

end Go.Proofs.YtnjgmhdmjaijgaaGreat
