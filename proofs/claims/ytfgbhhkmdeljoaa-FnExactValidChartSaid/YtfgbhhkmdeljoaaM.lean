/- Marks: the laws write numbers into a slice and read them back. -/
import Derived.Test.YtfgbhhkmdeljoaaR
namespace Go.Proofs.Ytfgbhhkmdeljoaa
open Go.RowKit

theorem OwnC.cap {w : World} {lo hi : Nat} {e : TypeId} {sz : Nat} {A : Option Addr} {n c : Nat} {cs : List Value} (h : OwnC w lo hi e sz A n c cs) : n ≤ c := by
  rcases h.form with ⟨_, rfl, rfl, _⟩ | ⟨_, _, _, _, _, _, h, _⟩
  · exact Nat.le_refl _
  · exact h
theorem belowOf {P : Program} {f : FuncId} {args : Array Value} {w : World} {Φ : Ending → Prop} (h : Calls P f args w fun e w' => Φ e ∧ w = w') : Calls P f args w fun e w' => Φ e ∧ Below w.heap.size w w' :=
  h.mono fun _ _ ⟨a, b⟩ => ⟨a, by subst b; exact Below.refl _ _⟩
theorem belowOfN {P : Program} {f : FuncId} {args : Array Value} {w : World} {Φ : Ending → Prop} (h : Calls P f args w fun e w' => Φ e ∧ ∃ n, w' = w.drewN n) : Calls P f args w fun e w' => Φ e ∧ Below w.heap.size w w' :=
  h.mono fun _ _ ⟨a, n, b⟩ => ⟨a, by subst b; exact below_drewN (Below.refl _ _) _⟩
theorem laws_eqInt64S' (A B : Option Addr) (c d : Nat) (xs ys : List Int) (w : World) (h : Ints w A xs) (h' : Ints w B ys) (hl : xs.length ≤ 9223372036854775807) (hl' : ys.length ≤ 9223372036854775807) :
    Calls Try.prog 21 #[.slice A xs.length c, .slice B ys.length d] w fun e w' => e = .returned (.bool (decide (xs = ys))) ∧ Below w.heap.size w w' := belowOfN (laws_eqInt64S A B c d xs ys w h h' hl hl')

def marksI (k : Int) (m : Nat) : List Int := (List.range m).map fun (i : Nat) => k + i
theorem marksI_length (k : Int) (m : Nat) : (marksI k m).length = m := by simp [marksI]
theorem marksI_snoc (k : Int) (m : Nat) : marksI k (m + 1) = marksI k m ++ [k + m] := by simp [marksI, List.range_succ]
theorem marksI_at {k : Int} {m i : Nat} {p : Int} (h : (marksI k m)[i]? = some p) : p = k + i := by
  simp only [marksI, List.getElem?_map, Option.map_eq_some_iff] at h
  obtain ⟨j, hj, rfl⟩ := h
  obtain ⟨hl, he⟩ := List.getElem?_eq_some_iff.1 hj
  simp at he
  subst he
  rfl

theorem upd_alloc (w : World) (o : Obj) (lo hi : Nat) : Upd lo hi w (w.alloc o) :=
  ⟨rfl, rfl, rfl, by simp, fun k hk _ => Below.heap_alloc w o k hk⟩

set_option maxHeartbeats 1000000 in
theorem laws_markInt64S (A : Option Addr) (c : Nat) (xs : List Int) (k0 : Int) (lo hi : Nat) (w : World) (h : OwnI w lo hi A c xs) (hk0 : 0 ≤ k0) (hk1 : k0 + xs.length ≤ 1000000000000) :
    Calls Try.prog 23 #[.slice A xs.length c, .int .i64 k0] w fun e w' => e = .returned (.int .i64 (k0 + xs.length)) ∧ OwnC w' lo hi 2 1 A xs.length c ((marksI k0 xs.length).map (Value.int .i64)) ∧ Upd lo hi w w' := by
  have hlen : xs.length ≤ 9223372036854775807 := by omega
  go_enter Try.func23, Try.ntmps23
  go_wp2
  go_loopw [1, 5] (fun kv i wr => ∃ (k : Nat) (cs : List Value), k ≤ xs.length ∧ i = .int .i64 k ∧ kv = .int .i64 (k0 + k) ∧ OwnC wr lo hi 2 1 A xs.length c cs ∧ cs.take k = (marksI k0 k).map (Value.int .i64) ∧ Upd lo hi w wr) (fun _ i _ => xs.length - (intOf i).toNat)
  case atStart => exact ⟨0, _, Nat.zero_le _, rfl, by simp, h, by simp [marksI], Upd.refl _ _ _⟩
  case round =>
    clear h
    obtain ⟨k, cs, hk, rfl, rfl, ho, htk, hu⟩ := hrel
    have hcl : cs.length = xs.length * 1 := ho.len
    have HT := Lib.hid htk; clear htk
    have HC := Lib.hid hcl; clear hcl
    by_cases hlt : k < xs.length
    · obtain ⟨g, rfl, hg1, hg2, q0, f0⟩ := ho.cell (j := k) (by rw [HC.out]; omega)
      go_wp2_with (fail)
      go_roundw
      case rel =>
        refine ⟨k + 1, cs.set k (.int .i64 (k0 + k)), by omega, by go_num, by push_cast; go_num, (ho.store _).1, ?_, by (repeat (first | exact Upd.refl _ _ _ | assumption | apply Upd.drewN | (refine Upd.setCell ?_ (by first | omega | (simp; done) | (simp; omega)) (by first | omega | (simp; done) | (simp; omega)) _)))⟩
        rw [marksI_snoc, take_set_succ _ _ _ (by rw [HC.out]; omega), HT.out]
        simp
      case measure => simp [intOf]; omega
    · go_wp2
      go_ret
      have : k = xs.length := by omega
      subst this
      have e : cs = (marksI k0 xs.length).map (Value.int .i64) := by
        have := HT.out
        rwa [take_all (by rw [HC.out]; omega)] at this
      subst e
      exact ⟨rfl, ho, hu⟩

theorem laws_heldInt64S (A : Option Addr) (c m : Nat) (k0 : Int) (w : World) (h : Ints w A (marksI k0 m)) (hk0 : 0 ≤ k0) (hk1 : k0 + m ≤ 1000000000000) :
    Calls Try.prog 24 #[.slice A m c, .int .i64 k0] w fun e w' => e = .returned (.int .i64 (k0 + m)) ∧ w = w' := by
  go_enter Try.func24, Try.ntmps24
  go_wp2
  go_loop [1, 5] (fun kv i => ∃ (k : Nat), k ≤ m ∧ i = .int .i64 k ∧ kv = .int .i64 (k0 + k)) (fun _ i => m - (intOf i).toNat)
  case atStart => exact ⟨0, Nat.zero_le _, rfl, by simp⟩
  case round =>
    obtain ⟨k, hk, rfl, rfl⟩ := hrel
    by_cases hlt : k < m
    · obtain ⟨b, off, p, rfl, h0, hp⟩ := h k (by rw [marksI_length]; exact hlt)
      obtain rfl := marksI_at hp
      clear hp
      go_wp2_with (fail)
      go_round
      case rel => exact ⟨k + 1, by omega, by go_num, by push_cast; go_num⟩
      case measure => simp [intOf]; omega
    · go_wp2
      go_ret
      have : k = m := by omega
      subst this
      exact ⟨rfl, rfl⟩

theorem laws_markRow (d r : Int) (A : Option Addr) (c : Nat) (xs : List Int) (k0 : Int) (lo hi : Nat) (w : World) (h : OwnI w lo hi A c xs) (hk0 : 0 ≤ k0) (hk1 : k0 + xs.length ≤ 1000000000000) :
    Calls Try.prog 52 #[.agg #[.int .i64 d, .int .i64 r, .slice A xs.length c], .int .i64 k0] w fun e w' => e = .returned (.int .i64 (k0 + xs.length)) ∧ OwnC w' lo hi 2 1 A xs.length c ((marksI k0 xs.length).map (Value.int .i64)) ∧ Upd lo hi w w' := by
  go_enter Try.func52, Try.ntmps52
  go_wp2_with (fail)
  refine (laws_markInt64S A c xs k0 lo hi _ (h.alloc _) hk0 hk1).mono ?_
  rintro e w1 ⟨rfl, o1, u1⟩
  go_wp2_with (fail)
  go_ret
  exact ⟨rfl, o1, (upd_alloc w _ lo hi).trans u1⟩


end Go.Proofs.Ytfgbhhkmdeljoaa
