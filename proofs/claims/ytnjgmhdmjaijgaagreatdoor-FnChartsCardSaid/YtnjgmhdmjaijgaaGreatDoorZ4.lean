/- Steps of the proof, joined from several texts: PKs RP RQ. -/
import Derived.Test.YtnjgmhdmjaijgaaGreatDoorZ3
import Derived.Deep.RegionLaw
import Derived.Laws.CopyOwn
import Derived.BigRegion

/- l18Pack. -/
namespace Go.Proofs.YtnjgmhdmjaijgaaGreatDoor
open Go.RowKit

theorem wpList_append1q {P : Program} (w : World) (q : Nat) (hq : w.heap.size = q) (u : List Value) (te : TypeId) {ops : Array Oper} {rest : List Oper} {o : Oper} {a : Act} {Q : Exit → Act → World → Prop} (hgd : o.guard = none) (s x : Operand) (t : TypeId)
    (hop : o.op = .call { callee := .builtin .append, args := #[s, x], argTypes := #[t, t] })
    (e : TypeId) (i : TypeInfo) (z : Value) (size bytes : Nat) (ht : P.underlying t = some (.slice e)) (hi : P.info? e = some i) (hz : i.zero = some z)
    (hsize : i.size = size) (hby : i.bytes = bytes) (hzs : z.cells.size = size) (hsz : 0 < size)
    {lo hi' n c : Nat} {A : Option Addr} {cs : List Value} (hs : a.eval s = .slice A n c) (hown : OwnC w lo hi' e size A n c cs) (hlo : lo ≤ w.heap.size)
    (c2 : Nat) (hx : a.eval x = .slice (some ⟨q, 0, none⟩) 1 c2) (hl : u.length = size) (h1 : ∀ v ∈ u, v.oneCell' = true)
    (hn : n ≤ 1000000000000) (hb : bytes ≤ 100)
    (h : ∀ A' c' w', OwnC w' lo w'.heap.size e size A' (n + 1) c' (cs ++ u) → (w.alloc (.cells u.toArray te)).grownBy w' (Value.slice A n c).ownBlock → Below lo w w' → w.heap.size < w'.heap.size → wpList P ops Q rest (a.put o.dst (.slice A' (n + 1) c')) w') : wpList P ops Q (o :: rest) a (w.alloc (.cells u.toArray te)) := by
  subst hq
  exact wpList_append1 w u te hgd s x t hop e i z size bytes ht hi hz hsize hby hzs hsz hs hown hlo c2 hx hl h1 hn hb h

/-- append of one element inside a region that draws. -/
theorem step_append1 {P : Program} {ops : Array Oper} {w : World} {o : Oper} {a : Act} {K : Act → World → Prop} {Q : Exit → Act → World → Prop} {E : Prop} (u : List Value) (te : TypeId) (hgd : o.guard = none) (s x : Operand) (t : TypeId)
    (hop : o.op = .call { callee := .builtin .append, args := #[s, x], argTypes := #[t, t] })
    (e : TypeId) (i : TypeInfo) (z : Value) (size bytes : Nat) (ht : P.underlying t = some (.slice e)) (hi : P.info? e = some i) (hz : i.zero = some z)
    (hsize : i.size = size) (hby : i.bytes = bytes) (hzs : z.cells.size = size) (hsz : 0 < size)
    {lo hi' n c : Nat} {A : Option Addr} {cs : List Value} (hs : a.eval s = .slice A n c) (hown : OwnC w lo hi' e size A n c cs) (hlo : lo ≤ w.heap.size)
    (c2 : Nat) (hx : a.eval x = .slice (some ⟨w.heap.size, 0, none⟩) 1 c2) (hl : u.length = size) (h1 : ∀ v ∈ u, v.oneCell' = true)
    (hn : n ≤ 1000000000000) (hb : bytes ≤ 100)
    (h : ∀ A' c' w', OwnC w' lo w'.heap.size e size A' (n + 1) c' (cs ++ u) → (w.alloc (.cells u.toArray te)).grownBy w' (Value.slice A n c).ownBlock → Below lo w w' → w.heap.size < w'.heap.size → K (a.put o.dst (.slice A' (n + 1) c')) w') :
    if Region.wanted o (yielded ops a.tmps) = true then Oper.wp P o a (w.alloc (.cells u.toArray te)) K Q else E := by
  have hw : Region.wanted o (yielded ops a.tmps) = true := by simp [Region.wanted, hgd]
  rw [if_pos hw]
  refine wp_appendC _ s x t hop e i z size bytes ht hi hz hsize hby hzs hsz hs (hown.alloc _) (by simp; omega) (some ⟨w.heap.size, 0, none⟩) 1 c2 u hx (by omega) ?_ h1 (by unfold maxLen; omega) ?_ fun A' c' w' h2 h3 h4 => ?_
  · intro j v hv
    refine ⟨w.heap.size, 0, rfl, ?_⟩
    have := World.cell?_alloc_new w u.toArray te (0 + j)
    rw [this]
    simpa using hv
  · have : (n + 1) * bytes ≤ (n + 1) * 100 := Nat.mul_le_mul_left _ hb
    omega
  · have hz := h3.size
    simp only [World.size_alloc] at hz
    exact h A' c' w' h2 h3 (Below.trans ((Below.refl _ _).alloc hlo _) h4) (by omega)
theorem step_append1d {P : Program} {ops : Array Oper} {w : World} {o : Oper} {a : Act} {K : Act → World → Prop} {Q : Exit → Act → World → Prop} {E : Prop} (u : List Value) (te : TypeId) (hgd : o.guard = none) (s x : Operand) (t : TypeId)
    (hop : o.op = .call { callee := .builtin .append, args := #[s, x], argTypes := #[t, t] })
    (e : TypeId) (i : TypeInfo) (z : Value) (size bytes : Nat) (ht : P.underlying t = some (.slice e)) (hi : P.info? e = some i) (hz : i.zero = some z)
    (hsize : i.size = size) (hby : i.bytes = bytes) (hzs : z.cells.size = size) (hsz : 0 < size)
    {lo hi' n c : Nat} {A : Option Addr} {cs : List Value} (hs : a.eval s = .slice A n c) (hown : OwnC w lo hi' e size A n c cs) (hlo : lo ≤ w.heap.size)
    (c2 : Nat) (hx : a.eval x = .slice (some ⟨w.heap.size, 0, none⟩) 1 c2) (hl : u.length = size) (h1 : ∀ v ∈ u, v.oneCell' = true)
    (hn : n ≤ 1000000000000) (hb : bytes ≤ 100)
    (h : ∀ A' c' w', OwnC w' lo w'.heap.size e size A' (n + 1) c' (cs ++ u) → (World.drew (w.alloc (.cells u.toArray te))).grownBy w' (Value.slice A n c).ownBlock → Below lo w w' → w.heap.size < w'.heap.size → K (a.put o.dst (.slice A' (n + 1) c')) w') :
    if Region.wanted o (yielded ops a.tmps) = true then Oper.wp P o a (World.drew (w.alloc (.cells u.toArray te))) K Q else E := by
  have hw : Region.wanted o (yielded ops a.tmps) = true := by simp [Region.wanted, hgd]
  rw [if_pos hw]
  refine wp_appendC _ s x t hop e i z size bytes ht hi hz hsize hby hzs hsz hs (OwnC.keep (hown.alloc (.cells u.toArray te)) (w' := World.drew (w.alloc (.cells u.toArray te))) fun _ _ _ _ => rfl) (show lo ≤ (w.alloc (.cells u.toArray te)).heap.size by simp; omega) (some ⟨w.heap.size, 0, none⟩) 1 c2 u hx (by omega) ?_ h1 (by unfold maxLen; omega) ?_ fun A' c' w' h2 h3 h4 => ?_
  · intro j v hv
    refine ⟨w.heap.size, 0, rfl, ?_⟩
    have := World.cell?_alloc_new w u.toArray te (0 + j)
    show (w.alloc (.cells u.toArray te)).cell? _ = _
    rw [this]
    simpa using hv
  · have : (n + 1) * bytes ≤ (n + 1) * 100 := Nat.mul_le_mul_left _ hb
    omega
  · have hz : (w.alloc (.cells u.toArray te)).heap.size ≤ w'.heap.size := h3.size
    simp only [World.size_alloc] at hz
    exact h A' c' w' h2 h3 (Below.trans (show Below lo w (World.drew (w.alloc (.cells u.toArray te))) from (((Below.refl _ _).alloc hlo _).trans (b := w.alloc (.cells u.toArray te)) ⟨rfl, rfl, rfl, Nat.le_refl _, fun _ _ => rfl⟩)) h4) (by omega)
theorem OwnL.drewN {w : World} {lo hi : Nat} {A : Option Addr} {c : Nat} {xss : List (List Int)} {l : List Int} {A' : Option Addr} {c' m : Nat} {cs : List Value} (h : OwnL w lo hi A c xss l A' c' m cs) (n : Nat) : OwnL (w.drewN n) lo hi A c xss l A' c' m cs := h.keep fun _ _ _ _ => rfl

theorem OwnL.mono' {w : World} {lo hi hi' : Nat} {A : Option Addr} {c : Nat} {xss : List (List Int)} {l : List Int} {A' : Option Addr} {c' m : Nat} {cs : List Value} (h : OwnL w lo hi A c xss l A' c' m cs) (h2 : hi ≤ hi') : OwnL w lo hi' A c xss l A' c' m cs :=
  ⟨h.out.mono (Nat.le_refl _) h2, h.cells, h.last.mono (Nat.le_refl _) h2, h.lom, Nat.le_trans h.mhi h2⟩
theorem OwnL.ne {w : World} {lo hi g : Nat} {c : Nat} {xss : List (List Int)} {l : List Int} {A' : Option Addr} {c' m : Nat} {cs : List Value} (h : OwnL w lo hi (some ⟨g, 0, none⟩) c xss l A' c' m cs) (k : Nat) (cur : Array Value) (h4 : w.heap[k]? = some (.cells cur 2 (0, 0))) : k ≠ g := by
  intro e
  subst e
  rcases h.out.form with ⟨h5, _⟩ | ⟨q2, cur', h5, _, _, h6, _⟩
  · simp at h5
  · injection h5 with h5
    injection h5 with h5
    subst h5
    rw [h4] at h6
    injection h6 with h6
    injection h6 with _ h6
    simp at h6
theorem OwnL.alloc {w : World} {lo hi : Nat} {A : Option Addr} {c : Nat} {xss : List (List Int)} {l : List Int} {A' : Option Addr} {c' m : Nat} {cs : List Value} (h : OwnL w lo hi A c xss l A' c' m cs) (o : Obj) : OwnL (w.alloc o) lo hi A c xss l A' c' m cs := h.keep fun k _ _ h4 => Below.heap_alloc w o k h4


end Go.Proofs.YtnjgmhdmjaijgaaGreatDoor

/- slices.Repeat of [1]; how many columns a stitch takes and makes. -/
namespace Go.Proofs.YtnjgmhdmjaijgaaGreatDoor
open Go.RowKit

theorem addr_add (g i : Nat) : (⟨g, 0, none⟩ : Addr).add i = ⟨g, i, none⟩ := by
  unfold Addr.add
  split <;> simp_all
theorem src_of_heap {w : World} {g : Nat} {t : TypeId} {L cs : List Value} (h : w.heap[g]? = some (.cells L.toArray t (0, 0))) (hp : cs = L.take cs.length) : ∀ j v, cs[j]? = some v → w.cell? ((⟨g, 0, none⟩ : Addr).add j) = some v := by
  intro j v hv
  rw [addr_add, cell_of_row w g j L.toArray t (0, 0) h]
  have hj := (List.getElem?_eq_some_iff.1 hv).1
  rw [hp, List.getElem?_take, if_pos hj] at hv
  simpa using hv
def ones (m z : Nat) : List Value := (List.replicate m (1 : Int) ++ List.replicate z 0).map (Value.int .i64)

theorem bits_Mul1 (b : Int) (w : World) (hb : b = 1 ∨ b = 2 ∨ b = 4) : Calls Tryz.prog 88 #[.int .u64 1, .int .u64 b] w fun e w' => e = .returned (.tuple #[.int .u64 0, .int .u64 b]) ∧ w = w' := by
  rcases hb with rfl | rfl | rfl
  · go_enter Tryz.func88, Tryz.ntmps88
    go_wp2_with (go_in)
    go_ret2
    exact ⟨rfl, rfl⟩
  · go_enter Tryz.func88, Tryz.ntmps88
    go_wp2_with (go_in)
    go_ret2
    exact ⟨rfl, rfl⟩
  · go_enter Tryz.func88, Tryz.ntmps88
    go_wp2_with (go_in)
    go_ret2
    exact ⟨rfl, rfl⟩

theorem impl_ColumnsTaken (k : Int) (w : World) : Calls Tryz.prog 93 #[.int .i64 k] w fun e w' => e = .returned (.int .i64 (takenB k)) ∧ w = w' := by
  by_cases hk : isStitchB k = true
  · rcases stitch_cases hk with rfl | rfl | rfl | rfl | rfl | rfl | rfl | rfl | rfl | rfl | rfl
    all_goals
      go_enter Tryz.func93, Tryz.ntmps93
      go_wp2_with (fail)
      refine (impl_isStitch _ _).mono ?_; rintro e _ ⟨rfl, rfl⟩
      go_wp2_with (fail)
      go_ret
      exact ⟨rfl, rfl⟩
  · have hk' : isStitchB k = false := by simpa using hk
    have HF : Hid (takenB k = -1) := Lib.hid (by rw [takenB, if_neg hk])
    clear hk
    go_enter Tryz.func93, Tryz.ntmps93
    go_wp2_with (fail)
    refine (impl_isStitch _ _).mono ?_; rintro e _ ⟨rfl, rfl⟩
    go_wp2_with (fail)
    go_ret
    exact ⟨ret_int HF.out.symm, rfl⟩

theorem impl_ColumnsMade (k : Int) (w : World) : Calls Tryz.prog 38 #[.int .i64 k] w fun e w' => e = .returned (.int .i64 (madeB k)) ∧ w = w' := by
  by_cases hk : isStitchB k = true
  · rcases stitch_cases hk with rfl | rfl | rfl | rfl | rfl | rfl | rfl | rfl | rfl | rfl | rfl
    all_goals
      go_enter Tryz.func38, Tryz.ntmps38
      go_wp2_with (fail)
      refine (impl_isStitch _ _).mono ?_; rintro e _ ⟨rfl, rfl⟩
      go_wp2_with (fail)
      go_ret
      exact ⟨rfl, rfl⟩
  · have hk' : isStitchB k = false := by simpa using hk
    have HF : Hid (madeB k = -1) := Lib.hid (by rw [madeB, if_neg hk])
    clear hk
    go_enter Tryz.func38, Tryz.ntmps38
    go_wp2_with (fail)
    refine (impl_isStitch _ _).mono ?_; rintro e _ ⟨rfl, rfl⟩
    go_wp2_with (fail)
    go_ret
    exact ⟨ret_int HF.out.symm, rfl⟩

set_option maxHeartbeats 4000000 in
theorem spec_ColumnsTaken (k : Int) (w : World) : Calls Tryz.prog 113 #[.int .i64 k] w fun e w' => e = .returned (.int .i64 (takenB k)) ∧ Below w.heap.size w w' := by
  by_cases hk : isStitchB k = true
  · rcases stitch_cases hk with rfl | rfl | rfl | rfl | rfl | rfl | rfl | rfl | rfl | rfl | rfl
    all_goals
      go_enter Tryz.func113, Tryz.ntmps113
      go_wp2_with (fail)
      refine (spec_l14Kind _ _).mono ?_; rintro e _ ⟨rfl, rfl⟩
      go_wp2_with (fail)
      go_ret
      exact ⟨rfl, by (repeat (first | exact Below.refl _ _ | assumption | apply Below.drew | apply below_drewN | (refine Below.alloc ?_ (by first | omega | (simp; done) | (simp; omega)) _) | (refine Below.setCell ?_ (by first | omega | (simp; done) | (simp; omega)) _)))⟩
  · have hk' : isStitchB k = false := by simpa using hk
    have HF : Hid (takenB k = -1) := Lib.hid (by rw [takenB, if_neg hk])
    clear hk
    go_enter Tryz.func113, Tryz.ntmps113
    go_wp2_with (fail)
    refine (spec_l14Kind _ _).mono ?_; rintro e _ ⟨rfl, rfl⟩
    go_wp2_with (fail)
    go_ret
    exact ⟨ret_int HF.out.symm, Below.refl _ _⟩

set_option maxHeartbeats 4000000 in
theorem spec_ColumnsMade (k : Int) (w : World) : Calls Tryz.prog 114 #[.int .i64 k] w fun e w' => e = .returned (.int .i64 (madeB k)) ∧ Below w.heap.size w w' := by
  by_cases hk : isStitchB k = true
  · rcases stitch_cases hk with rfl | rfl | rfl | rfl | rfl | rfl | rfl | rfl | rfl | rfl | rfl
    all_goals
      go_enter Tryz.func114, Tryz.ntmps114
      go_wp2_with (fail)
      refine (spec_l14Kind _ _).mono ?_; rintro e _ ⟨rfl, rfl⟩
      go_wp2_with (fail)
      go_ret
      exact ⟨rfl, by (repeat (first | exact Below.refl _ _ | assumption | apply Below.drew | apply below_drewN | (refine Below.alloc ?_ (by first | omega | (simp; done) | (simp; omega)) _) | (refine Below.setCell ?_ (by first | omega | (simp; done) | (simp; omega)) _)))⟩
  · have hk' : isStitchB k = false := by simpa using hk
    have HF : Hid (madeB k = -1) := Lib.hid (by rw [madeB, if_neg hk])
    clear hk
    go_enter Tryz.func114, Tryz.ntmps114
    go_wp2_with (fail)
    refine (spec_l14Kind _ _).mono ?_; rintro e _ ⟨rfl, rfl⟩
    go_wp2_with (fail)
    go_ret
    exact ⟨ret_int HF.out.symm, Below.refl _ _⟩

theorem impl_takenBy (A : Option Addr) (c : Nat) (ks : List Int) (w : World) (h : Ints w A ks) (hs : stitchesB ks = true) :
    Calls Tryz.prog 92 #[.slice A ks.length c] w fun e w' => e = .returned (.int .i64 (takenS ks)) ∧ w = w' := by
  obtain ⟨hl, hst⟩ := stitchesB_of hs
  have hsum := (sums_le hst).1
  have HST := Lib.hid hst; clear hst
  go_enter Tryz.func92, Tryz.ntmps92
  go_wp2_with (fail)
  go_loop [3, 8] (fun s i => ∃ k : Nat, k ≤ ks.length ∧ i = .int .i64 k ∧ s = .int .i64 (takenS (ks.take k))) (fun _ i => ks.length - (intOf i).toNat)
  case atStart => exact ⟨0, Nat.zero_le _, rfl, rfl⟩
  case round =>
    obtain ⟨k, hk, rfl, rfl⟩ := hrel
    by_cases hlt : k < ks.length
    · obtain ⟨b, off, x, rfl, hc, hx⟩ := h k hlt
      have hq := HST.out x (List.mem_of_getElem? hx)
      have hle := takenS_at hx
      have HS : Hid (takenS (ks.take (k + 1)) = takenS (ks.take k) + takenN x) := Lib.hid (takenS_snoc hx)
      have HB : Hid (takenB x = takenN x) := Lib.hid (takenB_of hq)
      clear hx hq
      go_wp2_with (fail)
      refine (impl_ColumnsTaken _ _).mono ?_; rintro e _ ⟨rfl, rfl⟩
      rw [HB.out]
      go_wp2_with (fail)
      go_round
      case rel => exact ⟨k + 1, by omega, by go_num, by rw [HS.out]; push_cast; go_num⟩
      case measure => simp [intOf]; omega
    · go_wp2_with (fail)
      go_ret
      exact ⟨ret_int (by rw [take_all (by omega)]), rfl⟩

theorem impl_MadeBy (A : Option Addr) (c : Nat) (ks : List Int) (w : World) (h : Ints w A ks) (hl9 : ks.length ≤ 9223372036854775807) :
    Calls Tryz.prog 16 #[.slice A ks.length c] w fun e w' => e = .returned (.int .i64 (madeP ks)) ∧ w = w' := by
  by_cases hs : stitchesB ks = true
  · have HF : Hid (madeP ks = madeS ks) := Lib.hid (by rw [madeP, if_pos hs])
    obtain ⟨hl, hst⟩ := stitchesB_of hs
    have hsum := (sums_le hst).2
    have HST := Lib.hid hst; clear hst
    go_enter Tryz.func16, Tryz.ntmps16
    go_wp2_with (fail)
    refine (impl_areStitches _ _ _ _ h hl9).mono ?_; rintro e _ ⟨rfl, rfl⟩
    go_wp2_with (fail)
    go_loop [3, 11] (fun s i => ∃ k : Nat, k ≤ ks.length ∧ i = .int .i64 k ∧ s = .int .i64 (madeS (ks.take k))) (fun _ i => ks.length - (intOf i).toNat)
    case atStart => exact ⟨0, Nat.zero_le _, rfl, rfl⟩
    case round =>
      obtain ⟨k, hk, rfl, rfl⟩ := hrel
      by_cases hlt : k < ks.length
      · obtain ⟨b, off, x, rfl, hc, hx⟩ := h k hlt
        have hq := HST.out x (List.mem_of_getElem? hx)
        have HS : Hid (madeS (ks.take (k + 1)) = madeS (ks.take k) + madeN x) := Lib.hid (madeS_snoc hx)
        have hle : madeS (ks.take (k + 1)) ≤ 4 * (k + 1) := by
          have := (sums_le (ks := ks.take (k + 1)) fun y hy => HST.out y (List.mem_of_mem_take hy)).2
          have h2 := List.length_take_le (k + 1) ks
          omega
        rw [HS.out] at hle
        have HB : Hid (madeB x = madeN x) := Lib.hid (madeB_of hq)
        clear hx hq
        go_wp2_with (fail)
        refine (impl_ColumnsMade _ _).mono ?_; rintro e _ ⟨rfl, rfl⟩
        rw [HB.out]
        go_wp2_with (fail)
        go_round
        case rel => exact ⟨k + 1, by omega, by go_num, by rw [HS.out]; push_cast; go_num⟩
        case measure => simp [intOf]; omega
      · go_wp2_with (fail)
        go_ret
        exact ⟨ret_int (by rw [HF.out, take_all (by omega)]), rfl⟩
  · have hs' : stitchesB ks = false := by simpa using hs
    have HF : Hid (madeP ks = -1) := Lib.hid (by rw [madeP, if_neg hs])
    clear hs
    go_enter Tryz.func16, Tryz.ntmps16
    go_wp2_with (fail)
    refine (impl_areStitches _ _ _ _ h hl9).mono ?_; rintro e _ ⟨rfl, rfl⟩
    go_wp2_with (fail)
    go_ret
    exact ⟨ret_int HF.out.symm, rfl⟩

theorem spec_TakenBy (A : Option Addr) (c : Nat) (ks : List Int) (w : World) (h : Ints w A ks) (hl9 : ks.length ≤ 9223372036854775807) :
    Calls Tryz.prog 117 #[.slice A ks.length c] w fun e w' => e = .returned (.int .i64 (takenP ks)) ∧ Below w.heap.size w w' := by
  by_cases hs : stitchesB ks = true
  · have HF : Hid (takenP ks = takenS ks) := Lib.hid (by rw [takenP, if_pos hs])
    obtain ⟨hl, hst⟩ := stitchesB_of hs
    have HST := Lib.hid hst; clear hst
    go_enter Tryz.func117, Tryz.ntmps117
    go_wp2_with (fail)
    refine (spec_l14Ok _ _ _ _ h hl9).mono ?_; rintro e _ ⟨rfl, rfl⟩
    go_wp2_with (fail)
    go_loopw [3, 4] (fun s i wr => ∃ k : Nat, k ≤ ks.length ∧ i = .int .i64 k ∧ s = .int .i64 (takenS (ks.take k)) ∧ Below w.heap.size w wr) (fun _ i _ => ks.length - (intOf i).toNat)
    case atStart => exact ⟨0, Nat.zero_le _, rfl, rfl, Below.refl _ _⟩
    case round =>
      obtain ⟨k, hk, rfl, rfl, hb⟩ := hrel
      have hzs := hb.size
      by_cases hlt : k < ks.length
      · obtain ⟨b, off, x, rfl, hc, hx⟩ := h k hlt
        replace hc := cells_below hb _ _ hc
        have hq := HST.out x (List.mem_of_getElem? hx)
        have HS : Hid (takenS (ks.take (k + 1)) = takenS (ks.take k) + takenN x) := Lib.hid (takenS_snoc hx)
        have hle : takenS (ks.take (k + 1)) ≤ 4 * (k + 1) ∧ madeS (ks.take (k + 1)) ≤ 4 * (k + 1) := by
          have := (sums_le (ks := ks.take (k + 1)) fun y hy => HST.out y (List.mem_of_mem_take hy))
          have h2 := List.length_take_le (k + 1) ks
          omega
        have hle2 : takenS (ks.take (k + 1)) ≤ 4 * (k + 1) := by first | exact hle.1 | exact hle.2
        clear hle
        rw [HS.out] at hle2
        have HB : Hid (takenB x = takenN x) := Lib.hid (takenB_of hq)
        clear hx hq
        go_wp2_with (fail)
        refine (spec_ColumnsTaken _ _).mono ?_; rintro e w2 ⟨rfl, b2⟩
        have hb2 : Below w.heap.size w w2 := hb.trans (b2.mono hzs)
        rw [HB.out]
        go_wp2_with (fail)
        go_roundw
        case rel => exact ⟨k + 1, by omega, by go_num, by rw [HS.out]; push_cast; go_num, hb2⟩
        case measure => simp [intOf]; omega
      · go_wp2_with (fail)
        go_ret
        exact ⟨ret_int (by rw [HF.out, take_all (by omega)]), hb⟩
  · have hs' : stitchesB ks = false := by simpa using hs
    have HF : Hid (takenP ks = -1) := Lib.hid (by rw [takenP, if_neg hs])
    clear hs
    go_enter Tryz.func117, Tryz.ntmps117
    go_wp2_with (fail)
    refine (spec_l14Ok _ _ _ _ h hl9).mono ?_; rintro e _ ⟨rfl, rfl⟩
    go_wp2_with (fail)
    go_ret
    exact ⟨ret_int HF.out.symm, Below.refl _ _⟩

end Go.Proofs.YtnjgmhdmjaijgaaGreatDoor

/- slices.Repeat of [1]; madeStacks. -/
namespace Go.Proofs.YtnjgmhdmjaijgaaGreatDoor
open Go.RowKit

theorem Below.drew2 {B : Nat} {w w' : World} (h : Below B w w') : Below B w (World.drew w') := h.trans ⟨rfl, rfl, rfl, Nat.le_refl _, fun _ _ => rfl⟩
theorem src1 {w : World} {b off : Nat} (h : w.cell? ⟨b, off, none⟩ = some (.int .i64 1)) : ∀ j v, ([Value.int .i64 1] : List Value)[j]? = some v → w.cell? ((⟨b, off, none⟩ : Addr).add j) = some v := by
  intro j v hv
  cases j with
  | zero =>
    simp at hv
    subst hv
    simpa [Addr.add] using h
  | succ j => simp at hv
theorem ones_own {w : World} {g lo n : Nat} (h : w.heap[g]? = some (.cells (ones n 0).toArray 2 (0, 0))) (hlo : lo ≤ g) (hn : n ≤ 1000) : OwnI w lo w.heap.size (some ⟨g, 0, none⟩) n (List.replicate n 1) := by
  have e : ones n 0 = (List.replicate n (1 : Int)).map (Value.int .i64) := by simp [ones]
  refine OwnC.of_own ⟨by simp, .inr ⟨g, n, (ones n 0).toArray, by simp, hlo, h, by simp, by unfold maxLen; omega, by simp [ones], by simp [ones]⟩⟩ (Nat.le_refl _)

set_option maxHeartbeats 2000000 in
set_option maxRecDepth 20000 in
theorem slices_Repeat_1 (A : Option Addr) (c : Nat) (w : World) (h : Ints w A [1]) :
    Calls Tryz.prog 60 #[.slice A 1 c, .int .i64 1] w fun e w' => ∃ A' c', e = .returned (.slice A' (List.replicate 1 (1 : Int)).length c') ∧ OwnI w' w.heap.size w'.heap.size A' c' (List.replicate 1 1) ∧ Below w.heap.size w w' := by
  obtain ⟨i0, hi0, hz0, hz1, hz2⟩ := info_parts info_int64
  have hsz : (Tryz.prog.info? 2).map (·.size) = some 1 := by rw [hi0]; simp [hz1]
  obtain ⟨b, off, x, rfl, hc, hx⟩ := h 0 (by simp)
  obtain rfl : x = 1 := by simpa using hx.symm
  clear hx
  rw [Nat.add_zero] at hc
  go_enter Tryz.func60, Tryz.ntmps60
  go_wp2_with (fail)
  refine (bits_Mul1 _ _ (by omega)).mono ?_; rintro e _ ⟨rfl, rfl⟩
  go_wp2_with (refine wpList_make_full _ rfl _ _ _ rfl w.heap.size 2 i0 _ 1 Tryz.underlying34 hi0 hz0 hz1 .i64 .i64 _ _ 1 rfl rfl rfl rfl (by rw [hz2]; omega) (by unfold maxLen; omega) (Nat.le_refl _) ?_; intro w3 hown hg)
  have hb3 : Below w.heap.size w w3 := (Below.refl _ _).grown hg (Nat.le_refl _) (by simp)
  have o3 : OwnC w3 w.heap.size w3.heap.size 2 1 (some ⟨w.heap.size, 0, none⟩) 1 1 (ones 0 1) := by
    have := OwnC.of_own hown (Nat.le_refl _)
    simpa [madeCells, Value.cells, ones, List.range_succ] using this
  have h3 : w3.heap[w.heap.size]? = some (.cells (ones 0 1).toArray 2 (0, 0)) := by
    rcases o3.form with ⟨hA, _⟩ | ⟨g, cur, hA, _, _, hh, _, _, hs, ht⟩
    · cases hA
    · injection hA with hA
      injection hA with hA
      subst hA
      rw [hh, ← ht]
      congr 2
      apply Array.ext'
      rw [List.take_of_length_le (by simpa using Nat.le_of_eq hs)]
  have H3 := Lib.hid h3; clear h3 o3 hown hg
  replace hc := cells_below hb3 _ _ hc
  obtain ⟨w4, hcp, h4, hb4⟩ : ∃ w4, (Builtin.copy_ #[34, 34] 3 #[.slice (some ⟨w.heap.size, 0, none⟩) 1 1, .slice (some ⟨b, off, none⟩) 1 c]).run Tryz.prog w3 = .ok (.int .i64 1) w4 ∧ w4.heap[w.heap.size]? = some (.cells (ones 1 (1 - 1)).toArray 2 (0, 0)) ∧ Below w.heap.size w w4 := by
    have hrun := run_copy_row (P := Tryz.prog) w3 34 34 3 2 w.heap.size 0 1 1 ⟨b, off, none⟩ 1 c (ones 0 1).toArray 2 [.int .i64 1] Tryz.underlying34 hsz H3.out (by decide) (src1 hc) (by decide) (by decide)
    refine ⟨_, hrun, ?_, below_setRow hb3 (Nat.le_refl _) _⟩
    exact setRow_heap w3 w.heap.size _ _ 2 _ H3.out
  go_wp2_with (fail)
  rw [hcp]
  go_wp2_with (fail)
  have H4 : Hid (w4.heap[w.heap.size]? = some (.cells (ones 1 (1 - 1)).toArray 2 (0, 0))) := Lib.hid h4
  clear h4 hb3 hc H3
  go_loopw [8] (fun mv wr => ∃ m z : Nat, m + z = 1 ∧ (m = 1 ∨ m = 2 ∨ m = 4) ∧ mv = .int .i64 m ∧ Hid (wr.heap[w.heap.size]? = some (.cells (ones m z).toArray 2 (0, 0))) ∧ Below w.heap.size w wr) (fun mv _ => 1 - (intOf mv).toNat)
  case atStart => exact ⟨1, 1 - 1, rfl, .inl rfl, rfl, H4, hb4⟩
  case round =>
    clear H4 hb4
    obtain ⟨m, z, hmz, hm, rfl, H5, hb5⟩ := hrel
    have hgl : w.heap.size < wr.heap.size := (Array.getElem?_eq_some_iff.1 H5.out).1

    rcases hm with rfl | rfl | rfl
    · obtain rfl : z = 0 := by omega
      go_wp2_with (fail)
      go_ret
      exact ⟨some ⟨w.heap.size, 0, none⟩, 1, by simp, by have := ones_own (n := 1) (lo := w.heap.size) H5.out (Nat.le_refl _) (by decide); simpa using this, hb5⟩
    · omega
    · omega

set_option maxHeartbeats 2000000 in
set_option maxRecDepth 20000 in
theorem slices_Repeat_2 (A : Option Addr) (c : Nat) (w : World) (h : Ints w A [1]) :
    Calls Tryz.prog 60 #[.slice A 1 c, .int .i64 2] w fun e w' => ∃ A' c', e = .returned (.slice A' (List.replicate 2 (1 : Int)).length c') ∧ OwnI w' w.heap.size w'.heap.size A' c' (List.replicate 2 1) ∧ Below w.heap.size w w' := by
  obtain ⟨i0, hi0, hz0, hz1, hz2⟩ := info_parts info_int64
  have hsz : (Tryz.prog.info? 2).map (·.size) = some 1 := by rw [hi0]; simp [hz1]
  obtain ⟨b, off, x, rfl, hc, hx⟩ := h 0 (by simp)
  obtain rfl : x = 1 := by simpa using hx.symm
  clear hx
  rw [Nat.add_zero] at hc
  go_enter Tryz.func60, Tryz.ntmps60
  go_wp2_with (fail)
  refine (bits_Mul1 _ _ (by omega)).mono ?_; rintro e _ ⟨rfl, rfl⟩
  go_wp2_with (refine wpList_make_full _ rfl _ _ _ rfl w.heap.size 2 i0 _ 1 Tryz.underlying34 hi0 hz0 hz1 .i64 .i64 _ _ 2 rfl rfl rfl rfl (by rw [hz2]; omega) (by unfold maxLen; omega) (Nat.le_refl _) ?_; intro w3 hown hg)
  have hb3 : Below w.heap.size w w3 := (Below.refl _ _).grown hg (Nat.le_refl _) (by simp)
  have o3 : OwnC w3 w.heap.size w3.heap.size 2 1 (some ⟨w.heap.size, 0, none⟩) 2 2 (ones 0 2) := by
    have := OwnC.of_own hown (Nat.le_refl _)
    simpa [madeCells, Value.cells, ones, List.range_succ] using this
  have h3 : w3.heap[w.heap.size]? = some (.cells (ones 0 2).toArray 2 (0, 0)) := by
    rcases o3.form with ⟨hA, _⟩ | ⟨g, cur, hA, _, _, hh, _, _, hs, ht⟩
    · cases hA
    · injection hA with hA
      injection hA with hA
      subst hA
      rw [hh, ← ht]
      congr 2
      apply Array.ext'
      rw [List.take_of_length_le (by simpa using Nat.le_of_eq hs)]
  have H3 := Lib.hid h3; clear h3 o3 hown hg
  replace hc := cells_below hb3 _ _ hc
  obtain ⟨w4, hcp, h4, hb4⟩ : ∃ w4, (Builtin.copy_ #[34, 34] 3 #[.slice (some ⟨w.heap.size, 0, none⟩) 2 2, .slice (some ⟨b, off, none⟩) 1 c]).run Tryz.prog w3 = .ok (.int .i64 1) w4 ∧ w4.heap[w.heap.size]? = some (.cells (ones 1 (2 - 1)).toArray 2 (0, 0)) ∧ Below w.heap.size w w4 := by
    have hrun := run_copy_row (P := Tryz.prog) w3 34 34 3 2 w.heap.size 0 2 2 ⟨b, off, none⟩ 1 c (ones 0 2).toArray 2 [.int .i64 1] Tryz.underlying34 hsz H3.out (by decide) (src1 hc) (by decide) (by decide)
    refine ⟨_, hrun, ?_, below_setRow hb3 (Nat.le_refl _) _⟩
    exact setRow_heap w3 w.heap.size _ _ 2 _ H3.out
  go_wp2_with (fail)
  rw [hcp]
  go_wp2_with (fail)
  have H4 : Hid (w4.heap[w.heap.size]? = some (.cells (ones 1 (2 - 1)).toArray 2 (0, 0))) := Lib.hid h4
  clear h4 hb3 hc H3
  go_loopw [8] (fun mv wr => ∃ m z : Nat, m + z = 2 ∧ (m = 1 ∨ m = 2 ∨ m = 4) ∧ mv = .int .i64 m ∧ Hid (wr.heap[w.heap.size]? = some (.cells (ones m z).toArray 2 (0, 0))) ∧ Below w.heap.size w wr) (fun mv _ => 2 - (intOf mv).toNat)
  case atStart => exact ⟨1, 2 - 1, rfl, .inl rfl, rfl, H4, hb4⟩
  case round =>
    clear H4 hb4
    obtain ⟨m, z, hmz, hm, rfl, H5, hb5⟩ := hrel
    have hgl : w.heap.size < wr.heap.size := (Array.getElem?_eq_some_iff.1 H5.out).1

    rcases hm with rfl | rfl | rfl
    · obtain rfl : z = 1 := by omega
      go_wp2_with (fail)
      go_region_law (refine step_copy_splice rfl (.tmp 41) (.tmp 44) 34 34 rfl 2 Tryz.underlying34 hsz (some ⟨w.heap.size, 1, none⟩) (some ⟨w.heap.size, 0, none⟩) 1 1 1 2 (by simp [Act.eval, Act.put]) (by simp [Act.eval, Act.put]) w.heap.size 1 (ones 1 1) 2 (show _ = _ from H5.out) (ones 1 0) (by decide) (fun _ => ⟨rfl, _, rfl, src_of_heap (show wr.heap[w.heap.size]? = _ from H5.out) rfl⟩) (by decide) (by decide) w.heap.size w (Below.drew2 hb5) (Nat.le_refl _) ?_; intro w6 h6 hb6)
      all_goals go_simp
      all_goals (try go_wp2_with (fail))
      all_goals
        refine ⟨⟨2, 0, rfl, by omega, rfl, Lib.hid h6.out, hb6⟩, by first | (simp [intOf, ones]; done) | (simp [intOf, ones]; decide)⟩
    · obtain rfl : z = 0 := by omega
      go_wp2_with (fail)
      go_ret
      exact ⟨some ⟨w.heap.size, 0, none⟩, 2, by simp, by have := ones_own (n := 2) (lo := w.heap.size) H5.out (Nat.le_refl _) (by decide); simpa using this, hb5⟩
    · omega

set_option maxHeartbeats 2000000 in
set_option maxRecDepth 20000 in
theorem slices_Repeat_4 (A : Option Addr) (c : Nat) (w : World) (h : Ints w A [1]) :
    Calls Tryz.prog 60 #[.slice A 1 c, .int .i64 4] w fun e w' => ∃ A' c', e = .returned (.slice A' (List.replicate 4 (1 : Int)).length c') ∧ OwnI w' w.heap.size w'.heap.size A' c' (List.replicate 4 1) ∧ Below w.heap.size w w' := by
  obtain ⟨i0, hi0, hz0, hz1, hz2⟩ := info_parts info_int64
  have hsz : (Tryz.prog.info? 2).map (·.size) = some 1 := by rw [hi0]; simp [hz1]
  obtain ⟨b, off, x, rfl, hc, hx⟩ := h 0 (by simp)
  obtain rfl : x = 1 := by simpa using hx.symm
  clear hx
  rw [Nat.add_zero] at hc
  go_enter Tryz.func60, Tryz.ntmps60
  go_wp2_with (fail)
  refine (bits_Mul1 _ _ (by omega)).mono ?_; rintro e _ ⟨rfl, rfl⟩
  go_wp2_with (refine wpList_make_full _ rfl _ _ _ rfl w.heap.size 2 i0 _ 1 Tryz.underlying34 hi0 hz0 hz1 .i64 .i64 _ _ 4 rfl rfl rfl rfl (by rw [hz2]; omega) (by unfold maxLen; omega) (Nat.le_refl _) ?_; intro w3 hown hg)
  have hb3 : Below w.heap.size w w3 := (Below.refl _ _).grown hg (Nat.le_refl _) (by simp)
  have o3 : OwnC w3 w.heap.size w3.heap.size 2 1 (some ⟨w.heap.size, 0, none⟩) 4 4 (ones 0 4) := by
    have := OwnC.of_own hown (Nat.le_refl _)
    simpa [madeCells, Value.cells, ones, List.range_succ] using this
  have h3 : w3.heap[w.heap.size]? = some (.cells (ones 0 4).toArray 2 (0, 0)) := by
    rcases o3.form with ⟨hA, _⟩ | ⟨g, cur, hA, _, _, hh, _, _, hs, ht⟩
    · cases hA
    · injection hA with hA
      injection hA with hA
      subst hA
      rw [hh, ← ht]
      congr 2
      apply Array.ext'
      rw [List.take_of_length_le (by simpa using Nat.le_of_eq hs)]
  have H3 := Lib.hid h3; clear h3 o3 hown hg
  replace hc := cells_below hb3 _ _ hc
  obtain ⟨w4, hcp, h4, hb4⟩ : ∃ w4, (Builtin.copy_ #[34, 34] 3 #[.slice (some ⟨w.heap.size, 0, none⟩) 4 4, .slice (some ⟨b, off, none⟩) 1 c]).run Tryz.prog w3 = .ok (.int .i64 1) w4 ∧ w4.heap[w.heap.size]? = some (.cells (ones 1 (4 - 1)).toArray 2 (0, 0)) ∧ Below w.heap.size w w4 := by
    have hrun := run_copy_row (P := Tryz.prog) w3 34 34 3 2 w.heap.size 0 4 4 ⟨b, off, none⟩ 1 c (ones 0 4).toArray 2 [.int .i64 1] Tryz.underlying34 hsz H3.out (by decide) (src1 hc) (by decide) (by decide)
    refine ⟨_, hrun, ?_, below_setRow hb3 (Nat.le_refl _) _⟩
    exact setRow_heap w3 w.heap.size _ _ 2 _ H3.out
  go_wp2_with (fail)
  rw [hcp]
  go_wp2_with (fail)
  have H4 : Hid (w4.heap[w.heap.size]? = some (.cells (ones 1 (4 - 1)).toArray 2 (0, 0))) := Lib.hid h4
  clear h4 hb3 hc H3
  go_loopw [8] (fun mv wr => ∃ m z : Nat, m + z = 4 ∧ (m = 1 ∨ m = 2 ∨ m = 4) ∧ mv = .int .i64 m ∧ Hid (wr.heap[w.heap.size]? = some (.cells (ones m z).toArray 2 (0, 0))) ∧ Below w.heap.size w wr) (fun mv _ => 4 - (intOf mv).toNat)
  case atStart => exact ⟨1, 4 - 1, rfl, .inl rfl, rfl, H4, hb4⟩
  case round =>
    clear H4 hb4
    obtain ⟨m, z, hmz, hm, rfl, H5, hb5⟩ := hrel
    have hgl : w.heap.size < wr.heap.size := (Array.getElem?_eq_some_iff.1 H5.out).1

    rcases hm with rfl | rfl | rfl
    · obtain rfl : z = 3 := by omega
      go_wp2_with (fail)
      go_region_law (refine step_copy_splice rfl (.tmp 41) (.tmp 44) 34 34 rfl 2 Tryz.underlying34 hsz (some ⟨w.heap.size, 1, none⟩) (some ⟨w.heap.size, 0, none⟩) 3 3 1 4 (by simp [Act.eval, Act.put]) (by simp [Act.eval, Act.put]) w.heap.size 1 (ones 1 3) 2 (show _ = _ from H5.out) (ones 1 0) (by decide) (fun _ => ⟨rfl, _, rfl, src_of_heap (show wr.heap[w.heap.size]? = _ from H5.out) rfl⟩) (by decide) (by decide) w.heap.size w (Below.drew2 hb5) (Nat.le_refl _) ?_; intro w6 h6 hb6)
      all_goals go_simp
      all_goals (try go_wp2_with (fail))
      all_goals
        refine ⟨⟨2, 2, rfl, by omega, rfl, Lib.hid h6.out, hb6⟩, by first | (simp [intOf, ones]; done) | (simp [intOf, ones]; decide)⟩
    · obtain rfl : z = 2 := by omega
      go_wp2_with (fail)
      go_region_law (refine step_copy_splice rfl (.tmp 41) (.tmp 44) 34 34 rfl 2 Tryz.underlying34 hsz (some ⟨w.heap.size, 2, none⟩) (some ⟨w.heap.size, 0, none⟩) 2 2 2 4 (by simp [Act.eval, Act.put]) (by simp [Act.eval, Act.put]) w.heap.size 2 (ones 2 2) 2 (show _ = _ from H5.out) (ones 2 0) (by decide) (fun _ => ⟨rfl, _, rfl, src_of_heap (show wr.heap[w.heap.size]? = _ from H5.out) rfl⟩) (by decide) (by decide) w.heap.size w (Below.drew2 hb5) (Nat.le_refl _) ?_; intro w6 h6 hb6)
      all_goals go_simp
      all_goals (try go_wp2_with (fail))
      all_goals
        refine ⟨⟨4, 0, rfl, by omega, rfl, Lib.hid h6.out, hb6⟩, by first | (simp [intOf, ones]; done) | (simp [intOf, ones]; decide)⟩
    · obtain rfl : z = 0 := by omega
      go_wp2_with (fail)
      go_ret
      exact ⟨some ⟨w.heap.size, 0, none⟩, 4, by simp, by have := ones_own (n := 4) (lo := w.heap.size) H5.out (Nat.le_refl _) (by decide); simpa using this, hb5⟩

theorem madeStacks_1 (A : Option Addr) (n c : Nat) (w : World) :
    Calls Tryz.prog 94 #[.int .i64 1, .slice A n c] w fun e w' => ∃ A' c', e = .returned (.tuple #[.slice A' (List.replicate 1 (1 : Int)).length c', .bool true]) ∧ OwnI w' w.heap.size w'.heap.size A' c' (List.replicate 1 1) ∧ Below w.heap.size w w' := by
  have HB : Hid (madeB 1 = 1) := Lib.hid (by decide)
  have hb1 : Below w.heap.size w (w.alloc (.cells #[.int .i64 1] 2)) := by (repeat (first | exact Below.refl _ _ | assumption | apply Below.drew | apply below_drewN | (refine Below.alloc ?_ (by first | omega | (simp; done) | (simp; omega)) _) | (refine Below.setCell ?_ (by first | omega | (simp; done) | (simp; omega)) _)))
  have hi : Ints (w.alloc (.cells #[.int .i64 1] 2)) (some ⟨w.heap.size, 0, none⟩) [1] := by
    intro k hk
    obtain rfl : k = 0 := by simp at hk; omega
    exact ⟨w.heap.size, 0, 1, rfl, (Blk.new w 2 #[.int .i64 1]).c1, rfl⟩
  have HI := Lib.hid hi; clear hi
  go_enter Tryz.func94, Tryz.ntmps94
  go_wp2_with (fail)
  refine (impl_ColumnsMade _ _).mono ?_; rintro e _ ⟨rfl, rfl⟩
  rw [HB.out]
  go_wp2_with (fail)
  refine (slices_Repeat_1 _ _ _ HI.out).mono ?_; rintro e w2 ⟨A2, c2, rfl, o2, b2⟩
  have z2 := b2.size
  simp only [World.size_alloc] at z2
  have b3 : Below w.heap.size w w2 := hb1.trans (b2.mono (by simp))
  go_wp2_with (fail)
  go_ret2
  exact ⟨A2, c2, rfl, o2.mono (by simp) (Nat.le_refl _), b3⟩

theorem madeStacks_2 (A : Option Addr) (n c : Nat) (w : World) :
    Calls Tryz.prog 94 #[.int .i64 2, .slice A n c] w fun e w' => ∃ A' c', e = .returned (.tuple #[.slice A' (List.replicate 1 (1 : Int)).length c', .bool true]) ∧ OwnI w' w.heap.size w'.heap.size A' c' (List.replicate 1 1) ∧ Below w.heap.size w w' := by
  have HB : Hid (madeB 2 = 1) := Lib.hid (by decide)
  have hb1 : Below w.heap.size w (w.alloc (.cells #[.int .i64 1] 2)) := by (repeat (first | exact Below.refl _ _ | assumption | apply Below.drew | apply below_drewN | (refine Below.alloc ?_ (by first | omega | (simp; done) | (simp; omega)) _) | (refine Below.setCell ?_ (by first | omega | (simp; done) | (simp; omega)) _)))
  have hi : Ints (w.alloc (.cells #[.int .i64 1] 2)) (some ⟨w.heap.size, 0, none⟩) [1] := by
    intro k hk
    obtain rfl : k = 0 := by simp at hk; omega
    exact ⟨w.heap.size, 0, 1, rfl, (Blk.new w 2 #[.int .i64 1]).c1, rfl⟩
  have HI := Lib.hid hi; clear hi
  go_enter Tryz.func94, Tryz.ntmps94
  go_wp2_with (fail)
  refine (impl_ColumnsMade _ _).mono ?_; rintro e _ ⟨rfl, rfl⟩
  rw [HB.out]
  go_wp2_with (fail)
  refine (slices_Repeat_1 _ _ _ HI.out).mono ?_; rintro e w2 ⟨A2, c2, rfl, o2, b2⟩
  have z2 := b2.size
  simp only [World.size_alloc] at z2
  have b3 : Below w.heap.size w w2 := hb1.trans (b2.mono (by simp))
  go_wp2_with (fail)
  go_ret2
  exact ⟨A2, c2, rfl, o2.mono (by simp) (Nat.le_refl _), b3⟩

theorem madeStacks_3 (A : Option Addr) (n c : Nat) (w : World) :
    Calls Tryz.prog 94 #[.int .i64 3, .slice A n c] w fun e w' => ∃ A' c', e = .returned (.tuple #[.slice A' (List.replicate 1 (1 : Int)).length c', .bool true]) ∧ OwnI w' w.heap.size w'.heap.size A' c' (List.replicate 1 1) ∧ Below w.heap.size w w' := by
  have HB : Hid (madeB 3 = 1) := Lib.hid (by decide)
  have hb1 : Below w.heap.size w (w.alloc (.cells #[.int .i64 1] 2)) := by (repeat (first | exact Below.refl _ _ | assumption | apply Below.drew | apply below_drewN | (refine Below.alloc ?_ (by first | omega | (simp; done) | (simp; omega)) _) | (refine Below.setCell ?_ (by first | omega | (simp; done) | (simp; omega)) _)))
  have hi : Ints (w.alloc (.cells #[.int .i64 1] 2)) (some ⟨w.heap.size, 0, none⟩) [1] := by
    intro k hk
    obtain rfl : k = 0 := by simp at hk; omega
    exact ⟨w.heap.size, 0, 1, rfl, (Blk.new w 2 #[.int .i64 1]).c1, rfl⟩
  have HI := Lib.hid hi; clear hi
  go_enter Tryz.func94, Tryz.ntmps94
  go_wp2_with (fail)
  refine (impl_ColumnsMade _ _).mono ?_; rintro e _ ⟨rfl, rfl⟩
  rw [HB.out]
  go_wp2_with (fail)
  refine (slices_Repeat_1 _ _ _ HI.out).mono ?_; rintro e w2 ⟨A2, c2, rfl, o2, b2⟩
  have z2 := b2.size
  simp only [World.size_alloc] at z2
  have b3 : Below w.heap.size w w2 := hb1.trans (b2.mono (by simp))
  go_wp2_with (fail)
  go_ret2
  exact ⟨A2, c2, rfl, o2.mono (by simp) (Nat.le_refl _), b3⟩

theorem madeStacks_8 (A : Option Addr) (n c : Nat) (w : World) :
    Calls Tryz.prog 94 #[.int .i64 8, .slice A n c] w fun e w' => ∃ A' c', e = .returned (.tuple #[.slice A' (List.replicate 2 (1 : Int)).length c', .bool true]) ∧ OwnI w' w.heap.size w'.heap.size A' c' (List.replicate 2 1) ∧ Below w.heap.size w w' := by
  have HB : Hid (madeB 8 = 2) := Lib.hid (by decide)
  have hb1 : Below w.heap.size w (w.alloc (.cells #[.int .i64 1] 2)) := by (repeat (first | exact Below.refl _ _ | assumption | apply Below.drew | apply below_drewN | (refine Below.alloc ?_ (by first | omega | (simp; done) | (simp; omega)) _) | (refine Below.setCell ?_ (by first | omega | (simp; done) | (simp; omega)) _)))
  have hi : Ints (w.alloc (.cells #[.int .i64 1] 2)) (some ⟨w.heap.size, 0, none⟩) [1] := by
    intro k hk
    obtain rfl : k = 0 := by simp at hk; omega
    exact ⟨w.heap.size, 0, 1, rfl, (Blk.new w 2 #[.int .i64 1]).c1, rfl⟩
  have HI := Lib.hid hi; clear hi
  go_enter Tryz.func94, Tryz.ntmps94
  go_wp2_with (fail)
  refine (impl_ColumnsMade _ _).mono ?_; rintro e _ ⟨rfl, rfl⟩
  rw [HB.out]
  go_wp2_with (fail)
  refine (slices_Repeat_2 _ _ _ HI.out).mono ?_; rintro e w2 ⟨A2, c2, rfl, o2, b2⟩
  have z2 := b2.size
  simp only [World.size_alloc] at z2
  have b3 : Below w.heap.size w w2 := hb1.trans (b2.mono (by simp))
  go_wp2_with (fail)
  go_ret2
  exact ⟨A2, c2, rfl, o2.mono (by simp) (Nat.le_refl _), b3⟩

theorem madeStacks_9 (A : Option Addr) (n c : Nat) (w : World) :
    Calls Tryz.prog 94 #[.int .i64 9, .slice A n c] w fun e w' => ∃ A' c', e = .returned (.tuple #[.slice A' (List.replicate 2 (1 : Int)).length c', .bool true]) ∧ OwnI w' w.heap.size w'.heap.size A' c' (List.replicate 2 1) ∧ Below w.heap.size w w' := by
  have HB : Hid (madeB 9 = 2) := Lib.hid (by decide)
  have hb1 : Below w.heap.size w (w.alloc (.cells #[.int .i64 1] 2)) := by (repeat (first | exact Below.refl _ _ | assumption | apply Below.drew | apply below_drewN | (refine Below.alloc ?_ (by first | omega | (simp; done) | (simp; omega)) _) | (refine Below.setCell ?_ (by first | omega | (simp; done) | (simp; omega)) _)))
  have hi : Ints (w.alloc (.cells #[.int .i64 1] 2)) (some ⟨w.heap.size, 0, none⟩) [1] := by
    intro k hk
    obtain rfl : k = 0 := by simp at hk; omega
    exact ⟨w.heap.size, 0, 1, rfl, (Blk.new w 2 #[.int .i64 1]).c1, rfl⟩
  have HI := Lib.hid hi; clear hi
  go_enter Tryz.func94, Tryz.ntmps94
  go_wp2_with (fail)
  refine (impl_ColumnsMade _ _).mono ?_; rintro e _ ⟨rfl, rfl⟩
  rw [HB.out]
  go_wp2_with (fail)
  refine (slices_Repeat_2 _ _ _ HI.out).mono ?_; rintro e w2 ⟨A2, c2, rfl, o2, b2⟩
  have z2 := b2.size
  simp only [World.size_alloc] at z2
  have b3 : Below w.heap.size w w2 := hb1.trans (b2.mono (by simp))
  go_wp2_with (fail)
  go_ret2
  exact ⟨A2, c2, rfl, o2.mono (by simp) (Nat.le_refl _), b3⟩

theorem madeStacks_10 (A : Option Addr) (n c : Nat) (w : World) :
    Calls Tryz.prog 94 #[.int .i64 10, .slice A n c] w fun e w' => ∃ A' c', e = .returned (.tuple #[.slice A' (List.replicate 4 (1 : Int)).length c', .bool true]) ∧ OwnI w' w.heap.size w'.heap.size A' c' (List.replicate 4 1) ∧ Below w.heap.size w w' := by
  have HB : Hid (madeB 10 = 4) := Lib.hid (by decide)
  have hb1 : Below w.heap.size w (w.alloc (.cells #[.int .i64 1] 2)) := by (repeat (first | exact Below.refl _ _ | assumption | apply Below.drew | apply below_drewN | (refine Below.alloc ?_ (by first | omega | (simp; done) | (simp; omega)) _) | (refine Below.setCell ?_ (by first | omega | (simp; done) | (simp; omega)) _)))
  have hi : Ints (w.alloc (.cells #[.int .i64 1] 2)) (some ⟨w.heap.size, 0, none⟩) [1] := by
    intro k hk
    obtain rfl : k = 0 := by simp at hk; omega
    exact ⟨w.heap.size, 0, 1, rfl, (Blk.new w 2 #[.int .i64 1]).c1, rfl⟩
  have HI := Lib.hid hi; clear hi
  go_enter Tryz.func94, Tryz.ntmps94
  go_wp2_with (fail)
  refine (impl_ColumnsMade _ _).mono ?_; rintro e _ ⟨rfl, rfl⟩
  rw [HB.out]
  go_wp2_with (fail)
  refine (slices_Repeat_4 _ _ _ HI.out).mono ?_; rintro e w2 ⟨A2, c2, rfl, o2, b2⟩
  have z2 := b2.size
  simp only [World.size_alloc] at z2
  have b3 : Below w.heap.size w w2 := hb1.trans (b2.mono (by simp))
  go_wp2_with (fail)
  go_ret2
  exact ⟨A2, c2, rfl, o2.mono (by simp) (Nat.le_refl _), b3⟩

theorem madeStacks_11 (A : Option Addr) (n c : Nat) (w : World) :
    Calls Tryz.prog 94 #[.int .i64 11, .slice A n c] w fun e w' => ∃ A' c', e = .returned (.tuple #[.slice A' (List.replicate 4 (1 : Int)).length c', .bool true]) ∧ OwnI w' w.heap.size w'.heap.size A' c' (List.replicate 4 1) ∧ Below w.heap.size w w' := by
  have HB : Hid (madeB 11 = 4) := Lib.hid (by decide)
  have hb1 : Below w.heap.size w (w.alloc (.cells #[.int .i64 1] 2)) := by (repeat (first | exact Below.refl _ _ | assumption | apply Below.drew | apply below_drewN | (refine Below.alloc ?_ (by first | omega | (simp; done) | (simp; omega)) _) | (refine Below.setCell ?_ (by first | omega | (simp; done) | (simp; omega)) _)))
  have hi : Ints (w.alloc (.cells #[.int .i64 1] 2)) (some ⟨w.heap.size, 0, none⟩) [1] := by
    intro k hk
    obtain rfl : k = 0 := by simp at hk; omega
    exact ⟨w.heap.size, 0, 1, rfl, (Blk.new w 2 #[.int .i64 1]).c1, rfl⟩
  have HI := Lib.hid hi; clear hi
  go_enter Tryz.func94, Tryz.ntmps94
  go_wp2_with (fail)
  refine (impl_ColumnsMade _ _).mono ?_; rintro e _ ⟨rfl, rfl⟩
  rw [HB.out]
  go_wp2_with (fail)
  refine (slices_Repeat_4 _ _ _ HI.out).mono ?_; rintro e w2 ⟨A2, c2, rfl, o2, b2⟩
  have z2 := b2.size
  simp only [World.size_alloc] at z2
  have b3 : Below w.heap.size w w2 := hb1.trans (b2.mono (by simp))
  go_wp2_with (fail)
  go_ret2
  exact ⟨A2, c2, rfl, o2.mono (by simp) (Nat.le_refl _), b3⟩

theorem madeStacks_4 (A : Option Addr) (x y : Int) (c : Nat) (w : World) (h : Ints w A [x, y]) (hx : 1 ≤ x ∧ x ≤ 4) (hy : 1 ≤ y ∧ y ≤ 4) :
    Calls Tryz.prog 94 #[.int .i64 4, .slice A 2 c] w fun e w' => ∃ A' c', e = .returned (.tuple #[.slice A' 1 c', .bool (decide (x + y ≤ 4))]) ∧ OwnI w' w.heap.size w'.heap.size A' c' [1] ∧ Below w.heap.size w w' := by
  obtain ⟨b, off, x', rfl, hc0, hx0⟩ := h 0 (by simp)
  obtain rfl : x' = x := by simpa using hx0.symm
  obtain ⟨b', off', y', hA, hc1, hx1⟩ := h 1 (by simp)
  injection hA with hA
  injection hA with hA1 hA2
  subst hA1 hA2
  obtain rfl : y' = y := by simpa using hx1.symm
  clear h hx0 hx1
  rw [Nat.add_zero] at hc0
  have q0 := cell_alloc hc0 (.cells #[.int .i64 1] 2)
  have q1 := cell_alloc hc1 (.cells #[.int .i64 1] 2)
  have o1 := (OwnC.lit (w := w) (lo := w.heap.size) (n := 1) 2 1 #[.int .i64 1] (Nat.le_refl _) (by unfold maxLen; omega) rfl).keep (w' := World.drew (w.alloc (.cells #[.int .i64 1] 2))) fun _ _ _ _ => rfl
  have b1 : Below w.heap.size w (World.drew (w.alloc (.cells #[.int .i64 1] 2))) := Below.drew2 (by (repeat (first | exact Below.refl _ _ | assumption | apply Below.drew | apply below_drewN | (refine Below.alloc ?_ (by first | omega | (simp; done) | (simp; omega)) _) | (refine Below.setCell ?_ (by first | omega | (simp; done) | (simp; omega)) _))))
  have O1 := Lib.hid o1; clear o1
  go_enter Tryz.func94, Tryz.ntmps94
  go_wp2_with (fail)
  go_region
  all_goals (try go_wp2_with (fail))
  all_goals
    go_ret2
    exact ⟨_, _, rfl, O1.out.mono (Nat.le_refl _) (show _ ≤ (w.alloc _).heap.size by simp), b1⟩

theorem madeStacks_5 (A : Option Addr) (x y : Int) (c : Nat) (w : World) (h : Ints w A [x, y]) (hx : 1 ≤ x ∧ x ≤ 4) (hy : 1 ≤ y ∧ y ≤ 4) :
    Calls Tryz.prog 94 #[.int .i64 5, .slice A 2 c] w fun e w' => ∃ A' c', e = .returned (.tuple #[.slice A' 1 c', .bool (decide (x + y ≤ 4))]) ∧ OwnI w' w.heap.size w'.heap.size A' c' [1] ∧ Below w.heap.size w w' := by
  obtain ⟨b, off, x', rfl, hc0, hx0⟩ := h 0 (by simp)
  obtain rfl : x' = x := by simpa using hx0.symm
  obtain ⟨b', off', y', hA, hc1, hx1⟩ := h 1 (by simp)
  injection hA with hA
  injection hA with hA1 hA2
  subst hA1 hA2
  obtain rfl : y' = y := by simpa using hx1.symm
  clear h hx0 hx1
  rw [Nat.add_zero] at hc0
  have q0 := cell_alloc hc0 (.cells #[.int .i64 1] 2)
  have q1 := cell_alloc hc1 (.cells #[.int .i64 1] 2)
  have o1 := (OwnC.lit (w := w) (lo := w.heap.size) (n := 1) 2 1 #[.int .i64 1] (Nat.le_refl _) (by unfold maxLen; omega) rfl).keep (w' := World.drew (w.alloc (.cells #[.int .i64 1] 2))) fun _ _ _ _ => rfl
  have b1 : Below w.heap.size w (World.drew (w.alloc (.cells #[.int .i64 1] 2))) := Below.drew2 (by (repeat (first | exact Below.refl _ _ | assumption | apply Below.drew | apply below_drewN | (refine Below.alloc ?_ (by first | omega | (simp; done) | (simp; omega)) _) | (refine Below.setCell ?_ (by first | omega | (simp; done) | (simp; omega)) _))))
  have O1 := Lib.hid o1; clear o1
  go_enter Tryz.func94, Tryz.ntmps94
  go_wp2_with (fail)
  go_region
  all_goals (try go_wp2_with (fail))
  all_goals
    go_ret2
    exact ⟨_, _, rfl, O1.out.mono (Nat.le_refl _) (show _ ≤ (w.alloc _).heap.size by simp), b1⟩

theorem madeStacks_6 (A : Option Addr) (x : Int) (c : Nat) (w : World) (h : Ints w A [x]) (hx : 1 ≤ x ∧ x ≤ 4) :
    Calls Tryz.prog 94 #[.int .i64 6, .slice A 1 c] w fun e w' => ∃ A' c', e = .returned (.tuple #[.slice A' 1 c', .bool (decide (x < 4))]) ∧ OwnI w' w.heap.size w'.heap.size A' c' [wrap64 (x + 1)] ∧ Below w.heap.size w w' := by
  obtain ⟨b, off, x', rfl, hc0, hx0⟩ := h 0 (by simp)
  obtain rfl : x' = x := by simpa using hx0.symm
  clear h hx0
  rw [Nat.add_zero] at hc0
  have hw : wrap64 (x' + 1) = x' + 1 := IntWalk.wrap64_in _ ⟨by omega, by omega⟩
  rw [hw]
  have hw2 : IntKind.i64.wrap (x' + 1) = x' + 1 := IntWalk.i64_in _ ⟨by omega, by omega⟩
  have q0 := cell_alloc hc0 (.cells #[.int .i64 (x' + 1)] 2)
  have q1 := cell_alloc hc0 (.cells #[.int .i64 (IntKind.i64.wrap (x' + 1))] 2)
  have o1 := (OwnC.lit (w := w) (lo := w.heap.size) (n := 1) 2 1 #[.int .i64 (x' + 1)] (Nat.le_refl _) (by unfold maxLen; omega) rfl).keep (w' := World.drew (w.alloc (.cells #[.int .i64 (x' + 1)] 2))) fun _ _ _ _ => rfl
  have b1 : Below w.heap.size w (World.drew (w.alloc (.cells #[.int .i64 (x' + 1)] 2))) := Below.drew2 (by (repeat (first | exact Below.refl _ _ | assumption | apply Below.drew | apply below_drewN | (refine Below.alloc ?_ (by first | omega | (simp; done) | (simp; omega)) _) | (refine Below.setCell ?_ (by first | omega | (simp; done) | (simp; omega)) _))))
  have O1 := Lib.hid o1; clear o1
  go_enter Tryz.func94, Tryz.ntmps94
  go_wp2_with (fail)
  go_region
  all_goals (try go_wp2_with (fail))
  all_goals
    go_ret2
    exact ⟨_, _, rfl, O1.out.mono (Nat.le_refl _) (show _ ≤ (w.alloc _).heap.size by simp), b1⟩

theorem madeStacks_7 (A : Option Addr) (x : Int) (c : Nat) (w : World) (h : Ints w A [x]) :
    Calls Tryz.prog 94 #[.int .i64 7, .slice A 1 c] w fun e w' => ∃ A' c', e = .returned (.tuple #[.slice A' 1 c', .bool true]) ∧ OwnI w' w.heap.size w'.heap.size A' c' [x] ∧ Below w.heap.size w w' := by
  obtain ⟨b, off, x', rfl, hc0, hx0⟩ := h 0 (by simp)
  obtain rfl : x' = x := by simpa using hx0.symm
  clear h hx0
  rw [Nat.add_zero] at hc0
  go_enter Tryz.func94, Tryz.ntmps94
  go_wp2_with (fail)
  go_ret2
  exact ⟨_, _, rfl, (OwnC.lit (lo := w.heap.size) (n := 1) 2 1 #[.int .i64 x'] (Nat.le_refl _) (by unfold maxLen; omega) rfl).mono (Nat.le_refl _) (by simp), by (repeat (first | exact Below.refl _ _ | assumption | apply Below.drew | apply below_drewN | (refine Below.alloc ?_ (by first | omega | (simp; done) | (simp; omega)) _) | (refine Below.setCell ?_ (by first | omega | (simp; done) | (simp; omega)) _)))⟩

theorem impl_madeStacks (k : Int) (A : Option Addr) (st : List Int) (c : Nat) (w : World) (h : Ints w A st) (hk : isStitchB k = true) (hl : st.length = takenN k) (hs : ∀ x ∈ st, inR x 1 4 = true) :
    Calls Tryz.prog 94 #[.int .i64 k, .slice A st.length c] w fun e w' => ∃ A' c', e = .returned (.tuple #[.slice A' (stepMade k st).length c', .bool (stepOk k st)]) ∧ OwnI w' w.heap.size w'.heap.size A' c' (stepMade k st) ∧ Below w.heap.size w w' := by
  have hs' : ∀ x ∈ st, 1 ≤ x ∧ x ≤ 4 := fun x hx => inR_iff.1 (hs x hx)
  rcases stitch_cases hk with rfl | rfl | rfl | rfl | rfl | rfl | rfl | rfl | rfl | rfl | rfl
  · exact madeStacks_1 _ _ _ _
  · exact madeStacks_2 _ _ _ _
  · exact madeStacks_3 _ _ _ _
  · match st, hl with
    | [x, y], _ => exact madeStacks_4 _ x y _ _ h (hs' x (by simp)) (hs' y (by simp))
  · match st, hl with
    | [x, y], _ => exact madeStacks_5 _ x y _ _ h (hs' x (by simp)) (hs' y (by simp))
  · match st, hl with
    | [x], _ => exact madeStacks_6 _ x _ _ h (hs' x (by simp))
  · match st, hl with
    | [x], _ => exact madeStacks_7 _ x _ _ h
  · exact madeStacks_8 _ _ _ _
  · exact madeStacks_9 _ _ _ _
  · exact madeStacks_10 _ _ _ _
  · exact madeStacks_11 _ _ _ _


end Go.Proofs.YtnjgmhdmjaijgaaGreatDoor
