/- Steps of the proof, joined from several texts: RL RK PKs RP RQ NS VR NM. -/
import Derived.Test.YtcgbogofmdjddaaDoorZ4
import Derived.Test.YtcgbogofmdjddaaDoorZ3
import Derived.BigGuard
import Derived.BigCall
import Derived.BigQuiet
import Derived.Deep.RegionLaw
import Derived.Laws.CopyOwn
import Derived.BigRegion
import Derived.RegionTactic

/- Letters: which are valid, which touch. -/
namespace Go.Proofs.YtcgbogofmdjddaaDoor
open Go.RowKit

def smallB (xs : List Int) : Prop := ∀ y ∈ xs, -1000 ≤ y ∧ y ≤ 1000
theorem smallB_of {n : Int} {xs : List Int} (h : braidB n xs = true) : smallB xs := fun y hy => by
  obtain ⟨_, h1, _, h2⟩ := braidB_of h
  have := h2 y hy
  omega
theorem smallB_at {xs : List Int} (h : smallB xs) {k : Nat} {x : Int} (hx : xs[k]? = some x) : -1000 ≤ x ∧ x ≤ 1000 := h x (List.mem_of_getElem? hx)
theorem absI_le {x : Int} (h : -1000 ≤ x ∧ x ≤ 1000) : 0 ≤ absI x ∧ absI x ≤ 1000 := by unfold absI; split <;> omega


end Go.Proofs.YtcgbogofmdjddaaDoor

/- l03Ok. -/
namespace Go.Proofs.YtcgbogofmdjddaaDoor
open Go.RowKit


end Go.Proofs.YtcgbogofmdjddaaDoor

/- l18Pack. -/
namespace Go.Proofs.YtcgbogofmdjddaaDoor
open Go.RowKit

theorem wpList_append1q {P : Program} (w : World) (q : Nat) (hq : w.heap.size = q) (u : List Value) (te : TypeId) {ops : Array Oper} {rest : List Oper} {o : Oper} {a : Act} {Q : Exit → Act → World → Prop} (hgd : o.guard = none) (s x : Operand) (t : TypeId)
    (hop : o.op = .call { callee := .builtin .append, args := #[s, x], argTypes := #[t, t] })
    (e : TypeId) (i : TypeInfo) (z : Value) (size bytes : Nat) (ht : P.underlying t = some (.slice e)) (hi : P.info? e = some i) (hz : i.zero = some z)
    (hsize : i.size = size) (hby : i.bytes = bytes) (hzs : z.cells.size = size) (hsz : 0 < size)
    {lo hi' n c : Nat} {A : Option Addr} {cs : List Value} (hs : a.eval s = .slice A n c) (hown : OwnC w lo hi' e size A n c cs) (hlo : lo ≤ w.heap.size)
    (c2 : Nat) (hx : a.eval x = .slice (some ⟨q, 0, none⟩) 1 c2) (hl : u.length = size) (h1 : ∀ v ∈ u, v.oneCell' = true)
    (hn : n ≤ 1000000000000) (hb : bytes ≤ 100)
    (h : ∀ A' c' w', OwnC w' lo w'.heap.size e size A' (n + 1) c' (cs ++ u) → (w.alloc (.cells u.toArray te)).grownBy w' (Value.slice A n c).ownBlock → Below lo w w' → w.heap.size < w'.heap.size → wpList P ops Q rest (a.put o.dst (.slice A' (n + 1) c')) w') : wpList P ops Q (o :: rest) a (w.alloc (.cells u.toArray te)) := by
  subst hq
  exact wpList_append1 w u te hgd s x t hop e i z size bytes ht hi hz hsize hby hzs hsz hs hown hlo c2 hx hl h1 hn hb h

/-- append of one element inside a region that draws. -/
theorem step_append1 {P : Program} {ops : Array Oper} {w : World} {o : Oper} {a : Act} {K : Act → World → Prop} {Q : Exit → Act → World → Prop} {E : Prop} (u : List Value) (te : TypeId) (hgd : o.guard = none) (s x : Operand) (t : TypeId)
    (hop : o.op = .call { callee := .builtin .append, args := #[s, x], argTypes := #[t, t] })
    (e : TypeId) (i : TypeInfo) (z : Value) (size bytes : Nat) (ht : P.underlying t = some (.slice e)) (hi : P.info? e = some i) (hz : i.zero = some z)
    (hsize : i.size = size) (hby : i.bytes = bytes) (hzs : z.cells.size = size) (hsz : 0 < size)
    {lo hi' n c : Nat} {A : Option Addr} {cs : List Value} (hs : a.eval s = .slice A n c) (hown : OwnC w lo hi' e size A n c cs) (hlo : lo ≤ w.heap.size)
    (c2 : Nat) (hx : a.eval x = .slice (some ⟨w.heap.size, 0, none⟩) 1 c2) (hl : u.length = size) (h1 : ∀ v ∈ u, v.oneCell' = true)
    (hn : n ≤ 1000000000000) (hb : bytes ≤ 100)
    (h : ∀ A' c' w', OwnC w' lo w'.heap.size e size A' (n + 1) c' (cs ++ u) → (w.alloc (.cells u.toArray te)).grownBy w' (Value.slice A n c).ownBlock → Below lo w w' → w.heap.size < w'.heap.size → K (a.put o.dst (.slice A' (n + 1) c')) w') :
    if Region.wanted o (yielded ops a.tmps) = true then Oper.wp P o a (w.alloc (.cells u.toArray te)) K Q else E := by
  have hw : Region.wanted o (yielded ops a.tmps) = true := by simp [Region.wanted, hgd]
  rw [if_pos hw]
  refine wp_appendC _ s x t hop e i z size bytes ht hi hz hsize hby hzs hsz hs (hown.alloc _) (by simp; omega) (some ⟨w.heap.size, 0, none⟩) 1 c2 u hx (by omega) ?_ h1 (by unfold maxLen; omega) ?_ fun A' c' w' h2 h3 h4 => ?_
  · intro j v hv
    refine ⟨w.heap.size, 0, rfl, ?_⟩
    have := World.cell?_alloc_new w u.toArray te (0 + j)
    rw [this]
    simpa using hv
  · have : (n + 1) * bytes ≤ (n + 1) * 100 := Nat.mul_le_mul_left _ hb
    omega
  · have hz := h3.size
    simp only [World.size_alloc] at hz
    exact h A' c' w' h2 h3 (Below.trans ((Below.refl _ _).alloc hlo _) h4) (by omega)
theorem step_append1d {P : Program} {ops : Array Oper} {w : World} {o : Oper} {a : Act} {K : Act → World → Prop} {Q : Exit → Act → World → Prop} {E : Prop} (u : List Value) (te : TypeId) (hgd : o.guard = none) (s x : Operand) (t : TypeId)
    (hop : o.op = .call { callee := .builtin .append, args := #[s, x], argTypes := #[t, t] })
    (e : TypeId) (i : TypeInfo) (z : Value) (size bytes : Nat) (ht : P.underlying t = some (.slice e)) (hi : P.info? e = some i) (hz : i.zero = some z)
    (hsize : i.size = size) (hby : i.bytes = bytes) (hzs : z.cells.size = size) (hsz : 0 < size)
    {lo hi' n c : Nat} {A : Option Addr} {cs : List Value} (hs : a.eval s = .slice A n c) (hown : OwnC w lo hi' e size A n c cs) (hlo : lo ≤ w.heap.size)
    (c2 : Nat) (hx : a.eval x = .slice (some ⟨w.heap.size, 0, none⟩) 1 c2) (hl : u.length = size) (h1 : ∀ v ∈ u, v.oneCell' = true)
    (hn : n ≤ 1000000000000) (hb : bytes ≤ 100)
    (h : ∀ A' c' w', OwnC w' lo w'.heap.size e size A' (n + 1) c' (cs ++ u) → (World.drew (w.alloc (.cells u.toArray te))).grownBy w' (Value.slice A n c).ownBlock → Below lo w w' → w.heap.size < w'.heap.size → K (a.put o.dst (.slice A' (n + 1) c')) w') :
    if Region.wanted o (yielded ops a.tmps) = true then Oper.wp P o a (World.drew (w.alloc (.cells u.toArray te))) K Q else E := by
  have hw : Region.wanted o (yielded ops a.tmps) = true := by simp [Region.wanted, hgd]
  rw [if_pos hw]
  refine wp_appendC _ s x t hop e i z size bytes ht hi hz hsize hby hzs hsz hs (OwnC.keep (hown.alloc (.cells u.toArray te)) (w' := World.drew (w.alloc (.cells u.toArray te))) fun _ _ _ _ => rfl) (show lo ≤ (w.alloc (.cells u.toArray te)).heap.size by simp; omega) (some ⟨w.heap.size, 0, none⟩) 1 c2 u hx (by omega) ?_ h1 (by unfold maxLen; omega) ?_ fun A' c' w' h2 h3 h4 => ?_
  · intro j v hv
    refine ⟨w.heap.size, 0, rfl, ?_⟩
    have := World.cell?_alloc_new w u.toArray te (0 + j)
    show (w.alloc (.cells u.toArray te)).cell? _ = _
    rw [this]
    simpa using hv
  · have : (n + 1) * bytes ≤ (n + 1) * 100 := Nat.mul_le_mul_left _ hb
    omega
  · have hz : (w.alloc (.cells u.toArray te)).heap.size ≤ w'.heap.size := h3.size
    simp only [World.size_alloc] at hz
    exact h A' c' w' h2 h3 (Below.trans (show Below lo w (World.drew (w.alloc (.cells u.toArray te))) from (((Below.refl _ _).alloc hlo _).trans (b := w.alloc (.cells u.toArray te)) ⟨rfl, rfl, rfl, Nat.le_refl _, fun _ _ => rfl⟩)) h4) (by omega)
theorem OwnL.drewN {w : World} {lo hi : Nat} {A : Option Addr} {c : Nat} {xss : List (List Int)} {l : List Int} {A' : Option Addr} {c' m : Nat} {cs : List Value} (h : OwnL w lo hi A c xss l A' c' m cs) (n : Nat) : OwnL (w.drewN n) lo hi A c xss l A' c' m cs := h.keep fun _ _ _ _ => rfl

theorem OwnL.mono' {w : World} {lo hi hi' : Nat} {A : Option Addr} {c : Nat} {xss : List (List Int)} {l : List Int} {A' : Option Addr} {c' m : Nat} {cs : List Value} (h : OwnL w lo hi A c xss l A' c' m cs) (h2 : hi ≤ hi') : OwnL w lo hi' A c xss l A' c' m cs :=
  ⟨h.out.mono (Nat.le_refl _) h2, h.cells, h.last.mono (Nat.le_refl _) h2, h.lom, Nat.le_trans h.mhi h2⟩
theorem OwnL.ne {w : World} {lo hi g : Nat} {c : Nat} {xss : List (List Int)} {l : List Int} {A' : Option Addr} {c' m : Nat} {cs : List Value} (h : OwnL w lo hi (some ⟨g, 0, none⟩) c xss l A' c' m cs) (k : Nat) (cur : Array Value) (h4 : w.heap[k]? = some (.cells cur 2 (0, 0))) : k ≠ g := by
  intro e
  subst e
  rcases h.out.form with ⟨h5, _⟩ | ⟨q2, cur', h5, _, _, h6, _⟩
  · simp at h5
  · injection h5 with h5
    injection h5 with h5
    subst h5
    rw [h4] at h6
    injection h6 with h6
    injection h6 with _ h6
    simp at h6
theorem OwnL.alloc {w : World} {lo hi : Nat} {A : Option Addr} {c : Nat} {xss : List (List Int)} {l : List Int} {A' : Option Addr} {c' m : Nat} {cs : List Value} (h : OwnL w lo hi A c xss l A' c' m cs) (o : Obj) : OwnL (w.alloc o) lo hi A c xss l A' c' m cs := h.keep fun k _ _ h4 => Below.heap_alloc w o k h4


end Go.Proofs.YtcgbogofmdjddaaDoor

/- slices.Repeat of [1]; how many columns a stitch takes and makes. -/
namespace Go.Proofs.YtcgbogofmdjddaaDoor
open Go.RowKit

theorem addr_add (g i : Nat) : (⟨g, 0, none⟩ : Addr).add i = ⟨g, i, none⟩ := by
  unfold Addr.add
  split <;> simp_all
theorem src_of_heap {w : World} {g : Nat} {t : TypeId} {L cs : List Value} (h : w.heap[g]? = some (.cells L.toArray t (0, 0))) (hp : cs = L.take cs.length) : ∀ j v, cs[j]? = some v → w.cell? ((⟨g, 0, none⟩ : Addr).add j) = some v := by
  intro j v hv
  rw [addr_add, cell_of_row w g j L.toArray t (0, 0) h]
  have hj := (List.getElem?_eq_some_iff.1 hv).1
  rw [hp, List.getElem?_take, if_pos hj] at hv
  simpa using hv
def ones (m z : Nat) : List Value := (List.replicate m (1 : Int) ++ List.replicate z 0).map (Value.int .i64)

theorem impl_ColumnsTaken (k : Int) (w : World) : Calls Tryd.prog 100 #[.int .i64 k] w fun e w' => e = .returned (.int .i64 (takenB k)) ∧ w = w' := by
  by_cases hk : isStitchB k = true
  · rcases stitch_cases hk with rfl | rfl | rfl | rfl | rfl | rfl | rfl | rfl | rfl | rfl | rfl
    all_goals
      go_enter Tryd.func100, Tryd.ntmps100
      go_wp2_with (fail)
      refine (impl_isStitch _ _).mono ?_; rintro e _ ⟨rfl, rfl⟩
      go_wp2_with (fail)
      go_ret
      exact ⟨rfl, rfl⟩
  · have hk' : isStitchB k = false := by simpa using hk
    have HF : Hid (takenB k = -1) := Lib.hid (by rw [takenB, if_neg hk])
    clear hk
    go_enter Tryd.func100, Tryd.ntmps100
    go_wp2_with (fail)
    refine (impl_isStitch _ _).mono ?_; rintro e _ ⟨rfl, rfl⟩
    go_wp2_with (fail)
    go_ret
    exact ⟨ret_int HF.out.symm, rfl⟩

set_option maxHeartbeats 4000000 in
theorem spec_ColumnsTaken (k : Int) (w : World) : Calls Tryd.prog 118 #[.int .i64 k] w fun e w' => e = .returned (.int .i64 (takenB k)) ∧ Below w.heap.size w w' := by
  by_cases hk : isStitchB k = true
  · rcases stitch_cases hk with rfl | rfl | rfl | rfl | rfl | rfl | rfl | rfl | rfl | rfl | rfl
    all_goals
      go_enter Tryd.func118, Tryd.ntmps118
      go_wp2_with (fail)
      refine (spec_l14Kind _ _).mono ?_; rintro e _ ⟨rfl, rfl⟩
      go_wp2_with (fail)
      go_ret
      exact ⟨rfl, by (repeat (first | exact Below.refl _ _ | assumption | apply Below.drew | apply below_drewN | (refine Below.alloc ?_ (by first | omega | (simp; done) | (simp; omega)) _) | (refine Below.setCell ?_ (by first | omega | (simp; done) | (simp; omega)) _)))⟩
  · have hk' : isStitchB k = false := by simpa using hk
    have HF : Hid (takenB k = -1) := Lib.hid (by rw [takenB, if_neg hk])
    clear hk
    go_enter Tryd.func118, Tryd.ntmps118
    go_wp2_with (fail)
    refine (spec_l14Kind _ _).mono ?_; rintro e _ ⟨rfl, rfl⟩
    go_wp2_with (fail)
    go_ret
    exact ⟨ret_int HF.out.symm, Below.refl _ _⟩

theorem impl_takenBy (A : Option Addr) (c : Nat) (ks : List Int) (w : World) (h : Ints w A ks) (hs : stitchesB ks = true) :
    Calls Tryd.prog 68 #[.slice A ks.length c] w fun e w' => e = .returned (.int .i64 (takenS ks)) ∧ w = w' := by
  obtain ⟨hl, hst⟩ := stitchesB_of hs
  have hsum := (sums_le hst).1
  have HST := Lib.hid hst; clear hst
  go_enter Tryd.func68, Tryd.ntmps68
  go_wp2_with (fail)
  go_loop [3, 8] (fun s i => ∃ k : Nat, k ≤ ks.length ∧ i = .int .i64 k ∧ s = .int .i64 (takenS (ks.take k))) (fun _ i => ks.length - (intOf i).toNat)
  case atStart => exact ⟨0, Nat.zero_le _, rfl, rfl⟩
  case round =>
    obtain ⟨k, hk, rfl, rfl⟩ := hrel
    by_cases hlt : k < ks.length
    · obtain ⟨b, off, x, rfl, hc, hx⟩ := h k hlt
      have hq := HST.out x (List.mem_of_getElem? hx)
      have hle := takenS_at hx
      have HS : Hid (takenS (ks.take (k + 1)) = takenS (ks.take k) + takenN x) := Lib.hid (takenS_snoc hx)
      have HB : Hid (takenB x = takenN x) := Lib.hid (takenB_of hq)
      clear hx hq
      go_wp2_with (fail)
      refine (impl_ColumnsTaken _ _).mono ?_; rintro e _ ⟨rfl, rfl⟩
      rw [HB.out]
      go_wp2_with (fail)
      go_round
      case rel => exact ⟨k + 1, by omega, by go_num, by rw [HS.out]; push_cast; go_num⟩
      case measure => simp [intOf]; omega
    · go_wp2_with (fail)
      go_ret
      exact ⟨ret_int (by rw [take_all (by omega)]), rfl⟩


end Go.Proofs.YtcgbogofmdjddaaDoor

/- slices.Repeat of [1]; madeStacks. -/
namespace Go.Proofs.YtcgbogofmdjddaaDoor
open Go.RowKit

theorem Below.drew2 {B : Nat} {w w' : World} (h : Below B w w') : Below B w (World.drew w') := h.trans ⟨rfl, rfl, rfl, Nat.le_refl _, fun _ _ => rfl⟩
theorem src1 {w : World} {b off : Nat} (h : w.cell? ⟨b, off, none⟩ = some (.int .i64 1)) : ∀ j v, ([Value.int .i64 1] : List Value)[j]? = some v → w.cell? ((⟨b, off, none⟩ : Addr).add j) = some v := by
  intro j v hv
  cases j with
  | zero =>
    simp at hv
    subst hv
    simpa [Addr.add] using h
  | succ j => simp at hv
theorem ones_own {w : World} {g lo n : Nat} (h : w.heap[g]? = some (.cells (ones n 0).toArray 2 (0, 0))) (hlo : lo ≤ g) (hn : n ≤ 1000) : OwnI w lo w.heap.size (some ⟨g, 0, none⟩) n (List.replicate n 1) := by
  have e : ones n 0 = (List.replicate n (1 : Int)).map (Value.int .i64) := by simp [ones]
  refine OwnC.of_own ⟨by simp, .inr ⟨g, n, (ones n 0).toArray, by simp, hlo, h, by simp, by unfold maxLen; omega, by simp [ones], by simp [ones]⟩⟩ (Nat.le_refl _)


end Go.Proofs.YtcgbogofmdjddaaDoor

/- NeedOf, the given side. -/
namespace Go.Proofs.YtcgbogofmdjddaaDoor
open Go.RowKit

theorem good_bound (n : Nat) : ∀ (d : Nat) (l : List PieceD), l.length ≤ n → Good d l → ∀ (k : Nat) (p : PieceD), l[k]? = some p → p.kind = 12 → 1 ≤ p.len ∧ (k : Int) + 1 + p.len ≤ l.length := by
  induction n with
  | zero => intro d l hl _ k p hp; have : l = [] := by cases l <;> simp_all
            subst this; simp at hp
  | succ n ih =>
    intro d l hl h k p hp hk
    cases l with
    | nil => simp at hp
    | cons q r =>
      simp only [List.length_cons] at hl ⊢
      by_cases hq : q.kind = 12
      · obtain ⟨_, h1, h2, _, _, h3, h4, h5⟩ := good_group h hq
        cases k with
        | zero => simp at hp; subst hp; omega
        | succ k =>
          simp only [List.getElem?_cons_succ] at hp
          by_cases hkn : k < q.len.toNat
          · have := ih (d + 1) (r.take q.len.toNat) (by simp; omega) h4 k p (by rw [List.getElem?_take_of_lt hkn]; exact hp) hk
            have hl2 : (r.take q.len.toNat).length ≤ r.length := by simp; omega
            omega
          · have := ih d (r.drop q.len.toNat) (by simp; omega) h5 (k - q.len.toNat) p (by rw [List.getElem?_drop, show q.len.toNat + (k - q.len.toNat) = k by omega]; exact hp) hk
            have hl2 : (r.drop q.len.toNat).length = r.length - q.len.toNat := by simp
            omega
      · cases k with
        | zero => simp at hp; subst hp; exact absurd hk hq
        | succ k =>
          have := ih d r (by omega) (good_plain h hq).2 k p (by simpa using hp) hk
          omega

set_option maxHeartbeats 4000000 in
set_option maxRecDepth 10000 in
theorem spec_l16Sum (cnt : Bool) (m : Nat) : ∀ (ps : List PieceD) (A : Option Addr) (c d : Nat) (w : World), ps.length ≤ m → ps.length ≤ 1000 → ps.length ≤ c → c ≤ 9223372036854775807 → Pieces w A ps → Good d ps →
    Calls Tryd.prog 103 #[.slice A ps.length c, .bool cnt] w fun e w' => e = .returned (.int .i64 (sumP cnt ps 0)) ∧ Below w.heap.size w w' := by
  induction m using Nat.strongRecOn with
  | ind m ih =>
  intro ps A c d w hm hl hc hcm h hg
  have IH := Lib.hid ih; clear ih
  go_enter Tryd.func103, Tryd.ntmps103
  go_wp2_with (fail)
  go_loopw [5, 6] (fun ov iv wr => ∃ (k : Nat) (acc : Int), k ≤ ps.length ∧ ov = .int .i64 acc ∧ iv = .int .i64 k ∧ Hid (sumP cnt ps 0 = sumP cnt (ps.drop k) acc) ∧ Hid (Good d (ps.drop k)) ∧ Below w.heap.size w wr) (fun _ iv _ => ps.length - (intOf iv).toNat)
  case atStart => exact ⟨0, 0, Nat.zero_le _, rfl, rfl, Lib.hid rfl, Lib.hid hg, Below.refl _ _⟩
  case round =>
    obtain ⟨k, acc, hk, rfl, rfl, HS, HG, hb⟩ := hrel
    have hz := hb.size
    by_cases hlt : k < ps.length
    · obtain ⟨b1, off, p, rfl, hp, p0, p1, p2⟩ := (h.below hb) k hlt
      have HP := Lib.hid hp; clear hp
      have j1 : (0 : Int) ≤ (k : Int) := by omega
      have j2 : (k : Int) < (ps.length : Int) := by omega
      by_cases hk12 : p.kind = 12
      · have hk' : (p.kind == 12) = true := by simp [hk12]
        obtain ⟨n, hnl, hn1, hn2, _, _, _, _, hg2, hg3, hs2, _⟩ := good_at_group HG.out HP.out hk12
        have HS2 : Hid (sumP cnt (ps.drop k) acc = sumP cnt (ps.drop (k + 1 + n)) (wrap64 (acc + wrap64 (p.times * sumP cnt (segP ps (k + 1) (k + 1 + n)) 0)))) := Lib.hid (hs2 cnt acc)
        have HG3 := Lib.hid hg3; clear hg3 hs2
        rw [hnl] at p2
        have i1 : (k : Int) + 1 ≤ (k : Int) + 1 + (n : Int) := by omega
        have i2 : (k : Int) + 1 + (n : Int) ≤ (c : Int) := by omega
        have w1 : IntKind.i64.wrap ((k : Int) + 1) = (k : Int) + 1 := IntWalk.i64_in _ (by omega)
        have w2 : IntKind.i64.wrap ((k : Int) + 1 + (n : Int)) = (k : Int) + 1 + (n : Int) := IntWalk.i64_in _ (by omega)
        have w3 : ((k : Int) + 1).toNat = k + 1 := by omega
        have w4 : ((k : Int) + 1 + (n : Int)).toNat = k + 1 + n := by omega
        have w5 : (0 : Int) ≤ (k : Int) + 1 := by omega
        have w6 : (0 : Int) ≤ (k : Int) + 1 + (n : Int) := by omega
        have w7 : (k : Int) + 1 ≤ max ((k : Int) + 1 + (n : Int)) 0 := by omega
        have w8 : ¬ c = k + 1 := by omega
        have w9 : k + 1 + n - (k + 1) = n := by omega
        have hsl : (segP ps (k + 1) (k + 1 + n)).length = n := by rw [segP_length hn2]; omega
        have HIC : Hid (∀ (W : World), Below w.heap.size w W → Calls Tryd.prog 103 #[.slice (some ⟨b1, off + (k + 1) * 3, none⟩) n (c - (k + 1)), .bool cnt] W fun e w' => e = .returned (.int .i64 (sumP cnt (segP ps (k + 1) (k + 1 + n)) 0)) ∧ Below W.heap.size W w') := Lib.hid (fun W hW => by
          have := IH.out n (by omega) (segP ps (k + 1) (k + 1 + n)) (some ⟨b1, off + (k + 1) * 3, none⟩) (c - (k + 1)) (d + 1) W (by rw [hsl]; exact Nat.le_refl _) (by rw [hsl]; omega) (by rw [hsl]; omega) (by omega) ((Pieces.seg h hn2).below hW) hg2
          rwa [hsl] at this)
        clear hsl hg2 hnl hk12
        have hba : Below w.heap.size w (wr.alloc (.cells #[.int .i64 p.kind, .int .i64 p.times, .int .i64 (n : Int)] 45)) := by (repeat (first | exact Below.refl _ _ | assumption | apply Below.drew | apply below_drewN | (refine Below.alloc ?_ (by first | omega | (simp; done) | (simp; omega)) _) | (refine Below.setCell ?_ (by first | omega | (simp; done) | (simp; omega)) _)))
        obtain ⟨u0, u1, u2⟩ := (Blk.new wr 45 #[.int .i64 p.kind, .int .i64 p.times, .int .i64 (n : Int)]).c3
        go_wp2_with (fail)
        go_region_law (go_simp; go_at_call 103; refine (HIC.out _ (Below.drew2 hba)).mono ?_; rintro e w2 ⟨rfl, b2'⟩; have b2 := undrew b2'; obtain ⟨v0, v1, v2⟩ := ((Blk.new wr 45 #[.int .i64 p.kind, .int .i64 p.times, .int .i64 (n : Int)]).below b2 (by simp)).c3)
        all_goals go_wp2_with (fail)
        all_goals
          simp only [World.size_alloc] at b2
          have hb2 : Below w.heap.size w w2 := hba.trans (b2.mono (by omega))
          refine ⟨⟨k + 1 + n, wrap64 (acc + wrap64 (p.times * sumP cnt (segP ps (k + 1) (k + 1 + n)) 0)), by omega, rfl, by go_num, Lib.hid (by rw [HS.out, HS2.out]), Lib.hid HG3.out, hb2⟩, by simp [intOf]; omega⟩
      · have hk' : (p.kind == 12) = false := by simp [hk12]
        obtain ⟨_, hg2⟩ := good_at_plain HG.out HP.out hk12
        have HG2 := Lib.hid hg2; clear hg2
        have HS2 := Lib.hid (sum_at_plain HP.out hk12 cnt acc)
        clear hk12
        have hba : Below w.heap.size w (wr.alloc (.cells #[.int .i64 p.kind, .int .i64 p.times, .int .i64 p.len] 45)) := by (repeat (first | exact Below.refl _ _ | assumption | apply Below.drew | apply below_drewN | (refine Below.alloc ?_ (by first | omega | (simp; done) | (simp; omega)) _) | (refine Below.setCell ?_ (by first | omega | (simp; done) | (simp; omega)) _)))
        obtain ⟨u0, u1, u2⟩ := (Blk.new wr 45 #[.int .i64 p.kind, .int .i64 p.times, .int .i64 p.len]).c3
        cases cnt
        · go_wp2_with (fail)
          go_region_law (go_simp; go_at_call 118; refine (spec_ColumnsTaken _ _).mono ?_; rintro e w2 ⟨rfl, b2'⟩; have b2 := undrew b2'; obtain ⟨v0, v1, v2⟩ := ((Blk.new wr 45 #[.int .i64 p.kind, .int .i64 p.times, .int .i64 p.len]).below b2 (by simp)).c3)
          all_goals go_wp2_with (fail)
          all_goals
            simp only [World.size_alloc] at b2
            have hb2 : Below w.heap.size w w2 := hba.trans (b2.mono (by omega))
            refine ⟨⟨k + 1, wrap64 (acc + wrap64 (p.times * takenB p.kind)), by omega, rfl, by go_num, Lib.hid (by rw [HS.out, HS2.out]; rfl), Lib.hid HG2.out, hb2⟩, by simp [intOf]; omega⟩
        · go_wp2_with (fail)
          go_roundw
          case rel => exact ⟨k + 1, wrap64 (acc + p.times), by omega, rfl, by go_num, Lib.hid (by rw [HS.out, HS2.out]; rfl), Lib.hid HG2.out, hba⟩
          case measure => simp [intOf]; omega
    · have he := HS.out
      rw [drop_all (by omega), sumP_nil] at he
      go_wp2_with (fail)
      go_ret
      exact ⟨by rw [he]; rfl, hb⟩

set_option maxHeartbeats 4000000 in
theorem spec_l16Open (ps : List PieceD) (A : Option Addr) (c : Nat) (w : World) (_hl : ps.length ≤ 1000) (hc : ps.length ≤ c) (hcm : c ≤ 9223372036854775807) (h : Pieces w A ps) (hg : Good 0 ps) :
    Calls Tryd.prog 102 #[.slice A ps.length c] w fun e w' => (∃ A' c' ok, e = .returned (.tuple #[.slice A' (openPart ps).length c', .bool ok]) ∧ Pieces w A' (openPart ps) ∧ (openPart ps).length ≤ c' ∧ c' ≤ 9223372036854775807) ∧ w = w' := by
  have HB : Hid (∀ (k : Nat) (p : PieceD), ps[k]? = some p → p.kind = 12 → 1 ≤ p.len ∧ (k : Int) + 1 + p.len ≤ ps.length) := Lib.hid (good_bound ps.length 0 ps (Nat.le_refl _) hg)
  go_enter Tryd.func102, Tryd.ntmps102
  go_wp2_with (fail)
  go_loopw [4] (fun iv wr => ∃ (k : Nat), k ≤ ps.length ∧ iv = .int .i64 k ∧ Hid (openPart ps = openPart (ps.drop k)) ∧ w = wr) (fun iv _ => ps.length - (intOf iv).toNat)
  case atStart => exact ⟨0, Nat.zero_le _, rfl, Lib.hid rfl, rfl⟩
  case round =>
    obtain ⟨k, hk, rfl, HO, rfl⟩ := hrel
    by_cases hlt : k < ps.length
    · obtain ⟨b1, off, p, rfl, hp, p0, p1, p2⟩ := h k hlt
      have HP := Lib.hid hp; clear hp
      have j1 : (0 : Int) ≤ (k : Int) := by omega
      have j2 : (k : Int) < (ps.length : Int) := by omega
      by_cases hk12 : p.kind = 12
      · have hk' : (p.kind == 12) = true := by simp [hk12]
        by_cases ht : p.times = 0
        · have ht' : (p.times == 0) = true := by simp [ht]
          obtain ⟨h1, h2⟩ := HB.out k p HP.out hk12
          obtain ⟨n, hnl⟩ : ∃ n : Nat, p.len = (n : Int) := ⟨p.len.toNat, by omega⟩
          have HE : Hid (openPart ps = segP ps (k + 1) (k + 1 + n)) := Lib.hid (by
            rw [HO.out, drop_cons HP.out, openPart, if_pos ⟨hk12, ht⟩, hnl]
            unfold segP
            congr 1
            simp)
          rw [hnl] at p2 h1 h2
          clear hnl hk12 ht
          have hsl : Hid ((segP ps (k + 1) (k + 1 + n)).length = n) := Lib.hid (by rw [segP_length (by omega)]; omega)
          have i1 : (k : Int) + 1 ≤ (k : Int) + 1 + (n : Int) := by omega
          have i2 : (k : Int) + 1 + (n : Int) ≤ (c : Int) := by omega
          have w9 : k + 1 + n - (k + 1) = n := by omega
          have HSEG : Hid (Pieces w (some ⟨b1, off + (k + 1) * 3, none⟩) (segP ps (k + 1) (k + 1 + n))) := Lib.hid (Pieces.seg h (by omega))
          go_wp2_with (fail)
          go_ret2
          rw [HE.out]
          exact ⟨⟨_, c - (k + 1), true, by rw [hsl.out]; first | rfl | (rw [w9]; rfl), HSEG.out, by rw [hsl.out]; omega, by omega⟩, rfl⟩
        · have ht' : (p.times == 0) = false := by simp [ht]
          have HE : Hid (openPart ps = openPart (ps.drop (k + 1))) := Lib.hid (by rw [HO.out, drop_cons HP.out, openPart, if_neg (fun e => ht e.2)])
          clear hk12 ht
          go_wp2_with (fail)
          go_roundw
          case rel => exact ⟨k + 1, by omega, by go_num, HE, trivial⟩
          case measure => simp [intOf]; omega
      · have hk' : (p.kind == 12) = false := by simp [hk12]
        have HE : Hid (openPart ps = openPart (ps.drop (k + 1))) := Lib.hid (by rw [HO.out, drop_cons HP.out, openPart, if_neg (fun e => hk12 e.1)])
        clear hk12
        go_wp2_with (fail)
        go_roundw
        case rel => exact ⟨k + 1, by omega, by go_num, HE, trivial⟩
        case measure => simp [intOf]; omega
    · have he := HO.out
      rw [drop_all (by omega), openPart] at he
      have HE := Lib.hid he; clear he
      go_wp2_with (fail)
      go_ret2
      rw [HE.out]
      exact ⟨⟨none, 0, false, rfl, Pieces.nil, by simp, by omega⟩, rfl⟩

end Go.Proofs.YtcgbogofmdjddaaDoor

/- ValidPieces, the program's function. -/
namespace Go.Proofs.YtcgbogofmdjddaaDoor
open Go.RowKit

theorem OwnC.capmax {w : World} {lo hi : Nat} {e : TypeId} {sz : Nat} {A : Option Addr} {n c : Nat} {cs : List Value} (h : OwnC w lo hi e sz A n c cs) : c ≤ 9223372036854775807 := by
  rcases h.form with ⟨_, _, h1, _⟩ | ⟨_, _, _, _, _, _, _, h1, _⟩
  · omega
  · unfold maxLen at h1; omega

theorem impl_ValidPieces (ps : List PieceD) (A : Option Addr) (c : Nat) (w : World) (h : Pieces w A ps) (_hl : ps.length ≤ 9223372036854775807) (hc : ps.length ≤ c) (hcm : c ≤ 9223372036854775807) :
    Calls Tryd.prog 52 #[.slice A ps.length c] w fun e w' => e = .returned (.bool (piecesB ps)) ∧ Below w.heap.size w w' := by
  by_cases hn : ps.length ≤ 24
  · have HF : Hid (piecesB ps = okP (rangeP 0 ps)) := Lib.hid (by unfold piecesB; rw [decide_eq_true hn, Bool.true_and])
    have hb1 : Below w.heap.size w (w.alloc (.cells #[.int .i64 0] 3)) := by (repeat (first | exact Below.refl _ _ | assumption | apply Below.drew | apply below_drewN | (refine Below.alloc ?_ (by first | omega | (simp; done) | (simp; omega)) _) | (refine Below.setCell ?_ (by first | omega | (simp; done) | (simp; omega)) _)))
    have hI := impl_arePieces w.heap.size w (Nat.le_refl _) ps.length ps A c 0 0 _ (Nat.le_refl _) hn hc hcm h hb1 (Blk.new w 3 #[.int .i64 0]) (by omega) (by omega)
    rw [show ((0 : Nat) : Int) = 0 from rfl] at hI
    have HI := Lib.hid hI; clear hI
    cases hr : rangeP 0 ps with
    | none =>
      rw [hr] at HI HF
      go_enter Tryd.func52, Tryd.ntmps52
      go_wp2_with (fail)
      refine (HI.out).mono ?_; rintro e w2 ⟨rfl, u2, _⟩
      have b2 : Below w.heap.size w w2 := hb1.trans (u2.below (by simp))
      go_wp2_with (fail)
      go_ret
      exact ⟨ret_bool HF.out.symm, b2⟩
    | some o =>
      rw [hr] at HI HF
      go_enter Tryd.func52, Tryd.ntmps52
      go_wp2_with (fail)
      refine (HI.out).mono ?_; rintro e w2 ⟨rfl, u2, hx⟩
      have b2 : Below w.heap.size w w2 := hb1.trans (u2.below (by simp))
      have s0 := (hx o rfl).c1
      rw [Nat.zero_add] at s0
      clear hx
      go_wp2_with (fail)
      go_ret
      exact ⟨ret_bool (by rw [HF.out]; simp [okP]; omega), b2⟩
  · have HF : Hid (piecesB ps = false) := Lib.hid (by unfold piecesB; rw [decide_eq_false hn, Bool.false_and])
    go_enter Tryd.func52, Tryd.ntmps52
    go_wp2_with (fail)
    go_ret
    exact ⟨ret_bool HF.out.symm, by (repeat (first | exact Below.refl _ _ | assumption | apply Below.drew | apply below_drewN | (refine Below.alloc ?_ (by first | omega | (simp; done) | (simp; omega)) _) | (refine Below.setCell ?_ (by first | omega | (simp; done) | (simp; omega)) _)))⟩

end Go.Proofs.YtcgbogofmdjddaaDoor

/- measure, eachPiece and the closure between them. -/
namespace Go.Proofs.YtcgbogofmdjddaaDoor
open Go.RowKit

/-- The four sums that measure keeps in boxes. -/
structure Boxes (w : World) (g : Nat) (C S O1 O2 : Int) : Prop where
  b0 : Blk w g 2 #[.int .i64 C]
  b1 : Blk w (g + 1) 2 #[.int .i64 S]
  b2 : Blk w (g + 2) 2 #[.int .i64 O1]
  b3 : Blk w (g + 3) 2 #[.int .i64 O2]
set_option maxHeartbeats 2000000 in
theorem measure1_plain (p : PieceD) (A' : Option Addr) (n c' g : Nat) (C S O1 O2 : Int) (w : World) (hb : Boxes w g C S O1 O2) (hk : p.kind ≠ 12) :
    Calls Tryd.prog 99 #[.agg #[.int .i64 p.kind, .int .i64 p.times, .int .i64 p.len], .slice A' n c', .pointer (some ⟨g, 0, none⟩), .pointer (some ⟨g + 1, 0, none⟩), .pointer (some ⟨g + 2, 0, none⟩), .pointer (some ⟨g + 3, 0, none⟩)] w fun e w' =>
      e = .returned (.tuple #[]) ∧ Boxes w' g (wrap64 (C + wrap64 (p.times * takenB p.kind))) (wrap64 (S + p.times)) O1 O2 ∧ Below g w w' := by
  have hk' : (p.kind != 12) = true := by simp [hk]
  obtain ⟨h0, h1, h2, h3⟩ := hb
  have l3 := h3.lt
  have hba : Below g w (w.alloc (.cells #[.int .i64 p.kind, .int .i64 p.times, .int .i64 p.len] 45)) := (Below.refl _ _).alloc (by omega) _
  have k0 := h0.alloc (.cells #[.int .i64 p.kind, .int .i64 p.times, .int .i64 p.len] 45)
  have k1 := h1.alloc (.cells #[.int .i64 p.kind, .int .i64 p.times, .int .i64 p.len] 45)
  have k2 := h2.alloc (.cells #[.int .i64 p.kind, .int .i64 p.times, .int .i64 p.len] 45)
  have k3 := h3.alloc (.cells #[.int .i64 p.kind, .int .i64 p.times, .int .i64 p.len] 45)
  have kp := Blk.new w 45 #[.int .i64 p.kind, .int .i64 p.times, .int .i64 p.len]
  obtain ⟨u0, u1, u2⟩ := kp.c3
  have c0 := k0.c1
  have f0 := k0.frozen 0
  have c1 := k1.c1
  have f1 := k1.frozen 0
  have n1 : w.heap.size ≠ g := by omega
  have n2 : g + 1 ≠ g := by omega
  clear hk
  go_enter Tryd.func99, Tryd.ntmps99
  go_wp2_with (fail)
  go_region_law (go_simp; go_at_call 100; refine (impl_ColumnsTaken _ _).mono ?_; rintro e _ ⟨rfl, rfl⟩)
  all_goals
    have m1 := k1.far (p := ⟨g, 0, none⟩) (by show g + 1 ≠ g; omega) (.int .i64 (wrap64 (C + wrap64 (p.times * takenB p.kind))))
    have mp := kp.far (p := ⟨g, 0, none⟩) (by show w.heap.size ≠ g; omega) (.int .i64 (wrap64 (C + wrap64 (p.times * takenB p.kind))))
    obtain ⟨v0, v1, v2⟩ := mp.c3
    have d1 := m1.c1
    have e1 := m1.frozen 0
    go_wp2_with (fail)
  all_goals
    refine bodyPost_ret (results_none rfl _ _ _) rfl ?_
    refine ⟨rfl, ⟨?_, ?_, ?_, ?_⟩, ?_⟩
    · exact ((k0.set1 (.int .i64 (wrap64 (C + wrap64 (p.times * takenB p.kind))))).far (by show g ≠ g + 1; omega) _)
    · exact m1.set1 _
    · exact (k2.far (by show g + 2 ≠ g; omega) _).far (by show g + 2 ≠ g + 1; omega) _
    · exact (k3.far (by show g + 3 ≠ g; omega) _).far (by show g + 3 ≠ g + 1; omega) _
    · (repeat (first | exact Below.refl _ _ | assumption | apply Below.drew | apply below_drewN | (refine Below.alloc ?_ (by first | omega | (simp; done) | (simp; omega)) _) | (refine Below.setCell ?_ (by first | omega | (simp; done) | (simp; omega)) _)))
set_option maxHeartbeats 2000000 in
theorem measure1_group (p : PieceD) (qs : List PieceD) (A' : Option Addr) (c' g : Nat) (C S O1 O2 : Int) (w : World) (hb : Boxes w g C S O1 O2) (hk : p.kind = 12)
    (HM : Hid (∀ W, Below w.heap.size w W → Calls Tryd.prog 65 #[.slice A' qs.length c'] W fun e w' => e = .returned (.tuple #[.int .i64 (sumP false qs 0), .int .i64 (sumP true qs 0), .int .i64 (openP false qs 0), .int .i64 (openP true qs 0)]) ∧ Below W.heap.size W w')) :
    Calls Tryd.prog 99 #[.agg #[.int .i64 p.kind, .int .i64 p.times, .int .i64 p.len], .slice A' qs.length c', .pointer (some ⟨g, 0, none⟩), .pointer (some ⟨g + 1, 0, none⟩), .pointer (some ⟨g + 2, 0, none⟩), .pointer (some ⟨g + 3, 0, none⟩)] w fun e w' =>
      e = .returned (.tuple #[]) ∧ Boxes w' g (wrap64 (C + wrap64 (p.times * sumP false qs 0))) (wrap64 (S + wrap64 (p.times * sumP true qs 0))) (if p.times = 0 then sumP false qs 0 else O1) (if p.times = 0 then sumP true qs 0 else O2) ∧ Below g w w' := by
  have hk' : (p.kind != 12) = false := by simp [hk]
  obtain ⟨h0, h1, h2, h3⟩ := hb
  have l3 := h3.lt
  have hba : Below w.heap.size w (w.alloc (.cells #[.int .i64 p.kind, .int .i64 p.times, .int .i64 p.len] 45)) := by (repeat (first | exact Below.refl _ _ | assumption | apply Below.drew | apply below_drewN | (refine Below.alloc ?_ (by first | omega | (simp; done) | (simp; omega)) _) | (refine Below.setCell ?_ (by first | omega | (simp; done) | (simp; omega)) _)))
  have hbg : Below g w (w.alloc (.cells #[.int .i64 p.kind, .int .i64 p.times, .int .i64 p.len] 45)) := (Below.refl _ _).alloc (by omega) _
  have k0 := h0.alloc (.cells #[.int .i64 p.kind, .int .i64 p.times, .int .i64 p.len] 45)
  have k1 := h1.alloc (.cells #[.int .i64 p.kind, .int .i64 p.times, .int .i64 p.len] 45)
  have k2 := h2.alloc (.cells #[.int .i64 p.kind, .int .i64 p.times, .int .i64 p.len] 45)
  have k3 := h3.alloc (.cells #[.int .i64 p.kind, .int .i64 p.times, .int .i64 p.len] 45)
  have kp := Blk.new w 45 #[.int .i64 p.kind, .int .i64 p.times, .int .i64 p.len]
  obtain ⟨u0, u1, u2⟩ := kp.c3
  clear hk
  generalize hX : sumP false qs 0 = X at HM ⊢
  generalize hY : sumP true qs 0 = Y at HM ⊢
  clear hX hY
  obtain ⟨Z1, hZ1⟩ : ∃ Z, Z = if p.times = 0 then X else O1 := ⟨_, rfl⟩
  obtain ⟨Z2, hZ2⟩ : ∃ Z, Z = if p.times = 0 then Y else O2 := ⟨_, rfl⟩
  rw [← hZ1, ← hZ2]
  have HZ := Lib.hid (And.intro hZ1 hZ2); clear hZ1 hZ2
  go_enter Tryd.func99, Tryd.ntmps99
  go_wp2_with (fail)
  refine (HM.out _ hba).mono ?_; rintro e w2 ⟨rfl, b2⟩
  simp only [World.size_alloc] at b2
  have m0 := k0.below b2 (by omega)
  have m1 := k1.below b2 (by omega)
  have m2 := k2.below b2 (by omega)
  have m3 := k3.below b2 (by omega)
  have mp := kp.below b2 (by omega)
  have hb2 : Below g w w2 := hbg.trans (b2.mono (by omega))
  have z2 := b2.size
  simp only [World.size_alloc] at z2
  clear u0 u1 u2 k0 k1 k2 k3 kp hba hbg b2
  have c0 := m0.c1
  have f0 := m0.frozen 0
  obtain ⟨v0, v1, v2⟩ := mp.c3
  have n1 := m1.far (p := ⟨g, 0, none⟩) (by show g + 1 ≠ g; omega) (.int .i64 (wrap64 (C + wrap64 (p.times * X))))
  have np := mp.far (p := ⟨g, 0, none⟩) (by show w.heap.size ≠ g; omega) (.int .i64 (wrap64 (C + wrap64 (p.times * X))))
  have np2 := np.far (p := ⟨g + 1, 0, none⟩) (by show w.heap.size ≠ g + 1; omega) (.int .i64 (wrap64 (S + wrap64 (p.times * Y))))
  obtain ⟨x0, x1, x2⟩ := np.c3
  obtain ⟨y0, y1, y2⟩ := np2.c3
  have d1 := n1.c1
  have e1 := n1.frozen 0
  have n2 := (m2.far (p := ⟨g, 0, none⟩) (by show g + 2 ≠ g; omega) (.int .i64 (wrap64 (C + wrap64 (p.times * X))))).far (p := ⟨g + 1, 0, none⟩) (by show g + 2 ≠ g + 1; omega) (.int .i64 (wrap64 (S + wrap64 (p.times * Y))))
  have n3 := (m3.far (p := ⟨g, 0, none⟩) (by show g + 3 ≠ g; omega) (.int .i64 (wrap64 (C + wrap64 (p.times * X))))).far (p := ⟨g + 1, 0, none⟩) (by show g + 3 ≠ g + 1; omega) (.int .i64 (wrap64 (S + wrap64 (p.times * Y))))
  have n0 := (m0.set1 (.int .i64 (wrap64 (C + wrap64 (p.times * X))))).far (p := ⟨g + 1, 0, none⟩) (by show g ≠ g + 1; omega) (.int .i64 (wrap64 (S + wrap64 (p.times * Y))))
  have n1' := n1.set1 (.int .i64 (wrap64 (S + wrap64 (p.times * Y))))
  have d2 := n2.c1
  have e2 := n2.frozen 0
  have e3 := (n3.far (p := ⟨g + 2, 0, none⟩) (by show g + 3 ≠ g + 2; omega) (.int .i64 X)).frozen 0
  have d3 := (n3.far (p := ⟨g + 2, 0, none⟩) (by show g + 3 ≠ g + 2; omega) (.int .i64 X)).c1
  by_cases ht : p.times = 0
  · have ht' : (p.times == 0) = true := by simp [ht]
    have HT : Hid (Z1 = X ∧ Z2 = Y) := Lib.hid ⟨by rw [HZ.out.1, if_pos ht], by rw [HZ.out.2, if_pos ht]⟩
    clear ht
    go_wp2_with (fail)
    go_end0
    rw [HT.out.1, HT.out.2]
    refine ⟨rfl, ⟨?_, ?_, ?_, ?_⟩, ?_⟩
    · exact (n0.far (by show g ≠ g + 2; omega) _).far (by show g ≠ g + 3; omega) _
    · exact (n1'.far (by show g + 1 ≠ g + 2; omega) _).far (by show g + 1 ≠ g + 3; omega) _
    · exact (n2.set1 _).far (by show g + 2 ≠ g + 3; omega) _
    · exact (n3.far (by show g + 3 ≠ g + 2; omega) _).set1 _
    · (repeat (first | exact Below.refl _ _ | assumption | apply Below.drew | apply below_drewN | (refine Below.alloc ?_ (by first | omega | (simp; done) | (simp; omega)) _) | (refine Below.setCell ?_ (by first | omega | (simp; done) | (simp; omega)) _)))
  · have ht' : (p.times == 0) = false := by simp [ht]
    have HT : Hid (Z1 = O1 ∧ Z2 = O2) := Lib.hid ⟨by rw [HZ.out.1, if_neg ht], by rw [HZ.out.2, if_neg ht]⟩
    clear ht
    go_wp2_with (fail)
    go_end0
    rw [HT.out.1, HT.out.2]
    exact ⟨rfl, ⟨n0, n1', n2, n3⟩, by (repeat (first | exact Below.refl _ _ | assumption | apply Below.drew | apply below_drewN | (refine Below.alloc ?_ (by first | omega | (simp; done) | (simp; omega)) _) | (refine Below.setCell ?_ (by first | omega | (simp; done) | (simp; omega)) _)))⟩

def MeasureAt (n : Nat) : Prop := ∀ (ps : List PieceD) (A : Option Addr) (c d : Nat) (w : World), ps.length < n → ps.length ≤ 1000 → ps.length ≤ c → c ≤ 9223372036854775807 → Pieces w A ps → Good d ps →
    Calls Tryd.prog 65 #[.slice A ps.length c] w fun e w' => e = .returned (.tuple #[.int .i64 (sumP false ps 0), .int .i64 (sumP true ps 0), .int .i64 (openP false ps 0), .int .i64 (openP true ps 0)]) ∧ Below w.heap.size w w'
set_option maxHeartbeats 4000000 in
set_option maxRecDepth 10000 in
theorem eachPiece_measure (ps : List PieceD) (A : Option Addr) (c d g : Nat) (w0 w : World) (IH : Hid (MeasureAt ps.length)) (hl : ps.length ≤ 1000) (hc : ps.length ≤ c) (hcm : c ≤ 9223372036854775807) (h : Pieces w0 A ps) (hw0 : w0.heap.size ≤ g) (hb0 : Below w0.heap.size w0 w) (hg : Good d ps) (hx : Boxes w g 0 0 0 0) :
    Calls Tryd.prog 87 #[.slice A ps.length c, .func (.func 99) #[] #[.pointer (some ⟨g, 0, none⟩), .pointer (some ⟨g + 1, 0, none⟩), .pointer (some ⟨g + 2, 0, none⟩), .pointer (some ⟨g + 3, 0, none⟩)]] w fun e w' =>
      e = .returned (.tuple #[]) ∧ Boxes w' g (sumP false ps 0) (sumP true ps 0) (openP false ps 0) (openP true ps 0) ∧ Below g w w' := by
  go_enter Tryd.func87, Tryd.ntmps87
  go_wp2_with (fail)
  go_loopw [4] (fun iv wr => ∃ (k : Nat) (C S O1 O2 : Int), k ≤ ps.length ∧ iv = .int .i64 k ∧ Boxes wr g C S O1 O2 ∧ Hid (sumP false ps 0 = sumP false (ps.drop k) C ∧ sumP true ps 0 = sumP true (ps.drop k) S ∧ openP false ps 0 = openP false (ps.drop k) O1 ∧ openP true ps 0 = openP true (ps.drop k) O2) ∧ Hid (Good d (ps.drop k)) ∧ Below g w wr) (fun iv _ => ps.length - (intOf iv).toNat)
  case atStart => exact ⟨0, 0, 0, 0, 0, Nat.zero_le _, rfl, hx, Lib.hid ⟨rfl, rfl, rfl, rfl⟩, Lib.hid hg, Below.refl _ _⟩
  case round =>
    obtain ⟨k, C, S, O1, O2, hk, rfl, hbx, HS, HG, hb⟩ := hrel
    have hbw : Below w0.heap.size w0 wr := hb0.trans (hb.mono hw0)
    have lg := hbx.b3.lt
    by_cases hlt : k < ps.length
    · obtain ⟨b1, off, p, rfl, hp, p0, p1, p2⟩ := (h.below hbw) k hlt
      have HP := Lib.hid hp; clear hp
      have j1 : (0 : Int) ≤ (k : Int) := by omega
      have j2 : (k : Int) < (ps.length : Int) := by omega
      by_cases hk12 : p.kind = 12
      · obtain ⟨n, hnl, hn1, hn2, _, _, _, _, hg2, hg3, hs2, ho2⟩ := good_at_group HG.out HP.out hk12
        have HS2 : Hid ((∀ cnt acc, sumP cnt (ps.drop k) acc = sumP cnt (ps.drop (k + 1 + n)) (wrap64 (acc + wrap64 (p.times * sumP cnt (segP ps (k + 1) (k + 1 + n)) 0)))) ∧ (∀ cnt o, openP cnt (ps.drop k) o = openP cnt (ps.drop (k + 1 + n)) (if p.times = 0 then sumP cnt (segP ps (k + 1) (k + 1 + n)) 0 else o))) := Lib.hid ⟨hs2, ho2⟩
        have HG3 := Lib.hid hg3; clear hg3 hs2 ho2
        have HNL := Lib.hid hnl
        rw [hnl] at p2
        have w1 : IntKind.i64.wrap ((k : Int) + 1) = (k : Int) + 1 := IntWalk.i64_in _ (by omega)
        have w2 : IntKind.i64.wrap ((k : Int) + 1 + (n : Int)) = (k : Int) + 1 + (n : Int) := IntWalk.i64_in _ (by omega)
        have w3 : ((k : Int) + 1).toNat = k + 1 := by omega
        have w4 : ((k : Int) + 1 + (n : Int)).toNat = k + 1 + n := by omega
        have w5 : (0 : Int) ≤ (k : Int) + 1 := by omega
        have w6 : (0 : Int) ≤ (k : Int) + 1 + (n : Int) := by omega
        have w7 : (k : Int) + 1 ≤ max ((k : Int) + 1 + (n : Int)) 0 := by omega
        have w8 : ¬ c = k + 1 := by omega
        have w9 : k + 1 + n - (k + 1) = n := by omega
        have i1 : (k : Int) + 1 ≤ (k : Int) + 1 + (n : Int) := by omega
        have i2 : (k : Int) + 1 + (n : Int) ≤ (c : Int) := by omega
        have hsl : (segP ps (k + 1) (k + 1 + n)).length = n := by rw [segP_length hn2]; omega
        have HIC : Hid (Calls Tryd.prog 99 #[.agg #[.int .i64 p.kind, .int .i64 p.times, .int .i64 (n : Int)], .slice (some ⟨b1, off + (k + 1) * 3, none⟩) n (c - (k + 1)), .pointer (some ⟨g, 0, none⟩), .pointer (some ⟨g + 1, 0, none⟩), .pointer (some ⟨g + 2, 0, none⟩), .pointer (some ⟨g + 3, 0, none⟩)] (World.drew wr) fun e w' =>
            e = .returned (.tuple #[]) ∧ Boxes w' g (wrap64 (C + wrap64 (p.times * sumP false (segP ps (k + 1) (k + 1 + n)) 0))) (wrap64 (S + wrap64 (p.times * sumP true (segP ps (k + 1) (k + 1 + n)) 0))) (if p.times = 0 then sumP false (segP ps (k + 1) (k + 1 + n)) 0 else O1) (if p.times = 0 then sumP true (segP ps (k + 1) (k + 1 + n)) 0 else O2) ∧ Below g (World.drew wr) w') := Lib.hid (by
          have := measure1_group p (segP ps (k + 1) (k + 1 + n)) (some ⟨b1, off + (k + 1) * 3, none⟩) (c - (k + 1)) g C S O1 O2 (World.drew wr) ⟨hbx.b0, hbx.b1, hbx.b2, hbx.b3⟩ hk12 (Lib.hid fun W hW => IH.out _ _ _ (d + 1) W (by rw [hsl]; omega) (by rw [hsl]; omega) (by rw [hsl]; omega) (by omega) ((Pieces.seg h hn2).below ((Below.drew2 hbw).trans (hW.mono (by show w0.heap.size ≤ wr.heap.size; omega)))) hg2)
          rwa [hsl, hnl] at this)
        clear hsl hg2 hnl hk12
        go_wp2_with (fail)
        go_region_law (go_simp; go_at_call 99; refine HIC.out.mono ?_; rintro e w2 ⟨rfl, hbx2, b2⟩)
        all_goals go_wp2_with (fail)
        all_goals
          have hb2 : Below g w w2 := (Below.drew2 hb).trans b2
          refine ⟨⟨k + 1 + n, _, _, _, _, by omega, by go_num, hbx2, Lib.hid ?_, Lib.hid HG3.out, hb2⟩, by simp [intOf]; omega⟩
          obtain ⟨s1, s2, s3, s4⟩ := HS.out
          rw [s1, s2, s3, s4]
          exact ⟨HS2.out.1 _ _, HS2.out.1 _ _, HS2.out.2 _ _, HS2.out.2 _ _⟩
      · obtain ⟨hpl, hg2⟩ := good_at_plain HG.out HP.out hk12
        have HG2 := Lib.hid hg2; clear hg2
        have hp0 : p.len = 0 := by unfold plainP at hpl; simp only [Bool.and_eq_true, decide_eq_true_eq] at hpl; exact hpl.2
        have HS2 : Hid ((∀ cnt acc, sumP cnt (ps.drop k) acc = sumP cnt (ps.drop (k + 1)) (wrap64 (acc + (if cnt then p.times else wrap64 (p.times * takenB p.kind))))) ∧ (∀ cnt o, openP cnt (ps.drop k) o = openP cnt (ps.drop (k + 1)) o)) := Lib.hid ⟨sum_at_plain HP.out hk12, fun cnt o => by rw [drop_cons HP.out, openP_plain hk12]⟩
        rw [hp0] at p2
        have w1 : IntKind.i64.wrap ((k : Int) + 1) = (k : Int) + 1 := IntWalk.i64_in _ (by omega)
        have w3 : ((k : Int) + 1).toNat = k + 1 := by omega
        have w5 : (0 : Int) ≤ (k : Int) + 1 := by omega
        have w7 : (k : Int) + 1 ≤ max ((k : Int) + 1) 0 := by omega
        have i2 : (k : Int) + 1 ≤ (c : Int) := by omega
        have HIC : Hid (∀ A' n c', Calls Tryd.prog 99 #[.agg #[.int .i64 p.kind, .int .i64 p.times, .int .i64 0], .slice A' n c', .pointer (some ⟨g, 0, none⟩), .pointer (some ⟨g + 1, 0, none⟩), .pointer (some ⟨g + 2, 0, none⟩), .pointer (some ⟨g + 3, 0, none⟩)] (World.drew wr) fun e w' =>
            e = .returned (.tuple #[]) ∧ Boxes w' g (wrap64 (C + wrap64 (p.times * takenB p.kind))) (wrap64 (S + p.times)) O1 O2 ∧ Below g (World.drew wr) w') := Lib.hid (fun A' n c' => by
          have := measure1_plain p A' n c' g C S O1 O2 (World.drew wr) ⟨hbx.b0, hbx.b1, hbx.b2, hbx.b3⟩ hk12
          rwa [hp0] at this)
        clear hk12 hpl hp0
        go_wp2_with (fail)
        go_region_law (go_simp; go_at_call 99; refine (HIC.out _ _ _).mono ?_; rintro e w2 ⟨rfl, hbx2, b2⟩)
        all_goals go_wp2_with (fail)
        all_goals
          have hb2 : Below g w w2 := (Below.drew2 hb).trans b2
          refine ⟨⟨k + 1, _, _, _, _, by omega, by go_num, hbx2, Lib.hid ?_, Lib.hid HG2.out, hb2⟩, by simp [intOf]; omega⟩
          obtain ⟨s1, s2, s3, s4⟩ := HS.out
          rw [s1, s2, s3, s4]
          exact ⟨HS2.out.1 false _, HS2.out.1 true _, HS2.out.2 _ _, HS2.out.2 _ _⟩
    · have he := HS.out
      rw [drop_all (by omega), sumP_nil, sumP_nil, openP_nil, openP_nil] at he
      obtain ⟨e1, e2, e3, e4⟩ := he
      have HE : Hid (Boxes wr g (sumP false ps 0) (sumP true ps 0) (openP false ps 0) (openP true ps 0)) := Lib.hid (by rw [e1, e2, e3, e4]; exact hbx)
      clear e1 e2 e3 e4
      go_wp2_with (fail)
      go_end0
      exact ⟨rfl, HE.out, hb⟩

set_option maxHeartbeats 2000000 in
set_option maxRecDepth 10000 in
theorem impl_measure (m : Nat) : ∀ n, n ≤ m → MeasureAt n := by
  induction m with
  | zero => intro n hn ps A c d w h0; omega
  | succ m ih =>
    intro n hn ps A c d w h0 hl hc hcm h hg
    have IH : Hid (MeasureAt ps.length) := Lib.hid (ih ps.length (by omega))
    clear ih
    have hb1 : Below w.heap.size w ((((w.alloc (.cells #[.int .i64 0] 2)).alloc (.cells #[.int .i64 0] 2)).alloc (.cells #[.int .i64 0] 2)).alloc (.cells #[.int .i64 0] 2)) := by (repeat (first | exact Below.refl _ _ | assumption | apply Below.drew | apply below_drewN | (refine Below.alloc ?_ (by first | omega | (simp; done) | (simp; omega)) _) | (refine Below.setCell ?_ (by first | omega | (simp; done) | (simp; omega)) _)))
    have hx : Boxes ((((w.alloc (.cells #[.int .i64 0] 2)).alloc (.cells #[.int .i64 0] 2)).alloc (.cells #[.int .i64 0] 2)).alloc (.cells #[.int .i64 0] 2)) w.heap.size 0 0 0 0 := by
      refine ⟨?_, ?_, ?_, ?_⟩
      · exact (((Blk.new w 2 #[.int .i64 0]).alloc _).alloc _).alloc _
      · have := ((Blk.new (w.alloc (.cells #[.int .i64 0] 2)) 2 #[.int .i64 0]).alloc (.cells #[.int .i64 0] 2)).alloc (.cells #[.int .i64 0] 2)
        simpa using this
      · have := (Blk.new ((w.alloc (.cells #[.int .i64 0] 2)).alloc (.cells #[.int .i64 0] 2)) 2 #[.int .i64 0]).alloc (.cells #[.int .i64 0] 2)
        simpa using this
      · have := Blk.new (((w.alloc (.cells #[.int .i64 0] 2)).alloc (.cells #[.int .i64 0] 2)).alloc (.cells #[.int .i64 0] 2)) 2 #[.int .i64 0]
        simpa using this
    have HX := Lib.hid hx; clear hx
    have hmf : ∀ (fn : Fn) (first cap : Array Value) (w : World), (Instr.makeFunc fn first cap).run Tryd.prog w = .ok (.func fn first cap) w := fun _ _ _ _ => rfl
    obtain ⟨X, hX⟩ : ∃ X, X = sumP false ps 0 := ⟨_, rfl⟩
    obtain ⟨Y, hY⟩ : ∃ X, X = sumP true ps 0 := ⟨_, rfl⟩
    obtain ⟨O1, hO1⟩ : ∃ X, X = openP false ps 0 := ⟨_, rfl⟩
    obtain ⟨O2, hO2⟩ : ∃ X, X = openP true ps 0 := ⟨_, rfl⟩
    rw [← hX, ← hY, ← hO1, ← hO2]
    have HQ : Hid (X = sumP false ps 0 ∧ Y = sumP true ps 0 ∧ O1 = openP false ps 0 ∧ O2 = openP true ps 0) := Lib.hid ⟨hX, hY, hO1, hO2⟩
    clear hX hY hO1 hO2
    go_enter Tryd.func65, Tryd.ntmps65
    go_wp2_with (fail)
    refine (eachPiece_measure ps A c d w.heap.size w _ IH hl hc hcm h (Nat.le_refl _) hb1 hg HX.out).mono ?_; rintro e w2 ⟨rfl, hb2, b2⟩
    have hbw : Below w.heap.size w w2 := hb1.trans b2
    rw [← HQ.out.1, ← HQ.out.2.1, ← HQ.out.2.2.1, ← HQ.out.2.2.2] at hb2
    obtain ⟨h0, h1, h2, h3⟩ := hb2
    have c0 := h0.c1
    have c1 := h1.c1
    have c2 := h2.c1
    have c3 := h3.c1
    have f0 := h0.frozen 0
    have f1 := h1.frozen 0
    have f2 := h2.frozen 0
    have f3 := h3.frozen 0
    go_wp2_with (fail)
    go_region
    all_goals
      go_wp2_with (fail)
      refine bodyPost_ret (v := .tuple #[.int .i64 X, .int .i64 Y, .int .i64 O1, .int .i64 O2]) (by simp [results, Tryd.results65, go_sem, c0, c1, c2, c3]) rfl ⟨rfl, ?_⟩
      (repeat (first | exact Below.refl _ _ | assumption | apply Below.drew | apply below_drewN | (refine Below.alloc ?_ (by first | omega | (simp; done) | (simp; omega)) _) | (refine Below.setCell ?_ (by first | omega | (simp; done) | (simp; omega)) _)))

def needP (ps : List PieceD) : Int × Int × Bool := if piecesB ps then (sumP false ps 0, sumP false (openPart ps) 0, true) else (0, 0, false)
theorem piecesB_good {ps : List PieceD} (h : piecesB ps = true) : ps.length ≤ 24 ∧ okP (rangeP 0 ps) = true ∧ Good 0 ps := by
  unfold piecesB at h
  simp only [Bool.and_eq_true, decide_eq_true_eq] at h
  refine ⟨h.1, h.2, ?_⟩
  unfold Good
  cases e : rangeP 0 ps with
  | none => rw [e] at h; cases h.2
  | some o => rfl
theorem openPart_length (ps : List PieceD) : (openPart ps).length ≤ ps.length := by
  induction ps with
  | nil => simp [openPart]
  | cons p r ih =>
    rw [openPart]
    split
    · simp; omega
    · simp; omega

theorem impl_NeedOf (ps : List PieceD) (A : Option Addr) (c : Nat) (w : World) (h : Pieces w A ps) (hl : ps.length ≤ 9223372036854775807) (hc : ps.length ≤ c) (hcm : c ≤ 9223372036854775807) :
    Calls Tryd.prog 26 #[.slice A ps.length c] w fun e w' => e = .returned (.tuple #[.int .i64 (needP ps).1, .int .i64 (needP ps).2.1, .bool (needP ps).2.2]) ∧ Below w.heap.size w w' := by
  by_cases hv : piecesB ps = true
  · obtain ⟨h24, ho, hg⟩ := piecesB_good hv
    have HF : Hid (needP ps = (sumP false ps 0, openP false ps 0, true)) := Lib.hid (by rw [needP, if_pos hv, openP_part false ps.length ps (Nat.le_refl _) ho])
    have HG := Lib.hid hg; clear hg ho
    go_enter Tryd.func26, Tryd.ntmps26
    go_wp2_with (fail)
    refine (impl_ValidPieces _ _ _ _ h hl hc hcm).mono ?_; rintro e w2 ⟨rfl, b2⟩
    rw [hv]
    go_wp2_with (fail)
    refine (impl_measure (ps.length + 1) _ (Nat.le_refl _) ps A c 0 _ (by omega) (by omega) hc hcm (h.below b2) HG.out).mono ?_; rintro e w3 ⟨rfl, b3⟩
    have z2 := b2.size
    have hbw : Below w.heap.size w w3 := b2.trans (b3.mono (by omega))
    go_wp2_with (fail)
    refine bodyPost_ret (v := .tuple #[.int .i64 (needP ps).1, .int .i64 (needP ps).2.1, .bool (needP ps).2.2]) (by rw [HF.out]; simp [results, Tryd.results26, go_sem]) rfl ⟨rfl, hbw⟩
  · have hv' : piecesB ps = false := by simpa using hv
    have HF : Hid (needP ps = (0, 0, false)) := Lib.hid (by rw [needP, if_neg hv])
    clear hv
    go_enter Tryd.func26, Tryd.ntmps26
    go_wp2_with (fail)
    refine (impl_ValidPieces _ _ _ _ h hl hc hcm).mono ?_; rintro e w2 ⟨rfl, b2⟩
    rw [hv']
    go_wp2_with (fail)
    refine bodyPost_ret (v := .tuple #[.int .i64 (needP ps).1, .int .i64 (needP ps).2.1, .bool (needP ps).2.2]) (by rw [HF.out]; simp [results, Tryd.results26, go_sem]) rfl ⟨rfl, b2⟩

end Go.Proofs.YtcgbogofmdjddaaDoor
