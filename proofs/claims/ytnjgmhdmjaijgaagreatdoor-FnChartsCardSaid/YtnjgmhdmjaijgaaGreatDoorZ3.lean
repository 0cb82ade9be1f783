/- Steps of the proof, joined from several texts: O2 SK O5 Q SP Ap PK CC SC SM RL RK. -/
import Derived.Test.YtnjgmhdmjaijgaaGreatDoorZ1
import Derived.Test.YtnjgmhdmjaijgaaGreatDoorZ2
import Derived.Deep.Fields
import Derived.Shelf.Strings.Split
import Derived.HandedShaped
import Derived.Shelf.Vars
import Derived.Maps.AppendAt
import Derived.OwnWalk
import Derived.BigGuard
import Derived.BigCall
import Derived.BigQuiet

/- Arguments of the laws, opened: slices of slices, of rows, of pieces. -/
namespace Go.Proofs.YtnjgmhdmjaijgaaGreatDoor
open Go.ChangeShapes Go.WideShapes Go.ChangeAt Go.RowKit
open Go.ChangeMaps (open_string shut_string)

section
variable {H : Type} {enc : TypeId × Value → H} {W : World} {base : Nat} {v : Value} {d : DataW H} {p : List MemPlace} {fuel : Nat} {cs : List Value} {x : DataW H × List MemPlace} {b0 : Nat}

theorem collect {α : Type} {P : Nat → α → Prop} (n : Nat) (h : ∀ i, i < n → ∃ x, P i x) : ∃ l : List α, l.length = n ∧ ∀ i x, l[i]? = some x → P i x := by
  induction n with
  | zero => exact ⟨[], rfl, fun i x h => by simp at h⟩
  | succ n ih =>
    obtain ⟨l, h1, h2⟩ := ih fun i hi => h i (by omega)
    obtain ⟨x, hx⟩ := h n (by omega)
    refine ⟨l ++ [x], by simp [h1], fun i y hy => ?_⟩
    by_cases hi' : i < n
    · exact h2 i y (by rw [List.getElem?_append_left (by omega)] at hy; exact hy)
    · rw [List.getElem?_append_right (by omega), h1] at hy
      obtain rfl : i = n := by
        have := (List.getElem?_eq_some_iff.1 hy).1
        simp at this; omega
      simp at hy
      subst hy
      exact hx

/-- A slice that came in: the cells of each element, and their reading. -/
theorem slice_rows {t e : TypeId} {sz : Nat} (ht : Tryz.prog.underlying t = some (.slice e)) (hC : Tryz.prog.cellsOf e = sz) (hsz : 0 < sz) (h : DataW.trod enc Tryz.prog W b0 (fun _ => true) true fuel t cs = some x) :
    ∃ A len cap n, cs = [.slice A len cap] ∧ len ≤ 9223372036854775807 ∧ ∀ i, i < len → ∃ b off cs' y, A = some ⟨b, off, none⟩ ∧ cs'.length = sz ∧ (∀ j, j < sz → W.cell? ⟨b, off + i * sz + j, none⟩ = cs'[j]?) ∧ DataW.trod enc Tryz.prog W b0 (fun _ => true) true n e cs' = some y := by
  rcases Go.Deep.open_slice ht h with ⟨hcs, _⟩ | ⟨a, len, cap, m, n, D, Pl, hcs, _, hl, hm, hmm, _, hi⟩
  · exact ⟨none, 0, 0, 0, hcs, Nat.zero_le _, fun i hi => absurd hi (Nat.not_lt_zero _)⟩
  · simp only [if_true] at hmm
    rw [hC] at hi
    refine ⟨some a, len, cap, n, hcs, by unfold maxLen at hm; omega, fun i hil => ?_⟩
    obtain ⟨cs', hc, ht⟩ := hi i (by omega)
    obtain ⟨_, hcl, hat⟩ := World.cells?_some hc
    obtain ⟨cs0, hc0, _⟩ := hi 0 (by omega)
    obtain ⟨_, hcl0, hat0⟩ := World.cells?_some hc0
    have h00 := hat0 0 (by omega)
    rw [List.getElem?_eq_getElem (by omega)] at h00
    have ha : a = ⟨a.block, a.off, none⟩ := addr_of_cell (w := W) (v := cs0[0]'(by omega)) (by simpa [Addr.add] using h00)
    refine ⟨a.block, a.off, cs', _, by rw [← ha], hcl, fun j hj => ?_, ht⟩
    have := hat j hj
    rw [ha, add_form, add_form] at this
    exact this

theorem trod_ints2 (h : DataW.trod enc Tryz.prog W b0 (fun _ => true) true fuel 37 cs = some x) :
    ∃ A c xss, cs = [.slice A xss.length c] ∧ Ints2 W A xss ∧ xss.length ≤ 9223372036854775807 := by
  obtain ⟨A, len, cap, n, rfl, hl, hi⟩ := slice_rows Tryz.underlying37 (sz := 1) (by kernel_rfl) (by decide) h
  obtain ⟨xss, rfl, hx⟩ := collect (P := fun i (xs : List Int) => ∃ b off A' c', A = some ⟨b, off, none⟩ ∧ W.cell? ⟨b, off + i, none⟩ = some (.slice A' xs.length c') ∧ Ints W A' xs ∧ xs.length ≤ 9223372036854775807) len fun i hil => by
    obtain ⟨b, off, cs', y, rfl, hcl, hat, ht⟩ := hi i hil
    obtain ⟨A', c', xs, rfl, h1, h2⟩ := trod_ints ht
    exact ⟨xs, b, off, A', c', rfl, by simpa using hat 0 (by decide), h1, h2⟩
  refine ⟨A, cap, xss, rfl, fun k hk => ?_, hl⟩
  obtain ⟨b, off, A', c', h1, h2, h3, h4⟩ := hx k _ (List.getElem?_eq_getElem hk)
  exact ⟨b, off, A', c', xss[k], h1, List.getElem?_eq_getElem hk, h2, h3, h4⟩

end

end Go.Proofs.YtnjgmhdmjaijgaaGreatDoor

/- Contracts of the library, laid. -/
namespace Go.Proofs.YtnjgmhdmjaijgaaGreatDoor
open Go Go.RowKit

abbrev SK_cell : Addr := ⟨0, 0, none⟩
def shelf_lays146_ren : Go.Shelf.Ren := ⟨fun | 146 => 23 | 221 => 46 | 268 => 74 | 138 => 75 | 143 => 76 | 195 => 102 | 197 => 103 | 218 => 104 | 219 => 105 | 260 => 125 | 217 => 126 | 225 => 127 | 224 => 128 | 267 => 129 | 266 => 139 | 314 => 140 | n => n, fun | 9 => 9 | 31 => 46 | 3 => 3 | 4 => 4 | 0 => 0 | 105 => 119 | 21 => 21 | 5 => 5 | 46 => 110 | 119 => 148 | 139 => 151 | 138 => 150 | 146 => 130 | 51 => 129 | n => n, fun | 1 => 0 | 3 => 3 | 4 => 4 | n => n⟩
theorem shelf_lays146 : Go.Proofs.Lays.n146 Tryz.prog shelf_lays146_ren := {
  mixed := by kernel_rfl
  f138 := Tryz.func75.trans (congrArg some (by kernel_rfl))
  f143 := Tryz.func76.trans (congrArg some (by kernel_rfl))
  f146 := Tryz.func23.trans (congrArg some (by kernel_rfl))
  f195 := Tryz.func102.trans (congrArg some (by kernel_rfl))
  f197 := Tryz.func103.trans (congrArg some (by kernel_rfl))
  f217 := Tryz.func126.trans (congrArg some (by kernel_rfl))
  f218 := Tryz.func104.trans (congrArg some (by kernel_rfl))
  f219 := Tryz.func105.trans (congrArg some (by kernel_rfl))
  f221 := Tryz.func46.trans (congrArg some (by kernel_rfl))
  f224 := Tryz.func128.trans (congrArg some (by kernel_rfl))
  f225 := Tryz.func127.trans (congrArg some (by kernel_rfl))
  f260 := Tryz.func125.trans (congrArg some (by kernel_rfl))
  f266 := Tryz.func139.trans (congrArg some (by kernel_rfl))
  f267 := Tryz.func129.trans (congrArg some (by kernel_rfl))
  f268 := Tryz.func74.trans (congrArg some (by kernel_rfl))
  f314 := Tryz.func140.trans (congrArg some (by kernel_rfl))
  t0 := Tryz.underlying0
  a0 := Tryz.isAgg0
  z0 := Tryz.sizeOf0
  v0 := Tryz.zeroValue0
  t3 := Tryz.underlying3
  a3 := Tryz.isAgg3
  z3 := Tryz.sizeOf3
  v3 := Tryz.zeroValue3
  t4 := Tryz.underlying4
  a4 := Tryz.isAgg4
  z4 := Tryz.sizeOf4
  v4 := Tryz.zeroValue4
  t5 := Tryz.underlying5
  a5 := Tryz.isAgg5
  z5 := Tryz.sizeOf5
  v5 := Tryz.zeroValue5
  t9 := Tryz.underlying9
  a9 := Tryz.isAgg9
  z9 := Tryz.sizeOf9
  v9 := Tryz.zeroValue9
  t21 := Tryz.underlying21
  a21 := Tryz.isAgg21
  z21 := Tryz.sizeOf21
  v21 := Tryz.zeroValue21
  t31 := Tryz.underlying46
  a31 := Tryz.isAgg46
  z31 := Tryz.sizeOf46
  v31 := Tryz.zeroValue46
  t46 := Tryz.underlying110
  a46 := Tryz.isAgg110
  z46 := Tryz.sizeOf110
  v46 := Tryz.zeroValue110
  t51 := Tryz.underlying129
  a51 := Tryz.isAgg129
  z51 := Tryz.sizeOf129
  v51 := Tryz.zeroValue129
  t105 := Tryz.underlying119
  a105 := Tryz.isAgg119
  z105 := Tryz.sizeOf119
  v105 := Tryz.zeroValue119
  t119 := Tryz.underlying148
  a119 := Tryz.isAgg148
  z119 := Tryz.sizeOf148
  t138 := Tryz.underlying150
  a138 := Tryz.isAgg150
  z138 := Tryz.sizeOf150
  v138 := Tryz.zeroValue150
  t139 := Tryz.underlying151
  a139 := Tryz.isAgg151
  z139 := Tryz.sizeOf151
  v139 := Tryz.zeroValue151
  t146 := Tryz.underlying130
  a146 := Tryz.isAgg130
  z146 := Tryz.sizeOf130
  v146 := Tryz.zeroValue130
  g1 := by kernel_rfl
  g3 := by kernel_rfl
  g4 := by kernel_rfl }
theorem shelf_strings_Split (s sep : ByteArray) (m : Int) (w : World) (hs : s.size < 4294967281) (hm : w.cell? ⟨0, 0, none⟩ = some (.int .i64 m)) (h1 : 1 ≤ sep.size) :
    Calls Tryz.prog 23 #[.string s, .string sep] w fun e w' =>
      e = .returned (.slice (some ⟨w.heap.size, 0, none⟩) (Lib.countB s sep + 1) (Lib.countB s sep + 1)) ∧ w' = w.alloc (.cells ((Lib.splitB sep 0 (Lib.countB s sep) s).map Value.string).toArray 9) := Any.strings_Split shelf_lays146 (by kernel_rfl) s sep m w hs hm h1

end Go.Proofs.YtnjgmhdmjaijgaaGreatDoor

/- Doors: what a row hands its proof, the shape of the world among it. -/
namespace Go.Proofs.YtnjgmhdmjaijgaaGreatDoor
open Go Go.RowKit

section
variable {H : Type} {enc : TypeId × Value → H}
theorem handed_shaped_and {a : Assume} {C : Checked} {os : Os} {f : FuncId} {fn : Func} {s : ChangeSpec} {conds : List PathCond} {apart fresh handsOn again : Bool} {X : World → Array Value → Prop}
    (_hX : ∀ (w w' : World) (args : Array Value), w.heap = w'.heap → X w args → X w' args)
    (own : ownKnob C.prog.godebug = none) (started : os.Started) (noInit : C.prog.inits.idxOf? f = none) (hfn : C.prog.funcs[f]? = some fn)
    (witness : ∃ (w : World) (tape : Tape) (i : Input), w.os = os ∧ (w.forCall tape i).Shaped C.prog ∧ i.vars = [] ∧ Input.okWide C.prog (w.forCall tape i) .any w.heap.size f i ∧
      ((s.pre enc C.prog fn conds apart (w.forCall tape i).memory i.args ∧ X (w.forCall tape i).memory i.args) ∧ sizedMet enc C.prog fn (OpenSpec.ofChange s) apart (w.forCall tape i).memory i.args) ∧ a.holds C.prog (lone (Frame.enter C.prog f i.args .normal) [] (w.forCall tape i)))
    (contract : ∀ (W : World) (base : Nat) (args : Array Value) (ds gs : List (DataW H)) (before : List MemPlace),
      (∀ (j : Nat) t v, fn.params[j]? = some t → args[j]? = some v → Value.okWide C.prog W .any base t v) →
      DataW.Whole enc C.prog fn.params.toList s.vars apart W args.toList ds gs before →
      W.ShapedOpen C.prog →
      Calls C.prog f args W fun e W' => ∃ v, e = .returned v ∧ s.post enc C.prog fn apart fresh handsOn again W args v W') :
    ReturnsInHanded a C os f .any (fun w args => (s.pre enc C.prog fn conds apart w args ∧ X w args) ∧ sizedMet enc C.prog fn (OpenSpec.ofChange s) apart w args) (s.post enc C.prog fn apart fresh handsOn again) := by
  refine returnsInHanded_of_calls own started noInit witness ?_
  intro w tape i _ hsh _ hok hpre _
  obtain ⟨_, _, _, fn', hfn', _, _, _, _, hval⟩ := hok
  have e : fn' = fn := Option.some.inj (hfn'.symm.trans hfn)
  subst e
  obtain ⟨⟨⟨ds, gs, before, hw, hc⟩, hx⟩, hz⟩ := hpre
  have hw' := DataW.Whole.of_heap (w' := w.forCall tape i) (by rfl) hw
  refine (contract (w.forCall tape i) w.heap.size i.args ds gs before hval hw' hsh).mono fun e W' ⟨v, he, hp⟩ => ?_
  subst he
  exact ChangeSpec.post_blind hp
end
/-- The library's variable that strings.Split looks at holds some number. -/
theorem split_cell {W : World} (h : W.ShapedOpen Tryz.prog) : ∃ m, W.cell? SK_cell = some (.int .i64 m) :=
  cell_of_shapedOpen_int (g := SK_cell.block) (t := 3) (zero := #[.int .i64 0]) h (of_decide_eq_true (by kernel_rfl)) (by kernel_rfl) rfl (by kernel_rfl) (by kernel_rfl) Tryz.underlying3

end Go.Proofs.YtnjgmhdmjaijgaaGreatDoor

/- Calls of functions that change nothing, in regions that draw. -/
namespace Go.Proofs.YtnjgmhdmjaijgaaGreatDoor
open Go.RowKit

theorem quietS {P : Program} {f : FuncId} {args : Array Value} {w : World} {n : Nat} {v : Value}
    (h : Calls P f args (w.drewN n) fun e w' => e = .returned v ∧ w.drewN n = w') : Calls P f args (w.drewN n) fun e w'' => e = .returned v ∧ ∃ m, w'' = w.drewN m :=
  h.mono fun _ _ ⟨he, hm⟩ => ⟨he, n, hm.symm⟩

end Go.Proofs.YtnjgmhdmjaijgaaGreatDoor

/- Rows of stitches and stacks: the plain functions. -/
namespace Go.Proofs.YtnjgmhdmjaijgaaGreatDoor
open Go.RowKit

def takenN (k : Int) : Nat := ([1, 1, 0, 2, 2, 1, 1, 2, 2, 4, 4] : List Nat)[(k - 1).toNat]?.getD 0
def madeN (k : Int) : Nat := ([1, 1, 1, 1, 1, 1, 1, 2, 2, 4, 4] : List Nat)[(k - 1).toNat]?.getD 0
def takenB (k : Int) : Int := if isStitchB k then takenN k else -1
def madeB (k : Int) : Int := if isStitchB k then madeN k else -1
def takenS : List Int → Nat
  | [] => 0
  | k :: ks => takenN k + takenS ks
def madeS : List Int → Nat
  | [] => 0
  | k :: ks => madeN k + madeS ks
def takenP (ks : List Int) : Int := if stitchesB ks then takenS ks else -1
def madeP (ks : List Int) : Int := if stitchesB ks then madeS ks else -1
def st0 (st : List Int) : Int := st[0]?.getD 0
def st1 (st : List Int) : Int := st[1]?.getD 0
def stepMade (k : Int) (st : List Int) : List Int := if k = 6 then [wrap64 (st0 st + 1)] else if k = 7 then [st0 st] else List.replicate (madeN k) 1
def stepOk (k : Int) (st : List Int) : Bool := if k = 6 then decide (st0 st < 4) else if k = 4 ∨ k = 5 then decide (st0 st + st1 st ≤ 4) else true
def stepThick (k : Int) (st : List Int) : Bool := decide (k = 4 ∨ k = 5) && decide (4 < st0 st + st1 st)
def afterP : List Int → List Int → List Int
  | [], _ => []
  | k :: ks, st => stepMade k st ++ afterP ks (st.drop (takenN k))
def okAfter : List Int → List Int → Bool
  | [], _ => true
  | k :: ks, st => stepOk k st && okAfter ks (st.drop (takenN k))
def thickP : List Int → List Int → Bool
  | [], _ => false
  | k :: ks, st => stepThick k st || thickP ks (st.drop (takenN k))
def stacksAfterP (st ks : List Int) : List Int × Int :=
  if stacksB st && stitchesB ks then (if takenS ks = st.length then (if okAfter ks st && decide ((afterP ks st).length ≤ 8) then (afterP ks st, 0) else ([], 5)) else ([], 10)) else ([], 1)

theorem takenS_append (a b : List Int) : takenS (a ++ b) = takenS a + takenS b := by
  induction a with
  | nil => simp [takenS]
  | cons x r ih => simp [takenS, ih]; omega
theorem madeS_append (a b : List Int) : madeS (a ++ b) = madeS a + madeS b := by
  induction a with
  | nil => simp [madeS]
  | cons x r ih => simp [madeS, ih]; omega
theorem takenS_snoc {ks : List Int} {i : Nat} {k : Int} (h : ks[i]? = some k) : takenS (ks.take (i + 1)) = takenS (ks.take i) + takenN k := by
  rw [take_snoc h, takenS_append]; simp [takenS]
theorem madeS_snoc {ks : List Int} {i : Nat} {k : Int} (h : ks[i]? = some k) : madeS (ks.take (i + 1)) = madeS (ks.take i) + madeN k := by
  rw [take_snoc h, madeS_append]; simp [madeS]
theorem takenS_take_le (ks : List Int) (i : Nat) : takenS (ks.take i) ≤ takenS ks := by
  have := takenS_append (ks.take i) (ks.drop i)
  rw [List.take_append_drop] at this
  omega
theorem takenS_at {ks : List Int} {i : Nat} {k : Int} (h : ks[i]? = some k) : takenS (ks.take i) + takenN k ≤ takenS ks := by
  rw [← takenS_snoc h]; exact takenS_take_le _ _
theorem stitch_cases {k : Int} (h : isStitchB k = true) : k = 1 ∨ k = 2 ∨ k = 3 ∨ k = 4 ∨ k = 5 ∨ k = 6 ∨ k = 7 ∨ k = 8 ∨ k = 9 ∨ k = 10 ∨ k = 11 := by
  obtain ⟨h1, h2⟩ := inR_iff.1 h
  omega
theorem takenN_le (k : Int) (h : isStitchB k = true) : takenN k ≤ 4 ∧ madeN k ≤ 4 ∧ 1 ≤ madeN k := by
  rcases stitch_cases h with rfl | rfl | rfl | rfl | rfl | rfl | rfl | rfl | rfl | rfl | rfl <;> decide
theorem stitchesB_of {ks : List Int} (h : stitchesB ks = true) : ks.length ≤ 16 ∧ ∀ k ∈ ks, isStitchB k = true := by
  unfold stitchesB at h
  simp only [Bool.and_eq_true, List.all_eq_true, decide_eq_true_eq] at h
  exact ⟨h.2, h.1⟩
theorem sums_le {ks : List Int} (h : ∀ k ∈ ks, isStitchB k = true) : takenS ks ≤ 4 * ks.length ∧ madeS ks ≤ 4 * ks.length := by
  induction ks with
  | nil => simp [takenS, madeS]
  | cons k ks ih =>
    have h1 := takenN_le k (h k (by simp))
    have h2 := ih fun x hx => h x (by simp [hx])
    simp [takenS, madeS]
    omega
theorem afterP_length_le {ks : List Int} (h : ∀ k ∈ ks, isStitchB k = true) (st : List Int) : (afterP ks st).length ≤ 4 * ks.length := by
  induction ks generalizing st with
  | nil => simp [afterP]
  | cons k ks ih =>
    have h1 := takenN_le k (h k (by simp))
    have h2 := ih (fun x hx => h x (by simp [hx])) (st.drop (takenN k))
    have h3 : (stepMade k st).length ≤ 4 := by
      unfold stepMade
      split
      · simp
      · split
        · simp
        · simp; omega
    simp [afterP]
    omega
theorem decide_lt_le (a b : Int) : decide (a < b) = !decide (b ≤ a) := by
  apply Bool.eq_iff_iff.2; simp
theorem stacks_after {ks : List Int} (h : ∀ k ∈ ks, isStitchB k = true) (st : List Int) (hs : ∀ x ∈ st, inR x 1 4 = true) (hl : takenS ks ≤ st.length) :
    ((afterP ks st).all (inR · 1 4) && !thickP ks st) = okAfter ks st := by
  induction ks generalizing st with
  | nil => rfl
  | cons k ks ih =>
    simp only [takenS] at hl
    have ih' := ih (fun x hx => h x (by simp [hx])) (st.drop (takenN k)) (fun x hx => hs x (List.mem_of_mem_drop hx)) (by rw [List.length_drop]; omega)
    have hk := h k (by simp)
    have key : ((stepMade k st).all (inR · 1 4) && !stepThick k st) = stepOk k st := by
      have at0 : 1 ≤ takenN k → 1 ≤ st0 st ∧ st0 st ≤ 4 := by
        intro h1
        have : 0 < st.length := by omega
        have e : st[0]? = some st[0] := List.getElem?_eq_getElem this
        have := inR_iff.1 (hs _ (List.mem_of_getElem? e))
        unfold st0
        rw [e]
        exact this
      rcases stitch_cases hk with rfl | rfl | rfl | rfl | rfl | rfl | rfl | rfl | rfl | rfl | rfl
      case inr.inr.inr.inr.inr.inl =>
        obtain ⟨h1, h2⟩ := at0 (by decide)
        have hw : wrap64 (st0 st + 1) = st0 st + 1 := IntWalk.wrap64_in _ ⟨by omega, by omega⟩
        simp [stepMade, stepThick, stepOk, hw, inR]
        apply Bool.eq_iff_iff.2
        simp
        omega
      case inr.inr.inr.inr.inr.inr.inl =>
        obtain ⟨h1, h2⟩ := at0 (by decide)
        simp [stepMade, stepThick, stepOk, inR, h1, h2]
      case inr.inr.inr.inl =>
        simp [stepMade, stepThick, stepOk, inR, madeN]
        exact decide_lt_le _ _
      case inr.inr.inr.inr.inl =>
        simp [stepMade, stepThick, stepOk, inR, madeN]
        exact decide_lt_le _ _
      all_goals simp [stepMade, stepThick, stepOk, inR, madeN]
    rw [afterP, okAfter, thickP, List.all_append, ← ih', ← key]
    cases (stepMade k st).all (inR · 1 4) <;> cases stepThick k st <;> cases (afterP ks (st.drop (takenN k))).all (inR · 1 4) <;> cases thickP ks (st.drop (takenN k)) <;> rfl
theorem stacksB_of {st : List Int} (h : stacksB st = true) : st.length ≤ 8 ∧ ∀ x ∈ st, inR x 1 4 = true := by
  unfold stacksB at h
  simp only [Bool.and_eq_true, List.all_eq_true, decide_eq_true_eq] at h
  exact ⟨h.2, h.1⟩
theorem stacksAfterP_spec {st ks : List Int} (h1 : stacksB st = true) (h2 : stitchesB ks = true) (h3 : takenS ks = st.length) :
    stacksAfterP st ks = if stacksB (afterP ks st) && !thickP ks st then (afterP ks st, 0) else ([], 5) := by
  have h := stacks_after (stitchesB_of h2).2 st (stacksB_of h1).2 (by omega)
  unfold stacksAfterP
  rw [h1, h2]
  simp only [Bool.and_true, if_true, h3]
  rw [← h]
  have : (stacksB (afterP ks st) && !thickP ks st) = (((afterP ks st).all (inR · 1 4) && !thickP ks st) && decide ((afterP ks st).length ≤ 8)) := by
    unfold stacksB
    cases (afterP ks st).all (inR · 1 4) <;> cases thickP ks st <;> simp
  rw [this]
theorem stacksAfterP_length (st ks : List Int) : (stacksAfterP st ks).1.length ≤ 8 := by
  unfold stacksAfterP
  split
  · split
    · split
      · rename_i h
        simp only [Bool.and_eq_true, decide_eq_true_eq] at h
        exact h.2
      · simp
    · simp
  · simp
theorem takenB_of {k : Int} (h : isStitchB k = true) : takenB k = takenN k := by rw [takenB, if_pos h]
theorem madeB_of {k : Int} (h : isStitchB k = true) : madeB k = madeN k := by rw [madeB, if_pos h]
/-- The letters of a stitch on columns from c on. -/
def stLetters (k c : Int) : List Int :=
  if k = 8 then [c + 1] else if k = 9 ∨ k = 5 then [-c - 1] else if k = 10 then [c + 2, c + 1, c + 3, c + 2] else if k = 11 then [-c - 2, -c - 1, -c - 3, -c - 2] else []
def lettersFrom : List Int → Int → List Int
  | [], _ => []
  | k :: ks, c => stLetters k c ++ lettersFrom ks (c + takenN k)
def laidB (ks : List Int) : Bool := inR (takenP ks) 1 8 && inR (madeP ks) 1 8
def rowCodeP (d r : Int) (ks : List Int) : Int := if rowB d r ks then (if laidB ks then 0 else 10) else 1
def rowLettersP (d r : Int) (ks : List Int) : List Int := if rowCodeP d r ks = 0 then lettersFrom ks 0 else []
theorem stLetters_length (k c : Int) : (stLetters k c).length ≤ 4 := by
  unfold stLetters
  split <;> (try split) <;> (try split) <;> (try split) <;> simp
theorem lettersFrom_length (ks : List Int) (c : Int) : (lettersFrom ks c).length ≤ 4 * ks.length := by
  induction ks generalizing c with
  | nil => simp [lettersFrom]
  | cons k ks ih =>
    have := ih (c + takenN k)
    have := stLetters_length k c
    simp [lettersFrom]
    omega
theorem rowLettersP_length (d r : Int) (ks : List Int) : (rowLettersP d r ks).length ≤ 64 := by
  unfold rowLettersP
  split
  · rename_i h
    have hs : stitchesB ks = true := by
      by_cases e : rowB d r ks = true
      · unfold rowB at e; simp only [Bool.and_eq_true] at e; exact e.2
      · rw [rowCodeP, if_neg e] at h; simp at h
    have := (stitchesB_of hs).1
    have := lettersFrom_length ks 0
    omega
  · simp

end Go.Proofs.YtnjgmhdmjaijgaaGreatDoor

/- append to a slice of the call's own. -/
namespace Go.Proofs.YtnjgmhdmjaijgaaGreatDoor
open Go.RowKit

theorem OwnC.of_own' {w : World} {lo : Nat} {e : TypeId} {sz n : Nat} {v : Value} {cs : List Value} (h : w.ownsRow lo e sz v n cs) : ∃ A c, v = .slice A n c ∧ OwnC w lo w.heap.size e sz A n c cs := by
  rcases h.2 with ⟨rfl, rfl⟩ | ⟨g, cap, cur, rfl, _⟩
  · exact ⟨none, 0, rfl, OwnC.of_own h (Nat.le_refl _)⟩
  · exact ⟨some ⟨g, 0, none⟩, cap, rfl, OwnC.of_own h (Nat.le_refl _)⟩
theorem grown_below {w w' : World} {lo hi : Nat} {e : TypeId} {sz n c : Nat} {A : Option Addr} {cs : List Value} (h : OwnC w lo hi e sz A n c cs) (hlo : lo ≤ w.heap.size) (hg : w.grownBy w' (Value.slice A n c).ownBlock) : Below lo w w' :=
  (Below.refl lo w).grown hg hlo fun k hk => (h.own.lt k hk).1

/-- append of some cells that stand in memory. -/
theorem wp_appendC {P : Program} (w : World) {o : Oper} {a : Act} {K : Act → World → Prop} {Q : Exit → Act → World → Prop} (s x : Operand) (t : TypeId)
    (hop : o.op = .call { callee := .builtin .append, args := #[s, x], argTypes := #[t, t] })
    (e : TypeId) (i : TypeInfo) (z : Value) (size bytes : Nat) (ht : P.underlying t = some (.slice e)) (hi : P.info? e = some i) (hz : i.zero = some z)
    (hsize : i.size = size) (hby : i.bytes = bytes) (hzs : z.cells.size = size) (hsz : 0 < size)
    {lo hi' n c : Nat} {A : Option Addr} {cs : List Value} (hs : a.eval s = .slice A n c) (hown : OwnC w lo hi' e size A n c cs) (hlo : lo ≤ w.heap.size)
    (A2 : Option Addr) (m c2 : Nat) (news : List Value) (hx : a.eval x = .slice A2 m c2) (hl : news.length = m * size)
    (hnews : ∀ j u, news[j]? = some u → ∃ b off, A2 = some ⟨b, off, none⟩ ∧ w.cell? ⟨b, off + j, none⟩ = some u) (h1 : ∀ u ∈ news, u.oneCell' = true)
    (h63 : n + m ≤ maxLen) (hbytes : (n + m) * bytes ≤ 140737488355328)
    (h : ∀ A' c' w', OwnC w' lo w'.heap.size e size A' (n + m) c' (cs ++ news) → w.grownBy w' (Value.slice A n c).ownBlock → Below lo w w' → K (a.put o.dst (.slice A' (n + m) c')) w') : o.wp P a w K Q := by
  cases A2 with
  | none =>
    have hn : news = [] := by
      cases news with
      | nil => rfl
      | cons u r => obtain ⟨_, _, h, _⟩ := hnews 0 u rfl; cases h
    subst hn
    have hm : m = 0 := by
      rcases Nat.eq_zero_or_pos m with h | h
      · exact h
      · have := Nat.mul_pos h hsz
        rw [← hl] at this
        simp at this
    subst hm
    have hr : (Builtin.append_ #[t, t] o.type #[.slice A n c, .slice none 0 c2]).run P w = .ok (.slice A n c) w := by
      rcases hown.form with ⟨rfl, rfl, rfl, _⟩ | ⟨g, cur, rfl, _, _, _, hnc, _⟩
      · simp [Builtin.append_, run_underlying ht, sizeOf, typeInfo, hi, Builtin.lenOf, Builtin.firstCells]
      · simp [Builtin.append_, run_underlying ht, sizeOf, typeInfo, hi, Builtin.lenOf, Builtin.firstCells, hnc, storeCells]
    unfold Oper.wp execOp
    simp only [hop, resolve, invoke, builtin, Sem.run_bind, Sem.run_pure, Result.andThen_ok, List.map_toArray, List.map_cons, List.map_nil, hs, hx, hr]
    have := h A c w (by simpa using (OwnC.of_own hown.own (Nat.le_refl _))) (World.grownBy.refl w _) (Below.refl _ _)
    have h2 : K (a.put o.dst (.slice A n c)) w := by simpa using this
    exact h2
  | some ad =>
    refine wp_append_own w s x t hop lo e i z size bytes ht hi hz hsize hby hzs hsz (.slice A n c) n cs hs hown.own ad m c2 news hx hl ?_ h1 h63 hbytes hlo fun v' w' h2 h3 _ => ?_
    · intro j u hu
      obtain ⟨b, off, he, hc⟩ := hnews j u hu
      injection he with he
      subst he
      unfold Addr.add
      split
      · subst_vars; simpa using hc
      · exact hc
    · obtain ⟨A', c', rfl, h4⟩ := OwnC.of_own' h2
      exact h A' c' w' h4 h3 (grown_below hown hlo h3)

theorem wpList_appendC {P : Program} (w : World) {ops : Array Oper} {rest : List Oper} {o : Oper} {a : Act} {Q : Exit → Act → World → Prop} (hgd : o.guard = none) (s x : Operand) (t : TypeId)
    (hop : o.op = .call { callee := .builtin .append, args := #[s, x], argTypes := #[t, t] })
    (e : TypeId) (i : TypeInfo) (z : Value) (size bytes : Nat) (ht : P.underlying t = some (.slice e)) (hi : P.info? e = some i) (hz : i.zero = some z)
    (hsize : i.size = size) (hby : i.bytes = bytes) (hzs : z.cells.size = size) (hsz : 0 < size)
    {lo hi' n c : Nat} {A : Option Addr} {cs : List Value} (hs : a.eval s = .slice A n c) (hown : OwnC w lo hi' e size A n c cs) (hlo : lo ≤ w.heap.size)
    (A2 : Option Addr) (m c2 : Nat) (news : List Value) (hx : a.eval x = .slice A2 m c2) (hl : news.length = m * size)
    (hnews : ∀ j u, news[j]? = some u → ∃ b off, A2 = some ⟨b, off, none⟩ ∧ w.cell? ⟨b, off + j, none⟩ = some u) (h1 : ∀ u ∈ news, u.oneCell' = true)
    (h63 : n + m ≤ maxLen) (hbytes : (n + m) * bytes ≤ 140737488355328)
    (h : ∀ A' c' w', OwnC w' lo w'.heap.size e size A' (n + m) c' (cs ++ news) → w.grownBy w' (Value.slice A n c).ownBlock → Below lo w w' → wpList P ops Q rest (a.put o.dst (.slice A' (n + m) c')) w') : wpList P ops Q (o :: rest) a w :=
  wpList_plain hgd fun _ hK => wp_appendC w s x t hop e i z size bytes ht hi hz hsize hby hzs hsz hs hown hlo A2 m c2 news hx hl hnews h1 h63 hbytes fun A' c' w' h2 h3 h4 => hK _ _ (h A' c' w' h2 h3 h4)

/-- append of one element: its cells stand in the newest block. -/
theorem wpList_append1 {P : Program} (w : World) (u : List Value) (te : TypeId) {ops : Array Oper} {rest : List Oper} {o : Oper} {a : Act} {Q : Exit → Act → World → Prop} (hgd : o.guard = none) (s x : Operand) (t : TypeId)
    (hop : o.op = .call { callee := .builtin .append, args := #[s, x], argTypes := #[t, t] })
    (e : TypeId) (i : TypeInfo) (z : Value) (size bytes : Nat) (ht : P.underlying t = some (.slice e)) (hi : P.info? e = some i) (hz : i.zero = some z)
    (hsize : i.size = size) (hby : i.bytes = bytes) (hzs : z.cells.size = size) (hsz : 0 < size)
    {lo hi' n c : Nat} {A : Option Addr} {cs : List Value} (hs : a.eval s = .slice A n c) (hown : OwnC w lo hi' e size A n c cs) (hlo : lo ≤ w.heap.size)
    (c2 : Nat) (hx : a.eval x = .slice (some ⟨w.heap.size, 0, none⟩) 1 c2) (hl : u.length = size) (h1 : ∀ v ∈ u, v.oneCell' = true)
    (hn : n ≤ 1000000000000) (hb : bytes ≤ 100)
    (h : ∀ A' c' w', OwnC w' lo w'.heap.size e size A' (n + 1) c' (cs ++ u) → (w.alloc (.cells u.toArray te)).grownBy w' (Value.slice A n c).ownBlock → Below lo w w' → w.heap.size < w'.heap.size → wpList P ops Q rest (a.put o.dst (.slice A' (n + 1) c')) w') : wpList P ops Q (o :: rest) a (w.alloc (.cells u.toArray te)) := by
  refine wpList_appendC _ hgd s x t hop e i z size bytes ht hi hz hsize hby hzs hsz hs (hown.alloc _) (by simp; omega) (some ⟨w.heap.size, 0, none⟩) 1 c2 u hx (by omega) ?_ h1 (by unfold maxLen; omega) ?_ fun A' c' w' h2 h3 h4 => ?_
  · intro j v hv
    refine ⟨w.heap.size, 0, rfl, ?_⟩
    have := World.cell?_alloc_new w u.toArray te (0 + j)
    rw [this]
    simpa using hv
  · have : (n + 1) * bytes ≤ (n + 1) * 100 := Nat.mul_le_mul_left _ hb
    omega
  · have hz := h3.size
    simp only [World.size_alloc] at hz
    exact h A' c' w' h2 h3 (Below.trans ((Below.refl _ _).alloc hlo _) h4) (by omega)
theorem OwnC.lit {w : World} {lo n : Nat} (e : TypeId) (size : Nat) (cs : Array Value) (hlo : lo ≤ w.heap.size) (hn : n ≤ maxLen) (hs : cs.size = n * size) :
    OwnC (w.alloc (.cells cs e)) lo (w.heap.size + 1) e size (some ⟨w.heap.size, 0, none⟩) n n cs.toList :=
  ⟨World.ownsRow_lit w cs n hlo hn hs, fun a h => by injection h with h; subst h; exact Nat.lt_succ_self _⟩

end Go.Proofs.YtnjgmhdmjaijgaaGreatDoor

/- Letters of braids: the plain functions; a slice of slices whose last one grows. -/
namespace Go.Proofs.YtnjgmhdmjaijgaaGreatDoor
open Go.RowKit

def absI (x : Int) : Int := if x < 0 then -x else x
def letterB (n x : Int) : Bool := decide (x ≠ 0) && inR x (1 - n) (n - 1)
def lettersB (n : Int) (xs : List Int) : Bool := xs.all (letterB n)
def braidB (n : Int) (xs : List Int) : Bool := inR n 0 12 && decide (xs.length ≤ 40) && lettersB n xs
def touchB (a b : Int) : Bool := inR (absI a - absI b) (-1) 1
def touchAny (xs : List Int) (x : Int) : Bool := xs.any fun y => touchB y x
/-- All groups but the last, and the last. -/
def packStep (s : List (List Int) × List Int) (x : Int) : List (List Int) × List Int := if touchAny s.2 x then (s.1 ++ [s.2], [x]) else (s.1, s.2 ++ [x])
def packFrom (s : List (List Int) × List Int) (xs : List Int) : List (List Int) × List Int := xs.foldl packStep s
def pack : List Int → List (List Int)
  | [] => []
  | x :: xs => (packFrom ([], [x]) xs).1 ++ [(packFrom ([], [x]) xs).2]
def packP (n : Int) (xs : List Int) : List (List Int) := if braidB n xs then pack xs else []

def packS : List Int → Option (List (List Int) × List Int)
  | [] => none
  | x :: xs => some (packFrom ([], [x]) xs)
theorem touchB_comm (a b : Int) : touchB a b = touchB b a := by
  unfold touchB inR
  apply Bool.eq_iff_iff.2
  simp only [Bool.and_eq_true, decide_eq_true_eq]
  omega
theorem packFrom_snoc (s : List (List Int) × List Int) (xs : List Int) (x : Int) : packFrom s (xs ++ [x]) = packStep (packFrom s xs) x := by simp [packFrom]
theorem packS_none {xs : List Int} {x : Int} (h : packS xs = none) : packS (xs ++ [x]) = some ([], [x]) := by
  cases xs with
  | nil => rfl
  | cons y ys => cases h
theorem packS_some {xs : List Int} {x : Int} {s : List (List Int) × List Int} (h : packS xs = some s) : packS (xs ++ [x]) = some (packStep s x) := by
  cases xs with
  | nil => cases h
  | cons y ys =>
    injection h with h
    rw [List.cons_append, packS, packFrom_snoc, h]
theorem pack_of_none {xs : List Int} (h : packS xs = none) : pack xs = [] := by
  cases xs with
  | nil => rfl
  | cons y ys => cases h
theorem pack_of_some {xs : List Int} {a : List (List Int)} {l : List Int} (h : packS xs = some (a, l)) : pack xs = a ++ [l] := by
  cases xs with
  | nil => cases h
  | cons y ys =>
    injection h with h
    rw [pack, h]
theorem packFrom_cnt (s : List (List Int) × List Int) (xs : List Int) : cntII (packFrom s xs).1 + (packFrom s xs).2.length = cntII s.1 + s.2.length + xs.length := by
  induction xs generalizing s with
  | nil => rfl
  | cons x xs ih =>
    have h := ih (packStep s x)
    have e : packFrom s (x :: xs) = packFrom (packStep s x) xs := rfl
    rw [e, h]
    unfold packStep
    split
    · simp [cntII_append, cntII]; omega
    · simp; omega
theorem packFrom_len (s : List (List Int) × List Int) (xs : List Int) : (packFrom s xs).1.length ≤ s.1.length + xs.length := by
  induction xs generalizing s with
  | nil => simp [packFrom]
  | cons x xs ih =>
    have h := ih (packStep s x)
    have e : packFrom s (x :: xs) = packFrom (packStep s x) xs := rfl
    rw [e]
    have : (packStep s x).1.length ≤ s.1.length + 1 := by unfold packStep; split <;> simp
    simp only [List.length_cons]
    omega
theorem packS_len {xs : List Int} {a : List (List Int)} {l : List Int} (h : packS xs = some (a, l)) : a.length ≤ xs.length ∧ l.length ≤ xs.length := by
  cases xs with
  | nil => cases h
  | cons y ys =>
    injection h with h
    have h1 := packFrom_len ([], [y]) ys
    have h2 := packFrom_cnt ([], [y]) ys
    rw [h] at h1 h2
    simp [cntII] at h1 h2
    simp
    omega
theorem packFrom_mem {P : Int → Prop} (s : List (List Int) × List Int) (xs : List Int) (h : ∀ y ∈ s.2, P y) (hx : ∀ x ∈ xs, P x) : ∀ y ∈ (packFrom s xs).2, P y := by
  induction xs generalizing s with
  | nil => exact h
  | cons x xs ih =>
    have e : packFrom s (x :: xs) = packFrom (packStep s x) xs := rfl
    rw [e]
    refine ih _ ?_ fun y hy => hx y (by simp [hy])
    unfold packStep
    split
    · intro y hy
      simp at hy
      subst hy
      exact hx y (by simp)
    · intro y hy
      rcases List.mem_append.1 hy with hy | hy
      · exact h y hy
      · simp at hy
        subst hy
        exact hx y (by simp)
theorem packS_mem {P : Int → Prop} {xs : List Int} {a : List (List Int)} {l : List Int} (h : packS xs = some (a, l)) (hx : ∀ x ∈ xs, P x) : ∀ y ∈ l, P y := by
  cases xs with
  | nil => cases h
  | cons y ys =>
    injection h with h
    have := packFrom_mem (P := P) ([], [y]) ys (by simpa using hx y (by simp)) fun z hz => hx z (by simp [hz])
    rwa [h] at this
theorem pack_size (xs : List Int) : (pack xs).length ≤ xs.length ∧ cntII (pack xs) = xs.length := by
  cases xs with
  | nil => simp [pack, cntII]
  | cons x xs =>
    have h1 := packFrom_len ([], [x]) xs
    have h2 := packFrom_cnt ([], [x]) xs
    simp [cntII] at h1 h2
    simp [pack, cntII_append, cntII]
    omega
theorem braidB_of {n : Int} {xs : List Int} (h : braidB n xs = true) : 0 ≤ n ∧ n ≤ 12 ∧ xs.length ≤ 40 ∧ ∀ x ∈ xs, x ≠ 0 ∧ 1 - n ≤ x ∧ x ≤ n - 1 := by
  unfold braidB lettersB letterB inR at h
  simp only [Bool.and_eq_true, List.all_eq_true, decide_eq_true_eq] at h
  exact ⟨h.1.1.1, h.1.1.2, h.1.2, fun x hx => by have := h.2 x hx; exact ⟨this.1, this.2.1, this.2.2⟩⟩
theorem packP_size (n : Int) (xs : List Int) : (packP n xs).length ≤ 40 ∧ cntII (packP n xs) ≤ 40 := by
  unfold packP
  split
  · have := braidB_of (by assumption : braidB n xs = true)
    have := pack_size xs
    omega
  · simp [cntII]

/-- One more inner slice, in blocks behind those of the others. -/
theorem CellsII.snoc {w : World} {lo m hi : Nat} {cs : List Value} {xss : List (List Int)} {A' : Option Addr} {c' : Nat} {xs : List Int}
    (h : CellsII w lo m cs xss) (ho : OwnI w m hi A' c' xs) (h1 : lo ≤ m) (h2 : m ≤ hi) : CellsII w lo hi (cs ++ [.slice A' xs.length c']) (xss ++ [xs]) := by
  obtain ⟨ha, hb, hc⟩ := h
  refine ⟨by simp [ha], fun j ys hy => ?_, fun i j v v' g hi' hj hv hv' => ?_⟩
  · rcases Nat.lt_or_ge j xss.length with hj | hj
    · rw [List.getElem?_append_left hj] at hy
      obtain ⟨A2, c2, h5, h6⟩ := hb j ys hy
      exact ⟨A2, c2, by rw [List.getElem?_append_left (by omega)]; exact h5, h6.mono (Nat.le_refl _) h2⟩
    · have hjl := (List.getElem?_eq_some_iff.1 hy).1
      simp at hjl
      have : j = xss.length := by omega
      subst this
      simp at hy
      subst hy
      exact ⟨A', c', by rw [List.getElem?_append_right (by omega)]; simp [ha], ho.mono h1 (Nat.le_refl _)⟩
  · have new : (Value.slice A' xs.length c').ownBlock = some g → m ≤ g := fun e => (ho.own.lt g e).1
    have old : ∀ i v, i < cs.length → (cs ++ [Value.slice A' xs.length c'])[i]? = some v → v.ownBlock = some g → g < m := by
      intro i v hil h7 h8
      rw [List.getElem?_append_left hil] at h7
      obtain ⟨A2, c2, h5, h6⟩ := hb i _ (List.getElem?_eq_getElem (by omega))
      rw [h5] at h7
      injection h7 with h7
      subst h7
      cases A2 with
      | none => simp [Value.ownBlock] at h8
      | some a => simp [Value.ownBlock] at h8; subst h8; exact h6.lt a rfl
    have last : ∀ i v, ¬ i < cs.length → (cs ++ [Value.slice A' xs.length c'])[i]? = some v → i = cs.length ∧ v = .slice A' xs.length c' := by
      intro i v hn h7
      have hil := (List.getElem?_eq_some_iff.1 h7).1
      simp at hil
      have : i = cs.length := by omega
      subst this
      simp at h7
      exact ⟨rfl, h7.symm⟩
    by_cases ei : i < cs.length
    · by_cases ej : j < cs.length
      · rw [List.getElem?_append_left ei] at hi'
        rw [List.getElem?_append_left ej] at hj
        exact hc i j v v' g hi' hj hv hv'
      · obtain ⟨_, rfl⟩ := last j v' ej hj
        have := new hv'
        have := old i v ei hi' hv
        omega
    · by_cases ej : j < cs.length
      · obtain ⟨_, rfl⟩ := last i v ei hi'
        have := new hv
        have := old j v' ej hj hv'
        omega
      · have := last i v ei hi'
        have := last j v' ej hj
        omega

theorem OwnC.keepT {w w' : World} {lo hi : Nat} {e : TypeId} {sz : Nat} {A : Option Addr} {n c : Nat} {cs : List Value} (h : OwnC w lo hi e sz A n c cs) (hk : ∀ k cur, lo ≤ k → k < hi → w.heap[k]? = some (.cells cur e (0, 0)) → w'.heap[k]? = w.heap[k]?) : OwnC w' lo hi e sz A n c cs := by
  refine ⟨⟨h.own.1, ?_⟩, h.lt⟩
  rcases h.own.2 with h2 | ⟨g, cap, cur, h4, h5, h6, h7⟩
  · exact .inl h2
  · injection h4 with h4 hn h11
    subst h4 h11
    exact .inr ⟨g, c, cur, rfl, h5, by rw [hk g cur h5 (h.lt _ rfl) h6]; exact h6, h7⟩
theorem CellsII.keepT {w w' : World} {lo hi : Nat} {cs : List Value} {xss : List (List Int)} (h : CellsII w lo hi cs xss) (hk : ∀ k cur, lo ≤ k → k < hi → w.heap[k]? = some (.cells cur 2 (0, 0)) → w'.heap[k]? = w.heap[k]?) : CellsII w' lo hi cs xss :=
  ⟨h.1, fun k xs hx => by obtain ⟨A', c', h1, h2⟩ := h.2.1 k xs hx; exact ⟨A', c', h1, h2.keepT hk⟩, h.2.2⟩

/-- A slice of slices of the call's own, whose last one (l) lies in blocks behind those of the others. -/
structure OwnL (w : World) (lo hi : Nat) (A : Option Addr) (c : Nat) (xss : List (List Int)) (l : List Int) (A' : Option Addr) (c' m : Nat) (cs : List Value) : Prop where
  out : OwnC w lo hi 34 1 A (xss.length + 1) c (cs ++ [.slice A' l.length c'])
  cells : CellsII w lo m cs xss
  last : OwnI w m hi A' c' l
  lom : lo ≤ m
  mhi : m ≤ hi
section
variable {w w' : World} {lo hi : Nat} {A : Option Addr} {c : Nat} {xss : List (List Int)} {l : List Int} {A' : Option Addr} {c' m : Nat} {cs : List Value}
theorem OwnL.toII (h : OwnL w lo hi A c xss l A' c' m cs) : OwnII w lo hi A (xss ++ [l]).length c (xss ++ [l]) :=
  ⟨cs ++ [.slice A' l.length c'], by simpa using h.out, h.cells.snoc h.last h.lom h.mhi⟩
theorem OwnL.keep (h : OwnL w lo hi A c xss l A' c' m cs) (hk : ∀ k, lo ≤ k → k < hi → k < w.heap.size → w'.heap[k]? = w.heap[k]?) : OwnL w' lo hi A c xss l A' c' m cs :=
  ⟨h.out.keep hk, h.cells.keep fun k h1 h2 h3 => hk k h1 (by have := h.mhi; omega) h3, h.last.keep fun k h1 h2 h3 => hk k (by have := h.lom; omega) h2 h3, h.lom, h.mhi⟩
theorem OwnL.cell (h : OwnL w lo hi A c xss l A' c' m cs) : ∃ g, A = some ⟨g, 0, none⟩ ∧ lo ≤ g ∧ g < hi ∧ w.cell? ⟨g, xss.length, none⟩ = some (.slice A' l.length c') ∧ w.frozen? ⟨g, xss.length, none⟩ = false := by
  have hl : cs.length = xss.length := h.cells.1
  obtain ⟨g, rfl, h1, h2, h3, h4⟩ := h.out.cell (j := xss.length) (by simp [hl])
  exact ⟨g, rfl, h1, h2, by simpa [hl] using h3, h4⟩
/-- The last inner slice is put anew. -/
theorem OwnL.put {g : Nat} {A2 : Option Addr} {c2 : Nat} {l2 : List Int} (h : OwnL w lo hi (some ⟨g, 0, none⟩) c xss l A' c' m cs) (hhi : hi ≤ w.heap.size) (hg : w.grownBy w' (Value.slice A' l.length c').ownBlock) (ho : OwnI w' m w'.heap.size A2 c2 l2) :
    OwnL (w'.setCell ⟨g, xss.length, none⟩ (.slice A2 l2.length c2)) lo (w'.setCell ⟨g, xss.length, none⟩ (.slice A2 l2.length c2)).heap.size (some ⟨g, 0, none⟩) c xss l2 A2 c2 m cs ∧ w'.cell? ⟨g, xss.length, none⟩ = some (.slice A' l.length c') ∧ w'.frozen? ⟨g, xss.length, none⟩ = false := by
  have hl : cs.length = xss.length := h.cells.1
  have hz := hg.size
  have hlast : ∀ q, (Value.slice A' l.length c').ownBlock = some q → m ≤ q := fun q e => (h.last.own.lt q e).1
  have hne : ∀ q, (Value.slice A' l.length c').ownBlock = some q → q ≠ g := by
    intro q e
    rintro rfl
    rcases h.last.form with ⟨rfl, _⟩ | ⟨q', cur, rfl, _, _, h4, _⟩
    · simp [Value.ownBlock] at e
    · simp [Value.ownBlock] at e
      subst e
      rcases h.out.form with ⟨h5, _⟩ | ⟨q2, cur', h5, _, _, h6, _⟩
      · simp at h5
      · injection h5 with h5
        injection h5 with h5
        subst h5
        rw [h4] at h6
        injection h6 with h6
        injection h6 with _ h6
        simp at h6
  have hgl : g < w.heap.size := Nat.lt_of_lt_of_le (h.out.lt _ rfl) hhi
  have o1 : OwnC w' lo w'.heap.size 34 1 (some ⟨g, 0, none⟩) (xss.length + 1) c (cs ++ [.slice A' l.length c']) :=
    (h.out.keep1 fun q hq => by
      injection hq with hq
      injection hq with hq
      subst hq
      exact hg.block _ hgl fun e => hne _ e.symm rfl).mono (Nat.le_refl _) (Nat.le_trans hhi hz)
  have hset : (cs ++ [Value.slice A' l.length c']).set xss.length (.slice A2 l2.length c2) = cs ++ [.slice A2 l2.length c2] := by
    rw [← hl, List.set_append_right _ _ (Nat.le_refl _)]
    simp
  have o2 := (o1.store (j := xss.length) (.slice A2 l2.length c2)).1
  rw [hset] at o2
  have hgt : ∀ k cur, w'.heap[k]? = some (.cells cur 2 (0, 0)) → k ≠ g := by
    intro k cur h4 e
    subst e
    rcases o1.form with ⟨h5, _⟩ | ⟨q2, cur', h5, _, _, h6, _⟩
    · simp at h5
    · injection h5 with h5
      injection h5 with h5
      subst h5
      rw [h4] at h6
      injection h6 with h6
      injection h6 with _ h6
      simp at h6
  obtain ⟨_, hA, _, _, q1, q2⟩ := o1.cell (j := xss.length) (by simp [hl])
  injection hA with hA
  injection hA with hA
  subst hA
  refine ⟨⟨by simpa using o2, ?_, ?_, h.lom, by have := h.mhi; simp; omega⟩, by simpa [hl] using q1, q2⟩
  · refine CellsII.keepT (w := w) h.cells fun k cur h1 h2 h3 => ?_
    have hk3 : k < w.heap.size := (Array.getElem?_eq_some_iff.1 h3).1
    have e1 : w'.heap[k]? = w.heap[k]? := hg.block _ hk3 fun e => by have := hlast _ e.symm; omega
    rw [Below.heap_setCell w' _ _ k (hgt k cur (e1.trans h3)), e1]
  · refine (ho.keepT fun k cur h1 h2 h3 => Below.heap_setCell w' _ _ k (hgt k cur h3)).mono (Nat.le_refl _) (by simp)
/-- One more inner slice is appended; it lies in blocks from hi on. -/
theorem OwnL.next {A2 : Option Addr} {c2 : Nat} {A3 : Option Addr} {c3 : Nat} {l3 : List Int} (h : OwnL w lo hi A c xss l A' c' m cs) (hk : ∀ k cur, lo ≤ k → k < hi → w.heap[k]? = some (.cells cur 2 (0, 0)) → w'.heap[k]? = w.heap[k]?) (hhi : hi ≤ w'.heap.size)
    (ho : OwnC w' lo w'.heap.size 34 1 A2 (xss.length + 1 + 1) c2 ((cs ++ [.slice A' l.length c']) ++ [.slice A3 l3.length c3])) (h3 : OwnI w' hi w'.heap.size A3 c3 l3) :
    OwnL w' lo w'.heap.size A2 c2 (xss ++ [l]) l3 A3 c3 hi (cs ++ [.slice A' l.length c']) :=
  ⟨by simpa using ho, (h.cells.snoc h.last h.lom h.mhi).keepT hk, h3, Nat.le_trans h.lom h.mhi, hhi⟩
/-- The first inner slice. -/
theorem OwnL.one {w : World} {lo hi : Nat} {A : Option Addr} {c : Nat} {l : List Int} {A' : Option Addr} {c' : Nat} (m : Nat) (h : OwnC w lo hi 34 1 A 1 c [.slice A' l.length c']) (h' : OwnI w m hi A' c' l) (h1 : lo ≤ m) (h2 : m ≤ hi) : OwnL w lo hi A c [] l A' c' m [] :=
  ⟨by simpa using h, ⟨rfl, fun k xs hx => by simp at hx, fun i j v v' g hi' => by simp at hi'⟩, h', h1, h2⟩
end

end Go.Proofs.YtnjgmhdmjaijgaaGreatDoor

/- Colour charts: ValidColours, SameColours. -/
namespace Go.Proofs.YtnjgmhdmjaijgaaGreatDoor
open Go.RowKit

def rowOfB (n : Int) (row : List Int) : Bool := decide ((row.length : Int) = n) && row.all carrierB
def coloursB (n : Int) (xss : List (List Int)) : Bool := inR n 1 8 && inR xss.length 1 8 && xss.all (rowOfB n)
def sameColoursB (n m : Int) (xss yss : List (List Int)) : Bool := decide (n = m ∧ xss = yss)


end Go.Proofs.YtnjgmhdmjaijgaaGreatDoor

/- SameColours. -/
namespace Go.Proofs.YtnjgmhdmjaijgaaGreatDoor
open Go.RowKit

theorem Drawn.trans {a b c : World} (h : Drawn a b) (k : Drawn b c) : Drawn a c := by
  obtain ⟨n, rfl⟩ := k
  exact h.drewN n

theorem slices_Equal (A B : Option Addr) (c d : Nat) (xs ys : List Int) (w : World) (h : Ints w A xs) (h' : Ints w B ys) (hl : xs.length ≤ 9223372036854775807) (_hl' : ys.length ≤ 9223372036854775807) :
    Calls Tryz.prog 35 #[.slice A xs.length c, .slice B ys.length d] w fun e w' => e = .returned (.bool (decide (xs = ys))) ∧ Drawn w w' := by
  by_cases hle : xs.length = ys.length
  · have HL := Lib.hid hle
    have hle' : ((xs.length : Int) != (ys.length : Int)) = false := by simp [hle]
    clear hle
    go_enter Tryz.func35, Tryz.ntmps35
    go_wp2
    go_loopw [13] (fun i wr => ∃ (k : Nat), k ≤ xs.length ∧ i = .int .i64 k ∧ xs.take k = ys.take k ∧ Drawn w wr) (fun i _ => xs.length - (intOf i).toNat)
    case atStart => exact ⟨0, Nat.zero_le _, rfl, rfl, Drawn.refl _⟩
    case round =>
      obtain ⟨k, hk, rfl, htk, hdr⟩ := hrel
      have HT := Lib.hid htk; clear htk
      by_cases hlt : k < xs.length
      · have hlt' : k < ys.length := by rw [← HL.out]; exact hlt
        obtain ⟨b, off, x, rfl, hc, hx⟩ := (h.of_cells hdr.cells) k hlt
        obtain ⟨b', off', y, rfl, hc', hy⟩ := (h'.of_cells hdr.cells) k hlt'
        have HX := Lib.hid hx; clear hx
        have HY := Lib.hid hy; clear hy
        by_cases hxy : x = y
        · subst hxy
          go_wp2_with (fail)
          go_quiet (fail)
          go_wp2_with (fail)
          go_roundw
          case rel => exact ⟨k + 1, by omega, by go_num, by rw [take_snoc HX.out, take_snoc HY.out, HT.out], hdr.drewN _⟩
          case measure => simp [intOf]; omega
        · have hxy' : (x != y) = true := by simpa using hxy
          go_wp2_with (fail)
          go_quiet (fail)
          go_wp2_with (fail)
          go_ret
          exact ⟨ret_bool (by simpa using ne_of_getElem? HX.out HY.out hxy), hdr.drewN _⟩
      · go_wp2_with (fail)
        go_ret
        have : k = xs.length := by omega
        subst this
        have e := HT.out
        rw [take_all (Nat.le_refl _), take_all (by rw [HL.out]; exact Nat.le_refl _)] at e
        exact ⟨ret_bool (by simpa using e), hdr⟩
  · have hle' : ((xs.length : Int) != (ys.length : Int)) = true := by simp; omega
    go_enter Tryz.func35, Tryz.ntmps35
    go_wp2
    go_ret
    exact ⟨ret_bool (by simp; intro e; exact hle (by rw [e])), Drawn.refl _⟩


end Go.Proofs.YtnjgmhdmjaijgaaGreatDoor

/- SameChart. -/
namespace Go.Proofs.YtnjgmhdmjaijgaaGreatDoor
open Go.RowKit

theorem cell_alloc {w : World} {a : Addr} {v : Value} (h : w.cell? a = some v) (o : Obj) : (w.alloc o).cell? a = some v := cells_below (by (repeat (first | exact Below.refl _ _ | assumption | apply Below.drew | apply below_drewN | (refine Below.alloc ?_ (by first | omega | (simp; done) | (simp; omega)) _) | (refine Below.setCell ?_ (by first | omega | (simp; done) | (simp; omega)) _)))) _ _ h
def sameChartB (n m : Int) (xs ys : List RowD) : Bool := decide (n = m ∧ xs = ys)

theorem impl_SameChart_1 (p q : RowD) (A B : Option Addr) (c d : Nat) (w : World) (h : Ints w A p.s) (h' : Ints w B q.s) (hl : p.s.length ≤ 9223372036854775807) (hl' : q.s.length ≤ 9223372036854775807) :
    Calls Tryz.prog 34 #[.agg #[.int .i64 p.d, .int .i64 p.r, .slice A p.s.length c], .agg #[.int .i64 q.d, .int .i64 q.r, .slice B q.s.length d]] w fun e w' => e = .returned (.bool (decide (p = q))) ∧ Below w.heap.size w w' := by
  by_cases e0 : p.d = q.d
  · have e0' : (p.d == q.d) = true := by simp [e0]
    by_cases e1 : p.r = q.r
    · have e1' : (p.r == q.r) = true := by simp [e1]
      have HF : Hid (decide (p = q) = decide (p.s = q.s)) := Lib.hid (decide_eq_decide.2 ⟨fun h => by rw [h], fun h => by cases p; cases q; simp_all⟩)
      clear e0 e1
      go_enter Tryz.func34, Tryz.ntmps34
      go_wp2_with (fail)
      refine (slices_Equal _ _ _ _ _ _ _ (h.below ?hb1) (h'.below ?hb2) hl hl').mono ?_
      case hb1 => (repeat (first | exact Below.refl _ _ | assumption | apply Below.drew | apply below_drewN | (refine Below.alloc ?_ (by first | omega | (simp; done) | (simp; omega)) _) | (refine Below.setCell ?_ (by first | omega | (simp; done) | (simp; omega)) _)))
      case hb2 => (repeat (first | exact Below.refl _ _ | assumption | apply Below.drew | apply below_drewN | (refine Below.alloc ?_ (by first | omega | (simp; done) | (simp; omega)) _) | (refine Below.setCell ?_ (by first | omega | (simp; done) | (simp; omega)) _)))
      rintro e w2 ⟨rfl, k, rfl⟩
      go_wp2_with (fail)
      go_ret
      exact ⟨ret_bool HF.out.symm, by (repeat (first | exact Below.refl _ _ | assumption | apply Below.drew | apply below_drewN | (refine Below.alloc ?_ (by first | omega | (simp; done) | (simp; omega)) _) | (refine Below.setCell ?_ (by first | omega | (simp; done) | (simp; omega)) _)))⟩
    · have e1' : (p.r == q.r) = false := by simpa using e1
      have HF : Hid (decide (p = q) = false) := Lib.hid (decide_eq_false fun e => e1 (by rw [e]))
      go_enter Tryz.func34, Tryz.ntmps34
      go_wp2_with (fail)
      go_ret
      exact ⟨ret_bool HF.out.symm, by (repeat (first | exact Below.refl _ _ | assumption | apply Below.drew | apply below_drewN | (refine Below.alloc ?_ (by first | omega | (simp; done) | (simp; omega)) _) | (refine Below.setCell ?_ (by first | omega | (simp; done) | (simp; omega)) _)))⟩
  · have e0' : (p.d == q.d) = false := by simpa using e0
    have HF : Hid (decide (p = q) = false) := Lib.hid (decide_eq_false fun e => e0 (by rw [e]))
    go_enter Tryz.func34, Tryz.ntmps34
    go_wp2_with (fail)
    go_ret
    exact ⟨ret_bool HF.out.symm, by (repeat (first | exact Below.refl _ _ | assumption | apply Below.drew | apply below_drewN | (refine Below.alloc ?_ (by first | omega | (simp; done) | (simp; omega)) _) | (refine Below.setCell ?_ (by first | omega | (simp; done) | (simp; omega)) _)))⟩

set_option maxHeartbeats 2000000 in
theorem equalFunc_rows (xss yss : List RowD) (A B : Option Addr) (c d : Nat) (w : World) (h : RowsR w A xss) (h' : RowsR w B yss) (hl : xss.length ≤ 1000000000000) (_hl' : yss.length ≤ 1000000000000) :
    Calls Tryz.prog 33 #[.slice A xss.length c, .slice B yss.length d, .func (.func 34) #[] #[]] w fun e w' => e = .returned (.bool (decide (xss = yss))) ∧ Below w.heap.size w w' := by
  by_cases hle : xss.length = yss.length
  · have HL := Lib.hid hle
    have hle' : ((xss.length : Int) != (yss.length : Int)) = false := by simp [hle]
    clear hle
    go_enter Tryz.func33, Tryz.ntmps33
    go_wp2
    go_loopw [17] (fun i wr => ∃ (k : Nat), k ≤ xss.length ∧ i = .int .i64 k ∧ xss.take k = yss.take k ∧ Below w.heap.size w wr) (fun i _ => xss.length - (intOf i).toNat)
    case atStart => exact ⟨0, Nat.zero_le _, rfl, rfl, Below.refl _ _⟩
    case round =>
      obtain ⟨k, hk, rfl, htk, hb⟩ := hrel
      have HT := Lib.hid htk; clear htk
      by_cases hlt : k < xss.length
      · have hlt' : k < yss.length := by rw [← HL.out]; exact hlt
        obtain ⟨b, off, A1, c1, p, rfl, hp, p0, p1, p2, hi, hxl⟩ := (h.below hb) k hlt
        obtain ⟨b', off', A2, c2, q, rfl, hq, q0, q1, q2, hi', hyl⟩ := (h'.below hb) k hlt'
        have HP := Lib.hid hp; clear hp
        have HQ := Lib.hid hq; clear hq
        have s0 := cell_alloc q0 (.cells #[.int .i64 p.d, .int .i64 p.r, .slice A1 p.s.length c1] 42)
        have s1 := cell_alloc q1 (.cells #[.int .i64 p.d, .int .i64 p.r, .slice A1 p.s.length c1] 42)
        have s2 := cell_alloc q2 (.cells #[.int .i64 p.d, .int .i64 p.r, .slice A1 p.s.length c1] 42)
        by_cases hpq : p = q
        · have hpq' : decide (p = q) = true := decide_eq_true hpq
          have HPQ := Lib.hid hpq; clear hpq
          go_wp2_with (fail)
          refine (impl_SameChart_1 p q _ _ _ _ _ (hi.below ?hb1) (hi'.below ?hb2) hxl hyl).mono ?_
          case hb1 => (repeat (first | exact Below.refl _ _ | assumption | apply Below.drew | apply below_drewN | (refine Below.alloc ?_ (by first | omega | (simp; done) | (simp; omega)) _) | (refine Below.setCell ?_ (by first | omega | (simp; done) | (simp; omega)) _)))
          case hb2 => (repeat (first | exact Below.refl _ _ | assumption | apply Below.drew | apply below_drewN | (refine Below.alloc ?_ (by first | omega | (simp; done) | (simp; omega)) _) | (refine Below.setCell ?_ (by first | omega | (simp; done) | (simp; omega)) _)))
          rintro e w2 ⟨rfl, b2⟩
          simp only [World.size_alloc] at b2
          have hz := hb.size
          have hb2 : Below w.heap.size w w2 := Below.trans (by (repeat (first | exact Below.refl _ _ | assumption | apply Below.drew | apply below_drewN | (refine Below.alloc ?_ (by first | omega | (simp; done) | (simp; omega)) _) | (refine Below.setCell ?_ (by first | omega | (simp; done) | (simp; omega)) _)))) (b2.mono (by first | omega | (simp; done) | (simp; omega)))
          go_wp2_with (fail)
          go_roundw
          case rel => exact ⟨k + 1, by omega, by go_num, by rw [take_snoc HP.out, take_snoc HQ.out, HT.out, HPQ.out], hb2⟩
          case measure => simp [intOf]; omega
        · have hpq' : decide (p = q) = false := decide_eq_false hpq
          have HPQ := Lib.hid hpq; clear hpq
          go_wp2_with (fail)
          refine (impl_SameChart_1 p q _ _ _ _ _ (hi.below ?hb1) (hi'.below ?hb2) hxl hyl).mono ?_
          case hb1 => (repeat (first | exact Below.refl _ _ | assumption | apply Below.drew | apply below_drewN | (refine Below.alloc ?_ (by first | omega | (simp; done) | (simp; omega)) _) | (refine Below.setCell ?_ (by first | omega | (simp; done) | (simp; omega)) _)))
          case hb2 => (repeat (first | exact Below.refl _ _ | assumption | apply Below.drew | apply below_drewN | (refine Below.alloc ?_ (by first | omega | (simp; done) | (simp; omega)) _) | (refine Below.setCell ?_ (by first | omega | (simp; done) | (simp; omega)) _)))
          rintro e w2 ⟨rfl, b2⟩
          simp only [World.size_alloc] at b2
          have hz := hb.size
          have hb2 : Below w.heap.size w w2 := Below.trans (by (repeat (first | exact Below.refl _ _ | assumption | apply Below.drew | apply below_drewN | (refine Below.alloc ?_ (by first | omega | (simp; done) | (simp; omega)) _) | (refine Below.setCell ?_ (by first | omega | (simp; done) | (simp; omega)) _)))) (b2.mono (by first | omega | (simp; done) | (simp; omega)))
          go_wp2_with (fail)
          go_ret
          exact ⟨ret_bool (by simpa using ne_of_getElem? HP.out HQ.out HPQ.out), hb2⟩
      · go_wp2_with (fail)
        go_ret
        have : k = xss.length := by omega
        subst this
        have e := HT.out
        rw [take_all (Nat.le_refl _), take_all (by rw [HL.out]; exact Nat.le_refl _)] at e
        exact ⟨ret_bool (by simpa using e), hb⟩
  · have hle' : ((xss.length : Int) != (yss.length : Int)) = true := by simp; omega
    go_enter Tryz.func33, Tryz.ntmps33
    go_wp2
    go_ret
    exact ⟨ret_bool (by simp; intro e; exact hle (by rw [e])), Below.refl _ _⟩
theorem impl_SameChart (n m : Int) (xs ys : List RowD) (A B : Option Addr) (c d : Nat) (w : World) (h : RowsR w A xs) (hl : xs.length ≤ 1000000000000) (h' : RowsR w B ys) (hl' : ys.length ≤ 1000000000000) :
    Calls Tryz.prog 13 #[.agg #[.int .i64 n, .slice A xs.length c], .agg #[.int .i64 m, .slice B ys.length d]] w fun e w' => e = .returned (.bool (sameChartB n m xs ys)) ∧ Below w.heap.size w w' := by
  by_cases hd : n = m
  · subst hd
    have HF : Hid (sameChartB n n xs ys = decide (xs = ys)) := Lib.hid (by simp [sameChartB])
    go_enter Tryz.func13, Tryz.ntmps13
    go_wp2_with (fail)
    refine (equalFunc_rows xs ys A B _ _ _ (h.below (by (repeat (first | exact Below.refl _ _ | assumption | apply Below.drew | apply below_drewN | (refine Below.alloc ?_ (by first | omega | (simp; done) | (simp; omega)) _) | (refine Below.setCell ?_ (by first | omega | (simp; done) | (simp; omega)) _))))) (h'.below (by (repeat (first | exact Below.refl _ _ | assumption | apply Below.drew | apply below_drewN | (refine Below.alloc ?_ (by first | omega | (simp; done) | (simp; omega)) _) | (refine Below.setCell ?_ (by first | omega | (simp; done) | (simp; omega)) _))))) hl hl').mono ?_; rintro e w2 ⟨rfl, b2⟩
    simp only [World.size_alloc] at b2
    have b3 : Below w.heap.size w w2 := Below.trans (by (repeat (first | exact Below.refl _ _ | assumption | apply Below.drew | apply below_drewN | (refine Below.alloc ?_ (by first | omega | (simp; done) | (simp; omega)) _) | (refine Below.setCell ?_ (by first | omega | (simp; done) | (simp; omega)) _)))) (b2.mono (by first | omega | (simp; done) | (simp; omega)))
    go_wp2_with (fail)
    go_ret
    exact ⟨ret_bool HF.out.symm, b3⟩
  · have hd' : (n == m) = false := by simpa using hd
    have HF : Hid (sameChartB n m xs ys = false) := Lib.hid (by simp [sameChartB, hd])
    go_enter Tryz.func13, Tryz.ntmps13
    go_wp2_with (fail)
    go_ret
    exact ⟨ret_bool HF.out.symm, by (repeat (first | exact Below.refl _ _ | assumption | apply Below.drew | apply below_drewN | (refine Below.alloc ?_ (by first | omega | (simp; done) | (simp; omega)) _) | (refine Below.setCell ?_ (by first | omega | (simp; done) | (simp; omega)) _)))⟩

end Go.Proofs.YtnjgmhdmjaijgaaGreatDoor

/- Letters: which are valid, which touch. -/
namespace Go.Proofs.YtnjgmhdmjaijgaaGreatDoor
open Go.RowKit

def smallB (xs : List Int) : Prop := ∀ y ∈ xs, -1000 ≤ y ∧ y ≤ 1000
theorem smallB_of {n : Int} {xs : List Int} (h : braidB n xs = true) : smallB xs := fun y hy => by
  obtain ⟨_, h1, _, h2⟩ := braidB_of h
  have := h2 y hy
  omega
theorem smallB_at {xs : List Int} (h : smallB xs) {k : Nat} {x : Int} (hx : xs[k]? = some x) : -1000 ≤ x ∧ x ≤ 1000 := h x (List.mem_of_getElem? hx)
theorem absI_le {x : Int} (h : -1000 ≤ x ∧ x ≤ 1000) : 0 ≤ absI x ∧ absI x ≤ 1000 := by unfold absI; split <;> omega


end Go.Proofs.YtnjgmhdmjaijgaaGreatDoor

/- l03Ok. -/
namespace Go.Proofs.YtnjgmhdmjaijgaaGreatDoor
open Go.RowKit


end Go.Proofs.YtnjgmhdmjaijgaaGreatDoor
