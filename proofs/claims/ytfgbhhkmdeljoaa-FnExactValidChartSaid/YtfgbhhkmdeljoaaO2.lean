/- Arguments of the laws, opened: slices of slices, of rows, of pieces. -/
import Derived.Test.YtfgbhhkmdeljoaaO
import Derived.Test.YtfgbhhkmdeljoaaS2
import Derived.Test.YtfgbhhkmdeljoaaFP
import Derived.Deep.Fields
namespace Go.Proofs.Ytfgbhhkmdeljoaa
open Go.ChangeShapes Go.WideShapes Go.ChangeAt Go.RowKit
open Go.ChangeMaps (open_string shut_string)

section
variable {H : Type} {enc : TypeId × Value → H} {W : World} {base : Nat} {v : Value} {d : DataW H} {p : List MemPlace} {fuel : Nat} {cs : List Value} {x : DataW H × List MemPlace} {b0 : Nat}

theorem collect {α : Type} {P : Nat → α → Prop} (n : Nat) (h : ∀ i, i < n → ∃ x, P i x) : ∃ l : List α, l.length = n ∧ ∀ i x, l[i]? = some x → P i x := by
  induction n with
  | zero => exact ⟨[], rfl, fun i x h => by simp at h⟩
  | succ n ih =>
    obtain ⟨l, h1, h2⟩ := ih fun i hi => h i (by omega)
    obtain ⟨x, hx⟩ := h n (by omega)
    refine ⟨l ++ [x], by simp [h1], fun i y hy => ?_⟩
    by_cases hi' : i < n
    · exact h2 i y (by rw [List.getElem?_append_left (by omega)] at hy; exact hy)
    · rw [List.getElem?_append_right (by omega), h1] at hy
      obtain rfl : i = n := by
        have := (List.getElem?_eq_some_iff.1 hy).1
        simp at this; omega
      simp at hy
      subst hy
      exact hx

/-- A slice that came in: the cells of each element, and their reading. -/
theorem slice_rows {t e : TypeId} {sz : Nat} (ht : Try.prog.underlying t = some (.slice e)) (hC : Try.prog.cellsOf e = sz) (hsz : 0 < sz) (h : DataW.trod enc Try.prog W b0 (fun _ => true) true fuel t cs = some x) :
    ∃ A len cap n, cs = [.slice A len cap] ∧ len ≤ 9223372036854775807 ∧ ∀ i, i < len → ∃ b off cs' y, A = some ⟨b, off, none⟩ ∧ cs'.length = sz ∧ (∀ j, j < sz → W.cell? ⟨b, off + i * sz + j, none⟩ = cs'[j]?) ∧ DataW.trod enc Try.prog W b0 (fun _ => true) true n e cs' = some y := by
  rcases Go.Deep.open_slice ht h with ⟨hcs, _⟩ | ⟨a, len, cap, m, n, D, Pl, hcs, _, hl, hm, hmm, _, hi⟩
  · exact ⟨none, 0, 0, 0, hcs, Nat.zero_le _, fun i hi => absurd hi (Nat.not_lt_zero _)⟩
  · simp only [if_true] at hmm
    rw [hC] at hi
    refine ⟨some a, len, cap, n, hcs, by unfold maxLen at hm; omega, fun i hil => ?_⟩
    obtain ⟨cs', hc, ht⟩ := hi i (by omega)
    obtain ⟨_, hcl, hat⟩ := World.cells?_some hc
    obtain ⟨cs0, hc0, _⟩ := hi 0 (by omega)
    obtain ⟨_, hcl0, hat0⟩ := World.cells?_some hc0
    have h00 := hat0 0 (by omega)
    rw [List.getElem?_eq_getElem (by omega)] at h00
    have ha : a = ⟨a.block, a.off, none⟩ := addr_of_cell (w := W) (v := cs0[0]'(by omega)) (by simpa [Addr.add] using h00)
    refine ⟨a.block, a.off, cs', _, by rw [← ha], hcl, fun j hj => ?_, ht⟩
    have := hat j hj
    rw [ha, add_form, add_form] at this
    exact this

theorem trod_ints2 (h : DataW.trod enc Try.prog W b0 (fun _ => true) true fuel 39 cs = some x) :
    ∃ A c xss, cs = [.slice A xss.length c] ∧ Ints2 W A xss ∧ xss.length ≤ 9223372036854775807 := by
  obtain ⟨A, len, cap, n, rfl, hl, hi⟩ := slice_rows Try.underlying39 (sz := 1) (by kernel_rfl) (by decide) h
  obtain ⟨xss, rfl, hx⟩ := collect (P := fun i (xs : List Int) => ∃ b off A' c', A = some ⟨b, off, none⟩ ∧ W.cell? ⟨b, off + i, none⟩ = some (.slice A' xs.length c') ∧ Ints W A' xs ∧ xs.length ≤ 9223372036854775807) len fun i hil => by
    obtain ⟨b, off, cs', y, rfl, hcl, hat, ht⟩ := hi i hil
    obtain ⟨A', c', xs, rfl, h1, h2⟩ := trod_ints ht
    exact ⟨xs, b, off, A', c', rfl, by simpa using hat 0 (by decide), h1, h2⟩
  refine ⟨A, cap, xss, rfl, fun k hk => ?_, hl⟩
  obtain ⟨b, off, A', c', h1, h2, h3, h4⟩ := hx k _ (List.getElem?_eq_getElem hk)
  exact ⟨b, off, A', c', xss[k], h1, List.getElem?_eq_getElem hk, h2, h3, h4⟩

set_option maxRecDepth 100000 in
theorem trod_rows (h : DataW.trod enc Try.prog W b0 (fun _ => true) true fuel 22 cs = some x) :
    ∃ A c rs, cs = [.slice A rs.length c] ∧ RowsR W A rs ∧ rs.length ≤ 9223372036854775807 := by
  obtain ⟨A, len, cap, n, rfl, hl, hi⟩ := slice_rows Try.underlying22 (sz := 3) (by kernel_rfl) (by decide) h
  obtain ⟨rs, rfl, hx⟩ := collect (P := fun i (r : RowD) => ∃ b off A' c', A = some ⟨b, off, none⟩ ∧ W.cell? ⟨b, off + i * 3, none⟩ = some (.int .i64 r.d) ∧ W.cell? ⟨b, off + i * 3 + 1, none⟩ = some (.int .i64 r.r) ∧ W.cell? ⟨b, off + i * 3 + 2, none⟩ = some (.slice A' r.s.length c') ∧ Ints W A' r.s ∧ r.s.length ≤ 9223372036854775807) len fun i hil => by
    obtain ⟨b, off, cs', y, rfl, hcl, hat, ht⟩ := hi i hil
    obtain ⟨ys, n', _, _, _, hyl, hf⟩ := DataW.trod_struct Try.underlying57 ht
    have c1 : Try.prog.cellsOf 2 = 1 := by kernel_rfl
    have c2 : Try.prog.cellsOf 33 = 1 := by kernel_rfl
    match cs', hcl, ys, hyl with
    | [z0, z1, z2], _, [u0, u1, u2], _ =>
      have f0 := hf 0 _ rfl
      have f1 := hf 1 _ rfl
      have f2 := hf 2 _ rfl
      simp [c1, c2] at f0 f1 f2
      obtain ⟨a0, e0, _, _⟩ := DataW.trod_int Try.underlying2 f0
      obtain ⟨a1, e1, _, _⟩ := DataW.trod_int Try.underlying2 f1
      obtain ⟨A', c', xs, e2, h1, h2⟩ := trod_ints f2
      simp at e0 e1 e2
      subst e0 e1 e2
      exact ⟨⟨a0, a1, xs⟩, b, off, A', c', rfl, by simpa using hat 0 (by decide), by simpa using hat 1 (by decide), by simpa using hat 2 (by decide), h1, h2⟩
  refine ⟨A, cap, rs, rfl, fun k hk => ?_, hl⟩
  obtain ⟨b, off, A', c', h1, h2, h3, h4, h5, h6⟩ := hx k _ (List.getElem?_eq_getElem hk)
  exact ⟨b, off, A', c', rs[k], h1, List.getElem?_eq_getElem hk, h2, h3, h4, h5, h6⟩

set_option maxRecDepth 100000 in
theorem open_Chart (hv : Value.okWide Try.prog W .any base 24 v) (h : DataW.Trod enc Try.prog W 0 (fun _ => true) true 24 v d p) :
    ∃ n A c xs, v = .agg #[.int .i64 n, .slice A xs.length c] ∧ RowsR W A xs ∧ xs.length ≤ 9223372036854775807 := by
  obtain ⟨v0, v1, y0, y1, n, rfl, _, _, h0, h1⟩ := Go.Joins.open_agg2 Try.underlying24 (by kernel_rfl) (by kernel_rfl) hv h
  obtain ⟨a, e0, _, _⟩ := DataW.trod_int Try.underlying2 h0
  obtain ⟨A, c, xs, e2, hi, hl⟩ := trod_rows h1
  simp at e0 e2
  subst e0 e2
  exact ⟨a, A, c, xs, rfl, hi, hl⟩

end

end Go.Proofs.Ytfgbhhkmdeljoaa
