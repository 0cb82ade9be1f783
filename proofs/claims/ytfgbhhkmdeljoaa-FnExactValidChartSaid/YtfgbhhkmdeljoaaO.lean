/- Arguments of the laws, opened. -/
import Derived.Test.YtfgbhhkmdeljoaaP
import Derived.ShutString
import Derived.ChangeOld
import Derived.Lib.SmallJoins
import Derived.Deep.Slices
namespace Go.Proofs.Ytfgbhhkmdeljoaa
open Go.ChangeShapes Go.WideShapes Go.ChangeAt Go.RowKit
open Go.ChangeMaps (open_string shut_string)

theorem own : ownKnob Try.prog.godebug = none := by kernel_rfl
theorem laidOut : laidOutB Try.prog = true := by kernel_rfl

theorem addr_of_cell {w : World} {x : Addr} {v : Value} (h : w.cell? x = some v) : x = ⟨x.block, x.off, none⟩ := by
  obtain ⟨b, o, s⟩ := x
  cases s with
  | none => rfl
  | some s =>
    unfold World.cell? at h
    split at h <;> simp at h

theorem add_form {b o : Nat} (i : Nat) : (⟨b, o, none⟩ : Addr).add i = ⟨b, o + i, none⟩ := by
  unfold Addr.add
  split <;> simp_all

theorem one_cell {cs : List Value} {i : Nat} {v : Value} (h : (cs.drop i).take 1 = [v]) : cs[i]? = some v := by
  have := congrArg (fun l => l[0]?) h
  simpa [List.getElem?_take, List.getElem?_drop] using this

section
variable {H : Type} {enc : TypeId × Value → H} {W : World} {base : Nat} {v : Value} {d : DataW H} {p : List MemPlace} {fuel : Nat} {cs : List Value} {x : DataW H × List MemPlace} {b0 : Nat}
theorem trod_ints (h : DataW.trod enc Try.prog W b0 (fun _ => true) true fuel 33 cs = some x) :
    ∃ A c xs, cs = [.slice A xs.length c] ∧ Ints W A xs ∧ xs.length ≤ 9223372036854775807 := by
  rcases open_ints Try.underlying33 Try.underlying2 (by kernel_rfl) h with ⟨hcs, _⟩ | ⟨x, n, c, zs, hcs, _, hl, hm, hz, _, hcell, hwz⟩
  · exact ⟨none, 0, [], hcs, Ints.nil, by rw [List.length_nil]; omega⟩
  · have hz' : zs.length = c := by simpa using hz
    have hlen : (zs.take n).length = n := by rw [List.length_take]; omega
    refine ⟨some x, c, zs.take n, by rw [hlen]; exact hcs, fun k hk => ?_, by rw [hlen]; unfold maxLen at hm; omega⟩
    have hk' : k < n := by omega
    have h0 := hcell 0 (by omega)
    rw [show x.add 0 = x by simp [Addr.add]] at h0
    have hx := addr_of_cell h0
    refine ⟨x.block, x.off, zs[k]'(by omega), by rw [← hx], ?_, ?_⟩
    · have := hcell k (by omega)
      rw [hx, add_form] at this
      rw [this]
      simp [show k < zs.length by omega]
    · rw [List.getElem?_take, if_pos hk', List.getElem?_eq_getElem]
set_option maxRecDepth 100000 in
theorem open_Ints (hv : Value.okWide Try.prog W .any base 33 v) (h : DataW.Trod enc Try.prog W 0 (fun _ => true) true 33 v d p) :
    ∃ A c xs, v = .slice A xs.length c ∧ Ints W A xs ∧ xs.length ≤ 9223372036854775807 := by
  obtain ⟨A, n, c, rfl⟩ := okWide_slice Try.underlying33 hv
  obtain ⟨fuel, hf⟩ := h
  obtain ⟨A', c', xs, hcs, hi, hl⟩ := trod_ints hf
  simp [Value.cells] at hcs
  obtain ⟨rfl, rfl, rfl⟩ := hcs
  exact ⟨_, _, _, rfl, hi, hl⟩
set_option maxRecDepth 100000 in
theorem open_Str (hv : Value.okWide Try.prog W .any base 9 v) (h : DataW.Trod enc Try.prog W 0 (fun _ => true) true 9 v d p) : ∃ s : ByteArray, v = .string s ∧ s.size ≤ 9223372036854775807 := by
  obtain ⟨s, hs, _, _, hl⟩ := open_string Try.underlying9 hv h
  exact ⟨s, hs, hl⟩

set_option maxRecDepth 100000 in
theorem open_Row (hv : Value.okWide Try.prog W .any base 57 v) (h : DataW.Trod enc Try.prog W 0 (fun _ => true) true 57 v d p) :
    ∃ d r A c xs, v = .agg #[.int .i64 d, .int .i64 r, .slice A xs.length c] ∧ Ints W A xs ∧ xs.length ≤ 9223372036854775807 := by
  obtain ⟨v0, v1, v2, y0, y1, y2, n, rfl, _, _, h0, h1, h2⟩ := Go.Joins.open_agg3 Try.underlying57 (by kernel_rfl) (by kernel_rfl) hv h
  obtain ⟨a, e0, _, _⟩ := DataW.trod_int Try.underlying2 h0
  obtain ⟨b, e1, _, _⟩ := DataW.trod_int Try.underlying2 h1
  obtain ⟨A, c, xs, e2, hi, hl⟩ := trod_ints h2
  simp at e0 e1 e2
  subst e0 e1 e2
  exact ⟨a, b, A, c, xs, rfl, hi, hl⟩

end

end Go.Proofs.Ytfgbhhkmdeljoaa
