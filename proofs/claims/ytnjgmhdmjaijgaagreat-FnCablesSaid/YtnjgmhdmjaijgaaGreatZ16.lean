/- Steps of the proof, joined from several texts: ZC PP ZD ZE ZF ZG ZH ZI CE ZJ. -/
import Derived.Test.YtnjgmhdmjaijgaaGreatZ15
import Derived.Test.YtnjgmhdmjaijgaaGreatZ12
import Derived.Test.YtnjgmhdmjaijgaaGreatZ9
import Derived.Test.YtnjgmhdmjaijgaaGreatZ8

/- Permutations: the program's descents. -/
namespace Go.Proofs.YtnjgmhdmjaijgaaGreat
open Go Go.RowKit

def desL (i : Nat) : List Int → List Int
  | a :: b :: xs => if b < a then (i : Int) :: desL (i + 1) (b :: xs) else desL (i + 1) (b :: xs)
  | _ => []
theorem desL_length (i : Nat) (xs : List Int) : (desL i xs).length ≤ xs.length := by
  induction xs generalizing i with
  | nil => simp [desL]
  | cons a xs ih =>
    cases xs with
    | nil => simp [desL]
    | cons b xs =>
      have := ih (i + 1)
      rw [desL]
      split
      · simp only [List.length_cons] at this ⊢; omega
      · simp only [List.length_cons] at this ⊢; omega
theorem desL_none {xs : List Int} (h : firstDes xs = none) : ∀ i, desL i xs = [] := by
  induction xs with
  | nil => intro i; rfl
  | cons a xs ih =>
    cases xs with
    | nil => intro i; rfl
    | cons b xs =>
      intro i
      rw [firstDes] at h
      split at h
      · cases h
      · rename_i hab
        rw [desL, if_neg hab]
        refine ih ?_ (i + 1)
        cases hf : firstDes (b :: xs) with
        | none => rfl
        | some m => rw [hf] at h; cases h
theorem desL_some {xs : List Int} : ∀ {k : Nat}, firstDes xs = some k → ∀ i, ∃ tl, desL i xs = ((i + k : Nat) : Int) :: tl := by
  induction xs with
  | nil => intro k h; simp [firstDes] at h
  | cons a xs ih =>
    cases xs with
    | nil => intro k h; simp [firstDes] at h
    | cons b xs =>
      intro k h i
      rw [firstDes] at h
      split at h
      · rename_i hab
        injection h with h
        subst h
        rw [desL, if_pos hab]
        exact ⟨_, rfl⟩
      · rename_i hab
        rw [Option.map_eq_some_iff] at h
        obtain ⟨j, hj, rfl⟩ := h
        rw [desL, if_neg hab]
        obtain ⟨tl, e⟩ := ih hj (i + 1)
        exact ⟨tl, by rw [e, show i + 1 + j = i + (j + 1) by omega]⟩
theorem desL_drop {xs : List Int} {i : Nat} {a b : Int} (ha : xs[i]? = some a) (hb : xs[i + 1]? = some b) : desL i (xs.drop i) = (if b < a then [(i : Int)] else []) ++ desL (i + 1) (xs.drop (i + 1)) := by
  rw [drop_cons ha, drop_cons hb, desL]
  split <;> simp
theorem desL_end {xs : List Int} {i : Nat} (h : xs.length ≤ i + 1) : desL i (xs.drop i) = [] := by
  have hl : (xs.drop i).length ≤ 1 := by rw [List.length_drop]; omega
  match hd : xs.drop i, hl with
  | [], _ => rfl
  | [_], _ => rfl
  | _ :: _ :: _, hl => simp at hl

set_option maxHeartbeats 2000000 in
set_option maxRecDepth 10000 in
theorem impl_descents (p : List Int) (A : Option Addr) (c : Nat) (w : World) (h : Ints w A p) (hl : p.length ≤ 12) :
    Calls Tryz.prog 177 #[.slice A p.length c] w fun e w' => ∃ A' c', e = .returned (.slice A' (desL 0 p).length c') ∧ OwnI w' w.heap.size w'.heap.size A' c' (desL 0 p) ∧ Below w.heap.size w w' := by
  obtain ⟨i0, hi0, hz0, hz1, hz2⟩ := info_parts info_int64
  have o1 := (OwnC.lit (w := w) (lo := w.heap.size) (n := 0) 2 1 #[] (Nat.le_refl _) (Nat.zero_le _) rfl).mono (Nat.le_refl _) (show w.heap.size + 1 ≤ (w.alloc (.cells #[] 2)).heap.size by simp)
  have O1 := Lib.hid o1; clear o1
  have hb1 : Below w.heap.size w (w.alloc (.cells #[] 2)) := by (repeat (first | exact Below.refl _ _ | assumption | apply Below.drew | apply below_drewN | (refine Below.alloc ?_ (by first | omega | (simp; done) | (simp; omega)) _) | (refine Below.setCell ?_ (by first | omega | (simp; done) | (simp; omega)) _)))
  go_enter Tryz.func177, Tryz.ntmps177
  go_wp2_with (fail)
  go_loopw [3, 4] (fun ov kv wr => ∃ (k : Nat) (A' : Option Addr) (c' : Nat) (out : List Int), k ≤ p.length + 1 ∧ kv = .int .i64 k ∧ ov = .slice A' out.length c' ∧ OwnI wr w.heap.size wr.heap.size A' c' out ∧ Below w.heap.size w wr ∧ Hid (desL 0 p = out ++ desL k (p.drop k)) ∧ out.length ≤ k) (fun _ kv _ => p.length + 1 - (intOf kv).toNat)
  case atStart => exact ⟨0, some ⟨w.heap.size, 0, none⟩, 0, [], by omega, rfl, rfl, O1.out, hb1, Lib.hid rfl, by simp⟩
  case round =>
    clear O1 hb1
    obtain ⟨k, A', c', out, hk, rfl, rfl, ho, hb, HD, hol⟩ := hrel
    have hzs := hb.size
    by_cases hkl : k + 1 < p.length
    · obtain ⟨b, off, a, rfl, ca, ha⟩ := (h.below hb) k (by omega)
      obtain ⟨b', off', bb, hA, cb, hbb⟩ := (h.below hb) (k + 1) hkl
      injection hA with hA
      injection hA with hA1 hA2
      subst hA1 hA2
      have j1 : (0 : Int) ≤ (k : Int) := by omega
      have j2 : (k : Int) < (p.length : Int) := by omega
      have j3 : (k : Int) + 1 < (p.length : Int) := by omega
      have j4 : (0 : Int) ≤ (k : Int) + 1 := by omega
      have j5 : ((k : Int) + 1).toNat = k + 1 := by omega
      have j6 : IntKind.i64.wrap ((k : Int) + 1) = (k : Int) + 1 := IntWalk.i64_in _ (by omega)
      have hdr := desL_drop ha hbb
      by_cases hab : bb < a
      · have hd : decide (bb < a) = true := decide_eq_true hab
        have HD2 : Hid (desL 0 p = (out ++ [(k : Int)]) ++ desL (k + 1) (p.drop (k + 1))) := Lib.hid (by rw [HD.out, hdr, if_pos hab, List.append_assoc])
        clear hab hdr
        go_wp2_with (fail)
        (refine wp_region_pops 0 (S := (fun W' => W'.cell? ⟨b, off + k, none⟩ = some (.int .i64 a) ∧ W'.cell? ⟨b, off + (k + 1), none⟩ = some (.int .i64 bb))) (pre := ?_) (T := ?_) (n := ?_) (by kernel_rfl) (by kernel_rfl) ?_ ?_ ?_ ?_ (fun hHeld => ?_); rotate_left 3; (focus (simp only [pops]; rfl)); (focus (simp only [tailOf]; rfl)); (focus rfl); (focus (exact ⟨ca, cb⟩)))
        ((refine wpAnyH_take (i := 0) (v := ?_) rfl (by kernel_rfl) (by kernel_rfl) (by kernel_rfl) (fun _ _ _ h => h) (Or.inl ⟨by rfl, ?_⟩) (by assumption) ?_; rotate_left; (focus (intro W hSw; (try dsimp only at hSw); go_simp; try (with_reducible rfl)))); (try simp only [List.getElem_toArray, List.getElem_cons_zero, Act.put, List.setIfInBounds_toArray, List.set_cons_zero, List.set_cons_succ]); (refine wpAnyH_take (i := 1) (v := ?_) rfl (by kernel_rfl) (by kernel_rfl) (by kernel_rfl) (fun _ _ _ h => h) (Or.inl ⟨by rfl, ?_⟩) (by assumption) ?_; rotate_left; (focus (intro W hSw; (try dsimp only at hSw); go_simp; try (with_reducible rfl)))); (try simp only [List.getElem_toArray, List.getElem_cons_zero, List.getElem_cons_succ, Act.put, List.setIfInBounds_toArray, List.set_cons_zero, List.set_cons_succ]); (refine wpAnyH_take (i := 2) (v := ?_) rfl (by kernel_rfl) (by kernel_rfl) (by kernel_rfl) (fun _ _ _ h => h) (Or.inl ⟨by rfl, ?_⟩) (by assumption) ?_; rotate_left; (focus (intro W hSw; (try dsimp only at hSw); go_simp; try (with_reducible rfl)))); (try simp only [List.getElem_toArray, List.getElem_cons_zero, List.getElem_cons_succ, Act.put, List.setIfInBounds_toArray, List.set_cons_zero, List.set_cons_succ]); (refine wpAnyH_take (i := 3) (v := ?_) rfl (by kernel_rfl) (by kernel_rfl) (by kernel_rfl) (fun _ _ _ h => h) (Or.inl ⟨by rfl, ?_⟩) (by assumption) ?_; rotate_left; (focus (intro W hSw; (try dsimp only at hSw); go_simp; try (with_reducible rfl)))); (try simp only [List.getElem_toArray, List.getElem_cons_zero, List.getElem_cons_succ, Act.put, List.setIfInBounds_toArray, List.set_cons_zero, List.set_cons_succ]); (refine wpAnyH_take (i := 4) (v := ?_) rfl (by kernel_rfl) (by kernel_rfl) (by kernel_rfl) (fun _ _ _ h => h) (Or.inl ⟨by rfl, ?_⟩) (by assumption) ?_; rotate_left; (focus (intro W hSw; (try dsimp only at hSw); go_simp; try (with_reducible rfl)))); (try simp only [List.getElem_toArray, List.getElem_cons_zero, List.getElem_cons_succ, Act.put, List.setIfInBounds_toArray, List.set_cons_zero, List.set_cons_succ]); (refine wpAnyH_take (i := 5) (v := ?_) rfl (by kernel_rfl) (by kernel_rfl) (by kernel_rfl) (fun _ _ _ h => h) (Or.inl ⟨by rfl, ?_⟩) (by assumption) ?_; rotate_left; (focus (intro W hSw; (try dsimp only at hSw); go_simp; try (with_reducible rfl)))); (try simp only [List.getElem_toArray, List.getElem_cons_zero, List.getElem_cons_succ, Act.put, List.setIfInBounds_toArray, List.set_cons_zero, List.set_cons_succ]); (refine wpAnyH_take (i := 6) (v := ?_) rfl (by kernel_rfl) (by kernel_rfl) (by kernel_rfl) (fun _ _ _ h => h) (Or.inl ⟨by rfl, ?_⟩) (by assumption) ?_; rotate_left; (focus (intro W hSw; (try dsimp only at hSw); go_simp; try (with_reducible rfl)))); (try simp only [List.getElem_toArray, List.getElem_cons_zero, List.getElem_cons_succ, Act.put, List.setIfInBounds_toArray, List.set_cons_zero, List.set_cons_succ]); (refine wpAnyH_take (i := 7) (v := ?_) rfl (by kernel_rfl) (by kernel_rfl) (by kernel_rfl) (fun _ _ _ h => h) (Or.inl ⟨by rfl, ?_⟩) (by assumption) ?_; rotate_left; (focus (intro W hSw; (try dsimp only at hSw); go_simp; try (with_reducible rfl)))); (try simp only [List.getElem_toArray, List.getElem_cons_zero, List.getElem_cons_succ, Act.put, List.setIfInBounds_toArray, List.set_cons_zero, List.set_cons_succ]); (refine wpAnyH_take (i := 8) (v := ?_) rfl (by kernel_rfl) (by kernel_rfl) (by kernel_rfl) (fun _ _ _ h => h) (Or.inl ⟨by rfl, ?_⟩) (by assumption) ?_; rotate_left; (focus (intro W hSw; (try dsimp only at hSw); go_simp; try (with_reducible rfl)))); (try simp only [List.getElem_toArray, List.getElem_cons_zero, List.getElem_cons_succ, Act.put, List.setIfInBounds_toArray, List.set_cons_zero, List.set_cons_succ]); (refine wpAnyH_take (i := 9) (v := ?_) rfl (by kernel_rfl) (by kernel_rfl) (by kernel_rfl) (fun _ _ _ h => h) (Or.inl ⟨by rfl, ?_⟩) (by assumption) ?_; rotate_left; (focus (intro W hSw; (try dsimp only at hSw); go_simp; try (with_reducible rfl)))); (try simp only [List.getElem_toArray, List.getElem_cons_zero, List.getElem_cons_succ, Act.put, List.setIfInBounds_toArray, List.set_cons_zero, List.set_cons_succ]))
        (refine wpAnyH_done (by kernel_rfl) ?_ _; change wpList _ _ _ _ _ _)
        clear hHeld
        obtain ⟨w7, hw7⟩ : ∃ w7, w7 = World.drew wr := ⟨_, rfl⟩
        have ho7 : OwnI w7 w.heap.size w7.heap.size A' c' out := by rw [hw7]; exact OwnC.drew1 ho
        have hb7 : Below w.heap.size w w7 := by rw [hw7]; exact hb.drew
        have hz7 : w.heap.size ≤ w7.heap.size := hb7.size
        rw [← hw7]
        clear hw7 ca cb ho hb hzs
        go_wp2_with (at_builtin; refine wpList_append1 w7 [.int .i64 (k : Int)] _ rfl (.tmp 23) (.tmp 25) _ rfl 2 i0 _ 1 8 Tryz.underlying36 hi0 hz0 hz1 hz2 rfl (by decide) rfl ho7 hz7 1 rfl rfl (by simp [Value.oneCell']) (by omega) (by decide) ?_; intro A9 c9 w8 ho8 hg8 hb8 hz8)
        refine ⟨⟨k + 1, A9, c9, out ++ [(k : Int)], by omega, by go_num, by simp, ?_, hb7.trans hb8, HD2, by simp; omega⟩, by simp [intOf]; omega⟩
        show OwnC _ _ _ _ _ _ _ _ _
        rw [List.map_append, List.length_append]
        exact ho8
      · have hd : decide (bb < a) = false := decide_eq_false hab
        have HD2 : Hid (desL 0 p = out ++ desL (k + 1) (p.drop (k + 1))) := Lib.hid (by rw [HD.out, hdr, if_neg hab]; rfl)
        clear hab hdr
        go_wp2_with (fail)
        (refine wp_region_pops 0 (S := (fun W' => W'.cell? ⟨b, off + k, none⟩ = some (.int .i64 a) ∧ W'.cell? ⟨b, off + (k + 1), none⟩ = some (.int .i64 bb))) (pre := ?_) (T := ?_) (n := ?_) (by kernel_rfl) (by kernel_rfl) ?_ ?_ ?_ ?_ (fun hHeld => ?_); rotate_left 3; (focus (simp only [pops]; rfl)); (focus (simp only [tailOf]; rfl)); (focus rfl); (focus (exact ⟨ca, cb⟩)))
        ((refine wpAnyH_take (i := 0) (v := ?_) rfl (by kernel_rfl) (by kernel_rfl) (by kernel_rfl) (fun _ _ _ h => h) (Or.inl ⟨by rfl, ?_⟩) (by assumption) ?_; rotate_left; (focus (intro W hSw; (try dsimp only at hSw); go_simp; try (with_reducible rfl)))); (try simp only [List.getElem_toArray, List.getElem_cons_zero, Act.put, List.setIfInBounds_toArray, List.set_cons_zero, List.set_cons_succ]); (refine wpAnyH_take (i := 1) (v := ?_) rfl (by kernel_rfl) (by kernel_rfl) (by kernel_rfl) (fun _ _ _ h => h) (Or.inl ⟨by rfl, ?_⟩) (by assumption) ?_; rotate_left; (focus (intro W hSw; (try dsimp only at hSw); go_simp; try (with_reducible rfl)))); (try simp only [List.getElem_toArray, List.getElem_cons_zero, List.getElem_cons_succ, Act.put, List.setIfInBounds_toArray, List.set_cons_zero, List.set_cons_succ]); (refine wpAnyH_take (i := 2) (v := ?_) rfl (by kernel_rfl) (by kernel_rfl) (by kernel_rfl) (fun _ _ _ h => h) (Or.inl ⟨by rfl, ?_⟩) (by assumption) ?_; rotate_left; (focus (intro W hSw; (try dsimp only at hSw); go_simp; try (with_reducible rfl)))); (try simp only [List.getElem_toArray, List.getElem_cons_zero, List.getElem_cons_succ, Act.put, List.setIfInBounds_toArray, List.set_cons_zero, List.set_cons_succ]); (refine wpAnyH_take (i := 3) (v := ?_) rfl (by kernel_rfl) (by kernel_rfl) (by kernel_rfl) (fun _ _ _ h => h) (Or.inl ⟨by rfl, ?_⟩) (by assumption) ?_; rotate_left; (focus (intro W hSw; (try dsimp only at hSw); go_simp; try (with_reducible rfl)))); (try simp only [List.getElem_toArray, List.getElem_cons_zero, List.getElem_cons_succ, Act.put, List.setIfInBounds_toArray, List.set_cons_zero, List.set_cons_succ]); (refine wpAnyH_take (i := 4) (v := ?_) rfl (by kernel_rfl) (by kernel_rfl) (by kernel_rfl) (fun _ _ _ h => h) (Or.inl ⟨by rfl, ?_⟩) (by assumption) ?_; rotate_left; (focus (intro W hSw; (try dsimp only at hSw); go_simp; try (with_reducible rfl)))); (try simp only [List.getElem_toArray, List.getElem_cons_zero, List.getElem_cons_succ, Act.put, List.setIfInBounds_toArray, List.set_cons_zero, List.set_cons_succ]); (refine wpAnyH_take (i := 5) (v := ?_) rfl (by kernel_rfl) (by kernel_rfl) (by kernel_rfl) (fun _ _ _ h => h) (Or.inl ⟨by rfl, ?_⟩) (by assumption) ?_; rotate_left; (focus (intro W hSw; (try dsimp only at hSw); go_simp; try (with_reducible rfl)))); (try simp only [List.getElem_toArray, List.getElem_cons_zero, List.getElem_cons_succ, Act.put, List.setIfInBounds_toArray, List.set_cons_zero, List.set_cons_succ]); (refine wpAnyH_take (i := 6) (v := ?_) rfl (by kernel_rfl) (by kernel_rfl) (by kernel_rfl) (fun _ _ _ h => h) (Or.inl ⟨by rfl, ?_⟩) (by assumption) ?_; rotate_left; (focus (intro W hSw; (try dsimp only at hSw); go_simp; try (with_reducible rfl)))); (try simp only [List.getElem_toArray, List.getElem_cons_zero, List.getElem_cons_succ, Act.put, List.setIfInBounds_toArray, List.set_cons_zero, List.set_cons_succ]); (refine wpAnyH_take (i := 7) (v := ?_) rfl (by kernel_rfl) (by kernel_rfl) (by kernel_rfl) (fun _ _ _ h => h) (Or.inl ⟨by rfl, ?_⟩) (by assumption) ?_; rotate_left; (focus (intro W hSw; (try dsimp only at hSw); go_simp; try (with_reducible rfl)))); (try simp only [List.getElem_toArray, List.getElem_cons_zero, List.getElem_cons_succ, Act.put, List.setIfInBounds_toArray, List.set_cons_zero, List.set_cons_succ]); (refine wpAnyH_take (i := 8) (v := ?_) rfl (by kernel_rfl) (by kernel_rfl) (by kernel_rfl) (fun _ _ _ h => h) (Or.inl ⟨by rfl, ?_⟩) (by assumption) ?_; rotate_left; (focus (intro W hSw; (try dsimp only at hSw); go_simp; try (with_reducible rfl)))); (try simp only [List.getElem_toArray, List.getElem_cons_zero, List.getElem_cons_succ, Act.put, List.setIfInBounds_toArray, List.set_cons_zero, List.set_cons_succ]); (refine wpAnyH_take (i := 9) (v := ?_) rfl (by kernel_rfl) (by kernel_rfl) (by kernel_rfl) (fun _ _ _ h => h) (Or.inl ⟨by rfl, ?_⟩) (by assumption) ?_; rotate_left; (focus (intro W hSw; (try dsimp only at hSw); go_simp; try (with_reducible rfl)))); (try simp only [List.getElem_toArray, List.getElem_cons_zero, List.getElem_cons_succ, Act.put, List.setIfInBounds_toArray, List.set_cons_zero, List.set_cons_succ]))
        (refine wpAnyH_done (by kernel_rfl) ?_ _; change wpList _ _ _ _ _ _)
        clear hHeld
        go_wp2_with (fail)
        refine ⟨⟨k + 1, A', c', out, by omega, by go_num, rfl, OwnC.drew1 ho, hb.drew, HD2, by omega⟩, by simp [intOf]; omega⟩
    · have HE : Hid (desL 0 p = out) := Lib.hid (by rw [HD.out, desL_end (by omega), List.append_nil])
      go_wp2_with (fail)
      go_ret
      rw [HE.out]
      exact ⟨_, _, rfl, ho, hb⟩

end Go.Proofs.YtnjgmhdmjaijgaaGreat

/- A region whose last ready operation is a store. -/
namespace Go.Proofs.YtnjgmhdmjaijgaaGreat
open Go Go.RowKit

def lastQ (S : World → Prop) (Q : Exit → Act → World → Prop) : Exit → Act → World → Prop
  | .normal, a, w => S w ∧ Q .normal a w
  | e, a, w => Q e a w
theorem lastQ_mk {S : World → Prop} {Q : Exit → Act → World → Prop} {a : Act} {w : World} (hS : S w) (hQ : Q .normal a w) : lastQ S Q .normal a w := ⟨hS, hQ⟩
theorem wpAnyH_end {P : Program} {md : Region.Mode} {ops : Array Oper} {Q : Exit → Act → World → Prop} {S : World → Prop} {fuel : Nat} {listed : Array Bool} {a : Act} {w : World} {i : Nat} {o : Oper}
    (hr : Region.ready md ops listed = [i]) (ho : ops[i]? = some o) (hg : o.guard = none) (hall : Region.ready md ops (listed.setIfInBounds i true) = []) (h : wpList P #[] (lastQ S Q) [o] a w) : wpAnyH P md ops Q S (fuel + 1) listed a w :=
  wpAnyH_ready hr (by simp) (fun j hj => by
    obtain rfl := List.mem_singleton.1 hj
    unfold wpOp
    rw [ho]
    have hw : Region.wanted o (yielded ops a.tmps) = true := by simp [Region.wanted, hg]
    have hw0 : Region.wanted o (yielded #[] a.tmps) = true := by simp [Region.wanted, hg]
    simp only [hw, if_true]
    unfold wpList at h
    simp only [hw0, if_true] at h
    rcases h with h | ⟨h1, h2⟩
    · exact .inl (Oper.wp_le (fun a w hq => ⟨hq.1, wpAnyH_done hall hq.2 _⟩) (fun _ _ _ h => h) (fun ⟨a, w, h⟩ => ⟨a, w, h⟩) h)
    · exact .inr ⟨h1, h2.imp fun a h => h.imp fun w h => h⟩)

end Go.Proofs.YtnjgmhdmjaijgaaGreat

/- Permutations: the program's sorting word. -/
namespace Go.Proofs.YtnjgmhdmjaijgaaGreat
open Go Go.RowKit

end Go.Proofs.YtnjgmhdmjaijgaaGreat

/- Permutations: the letters. -/
namespace Go.Proofs.YtnjgmhdmjaijgaaGreat
open Go Go.RowKit

theorem permWord_mem (p : List Int) : ∀ x ∈ permWord p, 0 ≤ x ∧ x + 1 < (p.length : Int) := by
  have key : ∀ (f : Nat) (xs : List Int), ∀ x ∈ permFuel f xs, 0 ≤ x ∧ x + 1 < (xs.length : Int) := by
    intro f
    induction f with
    | zero => intro xs x h; simp [permFuel] at h
    | succ f ih =>
      intro xs x h
      rw [permFuel] at h
      cases hf : firstDes xs with
      | none => rw [hf] at h; simp at h
      | some k =>
        rw [hf] at h
        obtain ⟨a, b, ha, hb, _⟩ := firstDes_some hf
        have hk := (List.getElem?_eq_some_iff.1 hb).1
        rcases List.mem_cons.1 h with rfl | h
        · omega
        · have := ih _ x h
          rw [swapL_at ha hb, List.length_set, List.length_set] at this
          exact this
  exact key _ _
def addTo (i : Nat) (ws : List Int) : List Int := (ws.take i).map (· + 1) ++ ws.drop i
theorem addTo_at {ws : List Int} {i : Nat} {x : Int} (h : ws[i]? = some x) : (addTo i ws)[i]? = some x ∧ (addTo i ws).set i (x + 1) = addTo (i + 1) ws := by
  have hi := (List.getElem?_eq_some_iff.1 h).1
  have hl : ((ws.take i).map (· + 1)).length = i := by rw [List.length_map, List.length_take]; omega
  refine ⟨?_, ?_⟩
  · unfold addTo
    rw [List.getElem?_append_right (by omega), hl, Nat.sub_self, List.getElem?_drop, Nat.add_zero]
    exact h
  · unfold addTo
    rw [List.set_append_right _ _ (by omega), hl, Nat.sub_self, drop_cons h, List.set_cons_zero, take_snoc h, List.map_append, List.append_assoc]
    rfl
theorem addTo_length (i : Nat) (ws : List Int) : (addTo i ws).length = ws.length := by
  unfold addTo
  rw [List.length_append, List.length_map, List.length_take, List.length_drop]
  omega
theorem addTo_end (ws : List Int) : addTo ws.length ws = ws.map (· + 1) := by
  unfold addTo
  rw [List.take_length, List.drop_length, List.append_nil]
def permLetters (p : List Int) : List Int := (permWord p).map (· + 1)

end Go.Proofs.YtnjgmhdmjaijgaaGreat

/- Permutations: the plain tests. -/
namespace Go.Proofs.YtnjgmhdmjaijgaaGreat
open Go Go.RowKit

/-- Each entry lies between 0 and n-1 and is not among those before it. -/
def permGo (n : Int) : List Int → List Int → Bool
  | _, [] => true
  | done, x :: xs => inR x 0 (n - 1) && !decide (x ∈ done) && permGo n (done ++ [x]) xs
def permB (p : List Int) : Bool := decide (p.length ≤ 12) && permGo p.length [] p
theorem invs_half (xs : List Int) : 2 * invs xs + xs.length ≤ xs.length * xs.length := by
  induction xs with
  | nil => simp [invs]
  | cons x xs ih =>
    have h := List.countP_le_length (p := fun y => decide (y < x)) (l := xs)
    rw [invs, List.length_cons]
    have e : (xs.length + 1) * (xs.length + 1) = xs.length * xs.length + 2 * xs.length + 1 := by simp [Nat.add_mul, Nat.mul_add]; omega
    omega
theorem permLetters_length (p : List Int) : (permLetters p).length = (permWord p).length := by rw [permLetters, List.length_map]
theorem perm_braid {p : List Int} (h : p.length ≤ 8) : braidB p.length (permLetters p) = true ∧ (permLetters p).length ≤ 28 := by
  have h1 := permWord_length p
  have h2 := invs_half p
  have h3 : p.length * p.length ≤ 7 * p.length + p.length := by have := Nat.mul_le_mul_right p.length h; omega
  have h28 : (permLetters p).length ≤ 28 := by
    rw [permLetters_length]
    rcases (by omega : p.length = 0 ∨ p.length = 1 ∨ p.length = 2 ∨ p.length = 3 ∨ p.length = 4 ∨ p.length = 5 ∨ p.length = 6 ∨ p.length = 7 ∨ p.length = 8) with e | e | e | e | e | e | e | e | e <;> rw [e] at h2 <;> omega
  refine ⟨?_, h28⟩
  rw [braidB]
  simp only [Bool.and_eq_true, decide_eq_true_eq]
  refine ⟨⟨by rw [inR_iff]; omega, by omega⟩, ?_⟩
  rw [lettersB, List.all_eq_true]
  intro y hy
  rw [permLetters, List.mem_map] at hy
  obtain ⟨x, hx, rfl⟩ := hy
  have := permWord_mem p x hx
  unfold letterB
  rw [Bool.and_eq_true, decide_eq_true_eq, inR_iff]
  omega

end Go.Proofs.YtnjgmhdmjaijgaaGreat

/- Permutations: the given side's test. -/
namespace Go.Proofs.YtnjgmhdmjaijgaaGreat
open Go Go.RowKit

def seenC (n : Nat) (done : List Int) : List Value := (List.range n).map fun (v : Nat) => Value.bool (decide ((v : Int) ∈ done))
theorem seenC_length (n : Nat) (done : List Int) : (seenC n done).length = n := by simp [seenC]
theorem seenC_at {n v : Nat} (done : List Int) (h : v < n) : (seenC n done)[v]? = some (.bool (decide ((v : Int) ∈ done))) := by simp [seenC, h]
theorem seenC_set {n v : Nat} (done : List Int) (h : v < n) : (seenC n done).set v (.bool true) = seenC n (done ++ [(v : Int)]) := by
  apply List.ext_getElem?
  intro i
  rw [List.getElem?_set]
  by_cases hi : i < n
  · rw [seenC_at _ hi]
    by_cases hv : v = i
    · subst hv
      rw [if_pos rfl, if_pos (by rw [seenC_length]; exact h), seenC_at _ h]
      congr 2
      exact (decide_eq_true (List.mem_append.2 (.inr (List.mem_singleton.2 rfl)))).symm
    · rw [if_neg hv, seenC_at _ hi]
      have : ((i : Int) ∈ done ++ [(v : Int)]) ↔ (i : Int) ∈ done := by
        rw [List.mem_append, List.mem_singleton]
        constructor
        · rintro (h | h)
          · exact h
          · omega
        · exact .inl
      simp only [this]
  · rw [if_neg (by omega), List.getElem?_eq_none (by rw [seenC_length]; omega), List.getElem?_eq_none (by rw [seenC_length]; omega)]
theorem seenC_nil (n : Nat) : seenC n [] = List.replicate n (.bool false) := by
  apply List.ext_getElem?
  intro i
  by_cases hi : i < n
  · rw [seenC_at _ hi, List.getElem?_replicate, if_pos hi]; rfl
  · rw [List.getElem?_eq_none (by rw [seenC_length]; omega), List.getElem?_replicate, if_neg hi]
theorem permGo_drop {p : List Int} {k : Nat} {x : Int} (h : p[k]? = some x) (n : Int) : permGo n (p.take k) (p.drop k) = (inR x 0 (n - 1) && !decide (x ∈ p.take k) && permGo n (p.take (k + 1)) (p.drop (k + 1))) := by
  rw [drop_cons h, permGo, ← take_snoc h]

end Go.Proofs.YtnjgmhdmjaijgaaGreat

/- Permutations: the given side's test, walked. -/
namespace Go.Proofs.YtnjgmhdmjaijgaaGreat
open Go Go.RowKit

theorem info_bool : (Tryz.prog.info? 4).map (fun i => (i.zero, i.size, i.bytes)) = some (some (.bool false), 1, 1) := by kernel_rfl

end Go.Proofs.YtnjgmhdmjaijgaaGreat

/- Permutations: the program's test. -/
namespace Go.Proofs.YtnjgmhdmjaijgaaGreat
open Go Go.RowKit

theorem Blk.setAt {w : World} {g : Nat} {t : TypeId} {cs : Array Value} (h : Blk w g t cs) (j : Nat) (u : Value) : Blk (w.setCell ⟨g, j, none⟩ u) g t (cs.setIfInBounds j u) := by
  unfold Blk at h ⊢
  simp [World.setCell, Array.getElem?_modify, h]
end Go.Proofs.YtnjgmhdmjaijgaaGreat

/- ChartOfBraid, the program's side. -/
namespace Go.Proofs.YtnjgmhdmjaijgaaGreat
open Go.RowKit

def cowCode (n : Int) (xs : List Int) (car : Int) : Int := if inR n 1 8 && carrierB car then (if (pack xs).length ≤ 8 ∧ xs.length ≤ 40 then 0 else 5) else 2
def cowX (n : Int) (xs : List Int) (car : Int) : ChX := if cowCode n xs car = 0 then ⟨n, rowsFrom n.toNat car (groupsOf xs) (-1)⟩ else ⟨0, []⟩
theorem cow_err {n : Int} {xs : List Int} {car k : Int} (e : cowCode n xs car = k) (hk : k ≠ 0) : cowX n xs car = ⟨0, []⟩ ∧ cowCode n xs car = k := ⟨by rw [cowX, if_neg (by rw [e]; exact hk)], e⟩
theorem cow_cob {n : Int} {xs : List Int} {car : Int} (h : braidB n xs = true) : cowCode n xs car = cobCode n xs car ∧ cowX n xs car = cobX n xs car := by
  have h4 := (braidB_of h).2.2.1
  have e : cowCode n xs car = cobCode n xs car := by
    unfold cowCode cobCode
    rw [h]
    simp [h4]
  exact ⟨e, by rw [cowX, cobX, e]⟩

set_option maxHeartbeats 4000000 in
set_option maxRecDepth 10000 in
theorem impl_chartOfWord (n : Int) (xs : List Int) (car : Int) (A : Option Addr) (c : Nat) (w : World) (h : Ints w A xs) (hl : xs.length ≤ 1000) (hsm : smallB xs) :
    Calls Tryz.prog 41 #[.int .i64 n, .slice A xs.length c, .int .i64 car] w fun e w' => ∃ A' c', e = .returned (.tuple #[.agg #[.int .i64 (cowX n xs car).n, .slice A' (cowX n xs car).xs.length c'], .int .i64 (cowCode n xs car)]) ∧ OwnRows w' w.heap.size w'.heap.size A' (cowX n xs car).xs.length c' (cowX n xs car).xs ∧ Below w.heap.size w w' := by
  have t1 : (30 : TypeId) ≠ 2 := by decide
  have t2 : (30 : TypeId) ≠ 50 := by decide
  have hb1 : Below w.heap.size w (w.alloc (.cells #[.int .i64 0, .slice none 0 0] 30)) := by (repeat (first | exact Below.refl _ _ | assumption | apply Below.drew | apply below_drewN | (refine Below.alloc ?_ (by first | omega | (simp; done) | (simp; omega)) _) | (refine Below.setCell ?_ (by first | omega | (simp; done) | (simp; omega)) _)))
  have kz := Blk.new w 30 #[.int .i64 0, .slice none 0 0]
  cases hn : inR n 1 8
  · have HF : Hid (cowX n xs car = ⟨0, []⟩ ∧ cowCode n xs car = 2) := Lib.hid (cow_err (by simp [cowCode, hn]) (by decide))
    go_enter Tryz.func41, Tryz.ntmps41
    go_wp2_with (first | (go_at_call 50; refine (impl_within _ _ _ _).mono ?_; rintro e _ ⟨rfl, rfl⟩) | (go_at_call 52; refine (impl_isCarrier _ _).mono ?_; rintro e _ ⟨rfl, rfl⟩))
    refine bodyPost_ret (v := .tuple #[.agg #[.int .i64 (cowX n xs car).n, .slice none (cowX n xs car).xs.length 0], .int .i64 (cowCode n xs car)]) (by rw [HF.out.1, HF.out.2]; simp [results, Tryz.results41, go_sem]) rfl ⟨none, 0, rfl, ?_, ?_⟩
    · rw [HF.out.1]; exact OwnRows.nil _ _ _
    · (repeat (first | exact Below.refl _ _ | assumption | apply Below.drew | apply below_drewN | (refine Below.alloc ?_ (by first | omega | (simp; done) | (simp; omega)) _) | (refine Below.setCell ?_ (by first | omega | (simp; done) | (simp; omega)) _)))
  · cases hc : carrierB car
    · have HF : Hid (cowX n xs car = ⟨0, []⟩ ∧ cowCode n xs car = 2) := Lib.hid (cow_err (by simp [cowCode, hn, hc]) (by decide))
      go_enter Tryz.func41, Tryz.ntmps41
      go_wp2_with (first | (go_at_call 50; refine (impl_within _ _ _ _).mono ?_; rintro e _ ⟨rfl, rfl⟩) | (go_at_call 52; refine (impl_isCarrier _ _).mono ?_; rintro e _ ⟨rfl, rfl⟩))
      refine bodyPost_ret (v := .tuple #[.agg #[.int .i64 (cowX n xs car).n, .slice none (cowX n xs car).xs.length 0], .int .i64 (cowCode n xs car)]) (by rw [HF.out.1, HF.out.2]; simp [results, Tryz.results41, go_sem]) rfl ⟨none, 0, rfl, ?_, ?_⟩
      · rw [HF.out.1]; exact OwnRows.nil _ _ _
      · (repeat (first | exact Below.refl _ _ | assumption | apply Below.drew | apply below_drewN | (refine Below.alloc ?_ (by first | omega | (simp; done) | (simp; omega)) _) | (refine Below.setCell ?_ (by first | omega | (simp; done) | (simp; omega)) _)))
    · have hn18 := inR_iff.1 hn
      have HS : Hid (smallB xs) := Lib.hid hsm
      have hpk : (pack xs).length ≤ 1000 := by have := pack_size xs; omega
      go_enter Tryz.func41, Tryz.ntmps41
      go_wp2_with (first | (go_at_call 50; refine (impl_within _ _ _ _).mono ?_; rintro e _ ⟨rfl, rfl⟩) | (go_at_call 52; refine (impl_isCarrier _ _).mono ?_; rintro e _ ⟨rfl, rfl⟩))
      refine (impl_packed A c xs _ (h.below hb1) (by omega) HS.out).mono ?_; rintro e w3 ⟨A3, c3, rfl, o3, b3⟩
      have hz3 : w.heap.size + 1 ≤ w3.heap.size := by have := b3.size; simpa using this
      have kz3 : Blk w3 w.heap.size 30 #[.int .i64 0, .slice none 0 0] := kz.below b3 (by simp)
      have hb3 : Below w.heap.size w w3 := hb1.trans (b3.mono (by simp))
      have HI3 := Lib.hid o3.ints2
      clear kz hb1
      by_cases h8 : (pack xs).length ≤ 8
      · by_cases h4 : xs.length ≤ 40
        · have HC : Hid (cowCode n xs car = 0) := Lib.hid (by simp [cowCode, hn, hc, h8, h4])
          have HF : Hid (cowX n xs car = ⟨n, rowsFrom n.toNat car (groupsOf xs) (-1)⟩) := Lib.hid (by rw [cowX, if_pos HC.out])
          obtain ⟨m, rfl⟩ := Int.eq_ofNat_of_zero_le (show (0 : Int) ≤ n by omega)
          have e4 : decide ((xs.length : Int) > 40) = false := decide_eq_false (by omega)
          by_cases h0 : pack xs = []
          · have HG : Hid (groupsOf xs = [[]]) := Lib.hid (by rw [groupsOf, if_pos h0])
            have e0 : (pack xs).length = 0 := by rw [h0]; rfl
            obtain ⟨i0, hi0, hy0, hy1, hy2⟩ := info_parts info_Row
            rw [e0]
            go_wp2_with (fail)
            have kzB : Blk (w3.alloc (.cells #[.slice none 0 0] 36)) w.heap.size 30 #[.int .i64 0, .slice none 0 0] := kz3.alloc _
            have hzB : w.heap.size < (w3.alloc (.cells #[.slice none 0 0] 36)).heap.size := kzB.lt
            have HBB : Below w.heap.size w (w3.alloc (.cells #[.slice none 0 0] 36)) := hb3.alloc (by omega) _
            have hsz3 : (w3.alloc (.cells #[.slice none 0 0] 36)).heap.size = w3.heap.size + 1 := by simp
            have HIB : Hid (Ints2 (w3.alloc (.cells #[.slice none 0 0] 36)) (some ⟨w3.heap.size, 0, none⟩) [[]]) := Lib.hid (by
              intro k hk
              obtain rfl : k = 0 := by simpa using hk
              exact ⟨w3.heap.size, 0, none, 0, [], rfl, rfl, (Blk.new w3 36 #[.slice none 0 0]).c1, Ints.nil, by simp⟩)
            have HS3 := Lib.hid hsz3; clear hsz3
            obtain ⟨wB, hwB⟩ : ∃ wB, wB = w3.alloc (.cells #[.slice none 0 0] 36) := ⟨_, rfl⟩
            rw [← hwB] at kzB hzB HBB HIB HS3 ⊢
            try rw [← HS3.out]
            clear hwB
            generalize hA6 : (some ⟨w3.heap.size, 0, none⟩ : Option Addr) = A6 at HIB ⊢
            clear hA6
            obtain ⟨p0, p1⟩ := (Blk.new wB 30 #[.int .i64 m, .slice none 0 0]).c2
            go_loopw [10, 41] (fun dv iv wr => ∃ (k : Nat) (d : Int) (done : List RowD), k ≤ 1 ∧ dv = .int .i64 d ∧ iv = .int .i64 k ∧ (d = -1 ∨ d = 1) ∧ Hid (rowsFrom m car ([[]]) (-1) = done ++ rowsFrom m car (([[]]).drop k) d) ∧ ChartInv m (wB).heap.size (wB) wr k done) (fun _ iv _ => 1 - (intOf iv).toNat)
            case atStart => exact ⟨0, -1, [], Nat.zero_le _, rfl, rfl, .inl rfl, Lib.hid rfl, ChartInv.start _ _⟩
            case round =>
              clear p0 p1
              obtain ⟨k, d, done, hk, rfl, rfl, hd, HD, hinv⟩ := hrel
              obtain ⟨hdl, hb, hlt, A', c', cs, kb, ho, hcr⟩ := hinv
              have kzr := kzB.below hb (by omega)
              obtain ⟨s0, s1⟩ := kb.c2
              by_cases hkl : k < 1
              · obtain ⟨b, off, A2, c2, g, rfl, hx, hc2, hi, hgl⟩ := (HIB.out.below hb) k hkl
                have HX := Lib.hid hx; clear hx
                have hg40 : g.length ≤ 9223372036854775807 := by omega
                have j1 : (0 : Int) ≤ (k : Int) := by omega
                have j2 : (k : Int) < ((1 : Nat) : Int) := by omega
                have j4 : IntKind.i64.wrap (-d) = -d := IntWalk.i64_in _ (by omega)
                have j5 : IntKind.i64.wrap ((k : Int) + 1) = (k : Int) + 1 := IntWalk.i64_in _ (by omega)
                go_wp2_with (fail)
                go_region_law (first | (go_simp; go_at_call 57; refine (impl_rowOfLetters m g d car A2 c2 _ (Ints.drew1 hi) hg40 (by omega)).mono ?_; rintro e w4 ⟨A4, c4, rfl, o4', b4'⟩; have b4 := undrew b4'; have u1 := (kb.below b4 hlt).c2.2; have u2 := cell_alloc u1 (.cells #[.int .i64 d, .int .i64 car, .slice A4 (rowFrom m g 0).length c4] 50)) | (refine step_append1 [.int .i64 d, .int .i64 car, .slice A4 (rowFrom m g 0).length c4] _ rfl (.tmp 46) (.tmp 52) _ rfl 50 i0 _ 3 40 Tryz.underlying28 hi0 hy0 hy1 hy2 rfl (by decide) (by simp [Act.eval]) (ho.below b4 (Nat.le_refl _)) (by have := b4.size; omega) 1 (by simp [Act.eval]) rfl (by simp [Value.oneCell']) (by omega) (by decide) ?_; intro A5 c5 w5 ho5 hg5 hb5 hz5; have kb5 := ((kb.below b4 hlt).alloc (.cells #[.int .i64 d, .int .i64 car, .slice A4 (rowFrom m g 0).length c4] 50)).grownT ((ho.below b4 (Nat.le_refl _)).alloc (.cells #[.int .i64 d, .int .i64 car, .slice A4 (rowFrom m g 0).length c4] 50)) t2 hg5; obtain ⟨v0, v1⟩ := kb5.c2; have v2 := kb5.frozen 1))
                all_goals go_wp2_with (fail)
                all_goals
                  have hinv' := ChartInv.step ⟨d, car, rowFrom m g 0⟩ hdl hb hlt kb ho hcr b4 o4' ho5 hg5 hb5 hz5
                  refine ⟨⟨k + 1, -d, done ++ [⟨d, car, rowFrom m g 0⟩], by omega, rfl, by go_num, by omega, Lib.hid (by rw [HD.out, rowsFrom_drop HX.out, List.append_assoc]; rfl), hinv'⟩, by simp [intOf]; omega⟩
              · obtain rfl : k = 1 := by omega
                have hfin : cowX m xs car = ⟨m, done⟩ := by
                  have h9 := HD.out
                  rw [drop_all (by simp), rowsFrom, List.append_nil] at h9
                  rw [HF.out, HG.out, Int.toNat_natCast, h9]
                have HFN := Lib.hid hfin; clear hfin
                obtain ⟨A7, c7, kc, oo⟩ := ChartInv.rows ⟨hdl, hb, hlt, A', c', cs, kb, ho, hcr⟩
                obtain ⟨p0, p1⟩ := kc.c2
                obtain ⟨r0, r1⟩ := kzr.c2
                have g0 := kzr.frozen 0
                have g1 := kzr.frozen 1
                have hbw : Below w.heap.size w wr := HBB.trans (hb.mono (by omega))
                clear s0 s1
                have HDL := Lib.hid hdl; clear hdl
                go_wp2_with (fail)
                refine bodyPost_ret (v := .tuple #[.agg #[.int .i64 (cowX m xs car).n, .slice A7 (cowX m xs car).xs.length c7], .int .i64 (cowCode m xs car)]) (by rw [HFN.out, HC.out]; simp [results, Tryz.results41, go_sem, r0, r1, HDL.out]) rfl ⟨A7, c7, rfl, ?_, ?_⟩
                · rw [HFN.out]
                  have k1 := kzr.set20 (.int .i64 m)
                  show OwnRows _ _ _ _ done.length _ done
                  rw [HDL.out]
                  exact ((oo.farT kzr t1 t2 0 _).farT k1 t1 t2 1 _).mono (by omega) (by simp)
                · (repeat (first | exact Below.refl _ _ | assumption | apply Below.drew | apply below_drewN | (refine Below.alloc ?_ (by first | omega | (simp; done) | (simp; omega)) _) | (refine Below.setCell ?_ (by first | omega | (simp; done) | (simp; omega)) _)))
          · have HG : Hid (groupsOf xs = pack xs) := Lib.hid (by rw [groupsOf, if_neg h0])
            obtain ⟨i0, hi0, hy0, hy1, hy2⟩ := info_parts info_Row
            have hpos : 0 < (pack xs).length := List.length_pos_iff.2 h0
            have e1 : ((((pack xs).length : Nat) : Int) == 0) = false := beq_eq_false_iff_ne.2 (by omega)
            have e2 : decide ((((pack xs).length : Nat) : Int) > 8) = false := decide_eq_false (by omega)
            clear h0
            generalize hgs : pack xs = gs at *
            have HGS := Lib.hid hgs; clear hgs
            go_wp2_with (fail)
            have kzB := kz3
            have hzB : w.heap.size < w3.heap.size := kzB.lt
            have HBB := hb3
            have HIB := HI3
            obtain ⟨p0, p1⟩ := (Blk.new w3 30 #[.int .i64 m, .slice none 0 0]).c2
            go_loopw [10, 41] (fun dv iv wr => ∃ (k : Nat) (d : Int) (done : List RowD), k ≤ gs.length ∧ dv = .int .i64 d ∧ iv = .int .i64 k ∧ (d = -1 ∨ d = 1) ∧ Hid (rowsFrom m car (gs) (-1) = done ++ rowsFrom m car ((gs).drop k) d) ∧ ChartInv m (w3).heap.size (w3) wr k done) (fun _ iv _ => gs.length - (intOf iv).toNat)
            case atStart => exact ⟨0, -1, [], Nat.zero_le _, rfl, rfl, .inl rfl, Lib.hid rfl, ChartInv.start _ _⟩
            case round =>
              clear p0 p1
              obtain ⟨k, d, done, hk, rfl, rfl, hd, HD, hinv⟩ := hrel
              obtain ⟨hdl, hb, hlt, A', c', cs, kb, ho, hcr⟩ := hinv
              have kzr := kzB.below hb (by omega)
              obtain ⟨s0, s1⟩ := kb.c2
              by_cases hkl : k < gs.length
              · obtain ⟨b, off, A2, c2, g, rfl, hx, hc2, hi, hgl⟩ := (HIB.out.below hb) k hkl
                have HX := Lib.hid hx; clear hx
                have hg40 : g.length ≤ 9223372036854775807 := by omega
                have j1 : (0 : Int) ≤ (k : Int) := by omega
                have j2 : (k : Int) < ((gs.length : Nat) : Int) := by omega
                have j4 : IntKind.i64.wrap (-d) = -d := IntWalk.i64_in _ (by omega)
                have j5 : IntKind.i64.wrap ((k : Int) + 1) = (k : Int) + 1 := IntWalk.i64_in _ (by omega)
                go_wp2_with (fail)
                go_region_law (first | (go_simp; go_at_call 57; refine (impl_rowOfLetters m g d car A2 c2 _ (Ints.drew1 hi) hg40 (by omega)).mono ?_; rintro e w4 ⟨A4, c4, rfl, o4', b4'⟩; have b4 := undrew b4'; have u1 := (kb.below b4 hlt).c2.2; have u2 := cell_alloc u1 (.cells #[.int .i64 d, .int .i64 car, .slice A4 (rowFrom m g 0).length c4] 50)) | (refine step_append1 [.int .i64 d, .int .i64 car, .slice A4 (rowFrom m g 0).length c4] _ rfl (.tmp 46) (.tmp 52) _ rfl 50 i0 _ 3 40 Tryz.underlying28 hi0 hy0 hy1 hy2 rfl (by decide) (by simp [Act.eval]) (ho.below b4 (Nat.le_refl _)) (by have := b4.size; omega) 1 (by simp [Act.eval]) rfl (by simp [Value.oneCell']) (by omega) (by decide) ?_; intro A5 c5 w5 ho5 hg5 hb5 hz5; have kb5 := ((kb.below b4 hlt).alloc (.cells #[.int .i64 d, .int .i64 car, .slice A4 (rowFrom m g 0).length c4] 50)).grownT ((ho.below b4 (Nat.le_refl _)).alloc (.cells #[.int .i64 d, .int .i64 car, .slice A4 (rowFrom m g 0).length c4] 50)) t2 hg5; obtain ⟨v0, v1⟩ := kb5.c2; have v2 := kb5.frozen 1))
                all_goals go_wp2_with (fail)
                all_goals
                  have hinv' := ChartInv.step ⟨d, car, rowFrom m g 0⟩ hdl hb hlt kb ho hcr b4 o4' ho5 hg5 hb5 hz5
                  refine ⟨⟨k + 1, -d, done ++ [⟨d, car, rowFrom m g 0⟩], by omega, rfl, by go_num, by omega, Lib.hid (by rw [HD.out, rowsFrom_drop HX.out, List.append_assoc]; rfl), hinv'⟩, by simp [intOf]; omega⟩
              · obtain rfl : k = gs.length := by omega
                have hfin : cowX m xs car = ⟨m, done⟩ := by
                  have h9 := HD.out
                  rw [drop_all (by simp), rowsFrom, List.append_nil] at h9
                  rw [HF.out, HG.out, Int.toNat_natCast, h9]
                have HFN := Lib.hid hfin; clear hfin
                obtain ⟨A7, c7, kc, oo⟩ := ChartInv.rows ⟨hdl, hb, hlt, A', c', cs, kb, ho, hcr⟩
                obtain ⟨p0, p1⟩ := kc.c2
                obtain ⟨r0, r1⟩ := kzr.c2
                have g0 := kzr.frozen 0
                have g1 := kzr.frozen 1
                have hbw : Below w.heap.size w wr := HBB.trans (hb.mono (by omega))
                clear s0 s1
                have HDL := Lib.hid hdl; clear hdl
                go_wp2_with (fail)
                refine bodyPost_ret (v := .tuple #[.agg #[.int .i64 (cowX m xs car).n, .slice A7 (cowX m xs car).xs.length c7], .int .i64 (cowCode m xs car)]) (by rw [HFN.out, HC.out]; simp [results, Tryz.results41, go_sem, r0, r1, HDL.out]) rfl ⟨A7, c7, rfl, ?_, ?_⟩
                · rw [HFN.out]
                  have k1 := kzr.set20 (.int .i64 m)
                  show OwnRows _ _ _ _ done.length _ done
                  rw [HDL.out]
                  exact ((oo.farT kzr t1 t2 0 _).farT k1 t1 t2 1 _).mono (by omega) (by simp)
                · (repeat (first | exact Below.refl _ _ | assumption | apply Below.drew | apply below_drewN | (refine Below.alloc ?_ (by first | omega | (simp; done) | (simp; omega)) _) | (refine Below.setCell ?_ (by first | omega | (simp; done) | (simp; omega)) _)))
        · have HF : Hid (cowX n xs car = ⟨0, []⟩ ∧ cowCode n xs car = 5) := Lib.hid (cow_err (by simp [cowCode, hn, hc, h4]) (by decide))
          have e1 : decide ((xs.length : Int) > 40) = true := decide_eq_true (by omega)
          have e2 : decide ((((pack xs).length : Nat) : Int) > 8) = false := decide_eq_false (by omega)
          obtain ⟨r0, r1⟩ := kz3.c2
          have g0 := kz3.frozen 0
          have g1 := kz3.frozen 1
          go_wp2_with (fail)
          refine bodyPost_ret (v := .tuple #[.agg #[.int .i64 (cowX n xs car).n, .slice none (cowX n xs car).xs.length 0], .int .i64 (cowCode n xs car)]) (by rw [HF.out.1, HF.out.2]; simp [results, Tryz.results41, go_sem, r0, r1]) rfl ⟨none, 0, rfl, ?_, ?_⟩
          · rw [HF.out.1]; exact OwnRows.nil _ _ _
          · (repeat (first | exact Below.refl _ _ | assumption | apply Below.drew | apply below_drewN | (refine Below.alloc ?_ (by first | omega | (simp; done) | (simp; omega)) _) | (refine Below.setCell ?_ (by first | omega | (simp; done) | (simp; omega)) _)))
      · have HF : Hid (cowX n xs car = ⟨0, []⟩ ∧ cowCode n xs car = 5) := Lib.hid (cow_err (by simp [cowCode, hn, hc, h8]) (by decide))
        have e2 : decide ((((pack xs).length : Nat) : Int) > 8) = true := decide_eq_true (by omega)
        obtain ⟨r0, r1⟩ := kz3.c2
        have g0 := kz3.frozen 0
        have g1 := kz3.frozen 1
        go_wp2_with (fail)
        refine bodyPost_ret (v := .tuple #[.agg #[.int .i64 (cowX n xs car).n, .slice none (cowX n xs car).xs.length 0], .int .i64 (cowCode n xs car)]) (by rw [HF.out.1, HF.out.2]; simp [results, Tryz.results41, go_sem, r0, r1]) rfl ⟨none, 0, rfl, ?_, ?_⟩
        · rw [HF.out.1]; exact OwnRows.nil _ _ _
        · (repeat (first | exact Below.refl _ _ | assumption | apply Below.drew | apply below_drewN | (refine Below.alloc ?_ (by first | omega | (simp; done) | (simp; omega)) _) | (refine Below.setCell ?_ (by first | omega | (simp; done) | (simp; omega)) _)))

set_option maxHeartbeats 2000000 in
set_option maxRecDepth 10000 in
theorem impl_ChartOfBraid (n : Int) (xs : List Int) (car : Int) (A : Option Addr) (c : Nat) (w : World) (h : Ints w A xs) (hl : xs.length ≤ 9223372036854775807) :
    Calls Tryz.prog 13 #[.agg #[.int .i64 n, .slice A xs.length c], .int .i64 car] w fun e w' => ∃ A' c', e = .returned (.tuple #[.agg #[.int .i64 (cobX n xs car).n, .slice A' (cobX n xs car).xs.length c'], .int .i64 (cobCode n xs car)]) ∧ OwnRows w' w.heap.size w'.heap.size A' (cobX n xs car).xs.length c' (cobX n xs car).xs ∧ Below w.heap.size w w' := by
  have t1 : (30 : TypeId) ≠ 2 := by decide
  have t2 : (30 : TypeId) ≠ 50 := by decide
  have hb1 : Below w.heap.size w ((w.alloc (.cells #[.int .i64 n, .slice A xs.length c] 38)).alloc (.cells #[.int .i64 0, .slice none 0 0] 30)) := by (repeat (first | exact Below.refl _ _ | assumption | apply Below.drew | apply below_drewN | (refine Below.alloc ?_ (by first | omega | (simp; done) | (simp; omega)) _) | (refine Below.setCell ?_ (by first | omega | (simp; done) | (simp; omega)) _)))
  have ka := (Blk.new w 38 #[.int .i64 n, .slice A xs.length c]).alloc (.cells #[.int .i64 0, .slice none 0 0] 30)
  have kz : Blk ((w.alloc (.cells #[.int .i64 n, .slice A xs.length c] 38)).alloc (.cells #[.int .i64 0, .slice none 0 0] 30)) (w.heap.size + 1) 30 #[.int .i64 0, .slice none 0 0] := by simpa using Blk.new (w.alloc (.cells #[.int .i64 n, .slice A xs.length c] 38)) 30 #[.int .i64 0, .slice none 0 0]
  have HV0 : ∀ b, braidB n xs = b → Hid (braidB n xs = b) := fun _ h => Lib.hid h
  go_enter Tryz.func13, Tryz.ntmps13
  go_wp2_with (fail)
  refine (impl_ValidBraid n xs A c _ (h.below hb1) hl).mono ?_; rintro e w2 ⟨rfl, b2'⟩
  have z2 := b2'.size
  simp only [World.size_alloc] at z2
  have ka2 := ka.below b2' (by simp; omega)
  have kz2 := kz.below b2' (by simp)
  have b2 : Below w.heap.size w w2 := hb1.trans (b2'.mono (by simp only [World.size_alloc]; omega))
  clear b2' ka kz hb1
  obtain ⟨q0, q1⟩ := ka2.c2
  obtain ⟨r0, r1⟩ := kz2.c2
  have g0 := kz2.frozen 0
  have g1 := kz2.frozen 1
  cases hv : braidB n xs
  · have HF : Hid (cobX n xs car = ⟨0, []⟩ ∧ cobCode n xs car = 1) := Lib.hid (cob_err (by simp [cobCode, hv]) (by decide))
    go_wp2_with (fail)
    refine bodyPost_ret (v := .tuple #[.agg #[.int .i64 (cobX n xs car).n, .slice none (cobX n xs car).xs.length 0], .int .i64 (cobCode n xs car)]) (by rw [HF.out.1, HF.out.2]; simp [results, Tryz.results13, go_sem, r0, r1]) rfl ⟨none, 0, rfl, ?_, ?_⟩
    · rw [HF.out.1]; exact OwnRows.nil _ _ _
    · (repeat (first | exact Below.refl _ _ | assumption | apply Below.drew | apply below_drewN | (refine Below.alloc ?_ (by first | omega | (simp; done) | (simp; omega)) _) | (refine Below.setCell ?_ (by first | omega | (simp; done) | (simp; omega)) _)))
  · have HF : Hid (cowCode n xs car = cobCode n xs car ∧ cowX n xs car = cobX n xs car) := Lib.hid (cow_cob hv)
    have hv4 := (braidB_of hv).2.2.1
    have HS : Hid (smallB xs) := Lib.hid (smallB_of hv)
    clear r0 r1 g0 g1
    go_wp2_with (fail)
    refine (impl_chartOfWord n xs car A c _ (h.below b2) (by omega) HS.out).mono ?_; rintro e w3 ⟨A3, c3, rfl, o3, b3⟩
    rw [HF.out.1, HF.out.2] at *
    have kz3 := kz2.below b3 (by omega)
    have z3 := b3.size
    have hb3 : Below w.heap.size w w3 := b2.trans (b3.mono (by omega))
    obtain ⟨r0, r1⟩ := kz3.c2
    have g0 := kz3.frozen 0
    have g1 := kz3.frozen 1
    go_wp2_with (fail)
    refine bodyPost_ret (v := .tuple #[.agg #[.int .i64 (cobX n xs car).n, .slice A3 (cobX n xs car).xs.length c3], .int .i64 (cobCode n xs car)]) (by simp [results, Tryz.results13, go_sem, r0, r1]) rfl ⟨A3, c3, rfl, ?_, ?_⟩
    · have k1 := kz3.set20 (.int .i64 (cobX n xs car).n)
      exact ((o3.farT kz3 t1 t2 0 _).farT k1 t1 t2 1 _).mono (by omega) (by simp)
    · (repeat (first | exact Below.refl _ _ | assumption | apply Below.drew | apply below_drewN | (refine Below.alloc ?_ (by first | omega | (simp; done) | (simp; omega)) _) | (refine Below.setCell ?_ (by first | omega | (simp; done) | (simp; omega)) _)))

end Go.Proofs.YtnjgmhdmjaijgaaGreat

/- Permutations: ChartOfPermutation, the program's side. -/
namespace Go.Proofs.YtnjgmhdmjaijgaaGreat
open Go Go.RowKit

def copCode (p : List Int) (car : Int) : Int := if permB p then cowCode p.length (permLetters p) car else 1
def copX (p : List Int) (car : Int) : ChX := if permB p then cowX p.length (permLetters p) car else ⟨0, []⟩
theorem cop_bad {p : List Int} {car : Int} (h : permB p = false) : copX p car = ⟨0, []⟩ ∧ copCode p car = 1 := by simp [copX, copCode, h]
theorem cop_good {p : List Int} {car : Int} (h : permB p = true) : copX p car = cowX p.length (permLetters p) car ∧ copCode p car = cowCode p.length (permLetters p) car := by simp [copX, copCode, h]
theorem permB_len {p : List Int} (h : permB p = true) : p.length ≤ 12 := by
  unfold permB at h
  simp only [Bool.and_eq_true, decide_eq_true_eq] at h
  exact h.1
theorem permLetters_small {p : List Int} (h : p.length ≤ 12) : smallB (permLetters p) ∧ (permLetters p).length ≤ 144 := by
  refine ⟨fun y hy => ?_, ?_⟩
  · rw [permLetters, List.mem_map] at hy
    obtain ⟨x, hx, rfl⟩ := hy
    have := permWord_mem p x hx
    omega
  · rw [permLetters_length]
    exact Nat.le_trans (permWord_length p) (Nat.le_trans (invs_le p) (Nat.mul_le_mul h h))

end Go.Proofs.YtnjgmhdmjaijgaaGreat
