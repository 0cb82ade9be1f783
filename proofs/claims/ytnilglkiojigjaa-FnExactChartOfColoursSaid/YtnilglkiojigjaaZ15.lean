/- Steps of the proof, joined from several texts: ZC PP ZD ZE ZF ZG ZH ZI. -/
import Derived.Test.YtnilglkiojigjaaZ14
import Derived.Test.YtnilglkiojigjaaZ10

/- Permutations: the program's descents. -/
namespace Go.Proofs.Ytnilglkiojigjaa
open Go Go.RowKit

def desL (i : Nat) : List Int → List Int
  | a :: b :: xs => if b < a then (i : Int) :: desL (i + 1) (b :: xs) else desL (i + 1) (b :: xs)
  | _ => []
theorem desL_length (i : Nat) (xs : List Int) : (desL i xs).length ≤ xs.length := by
  induction xs generalizing i with
  | nil => simp [desL]
  | cons a xs ih =>
    cases xs with
    | nil => simp [desL]
    | cons b xs =>
      have := ih (i + 1)
      rw [desL]
      split
      · simp only [List.length_cons] at this ⊢; omega
      · simp only [List.length_cons] at this ⊢; omega
theorem desL_none {xs : List Int} (h : firstDes xs = none) : ∀ i, desL i xs = [] := by
  induction xs with
  | nil => intro i; rfl
  | cons a xs ih =>
    cases xs with
    | nil => intro i; rfl
    | cons b xs =>
      intro i
      rw [firstDes] at h
      split at h
      · cases h
      · rename_i hab
        rw [desL, if_neg hab]
        refine ih ?_ (i + 1)
        cases hf : firstDes (b :: xs) with
        | none => rfl
        | some m => rw [hf] at h; cases h
theorem desL_some {xs : List Int} : ∀ {k : Nat}, firstDes xs = some k → ∀ i, ∃ tl, desL i xs = ((i + k : Nat) : Int) :: tl := by
  induction xs with
  | nil => intro k h; simp [firstDes] at h
  | cons a xs ih =>
    cases xs with
    | nil => intro k h; simp [firstDes] at h
    | cons b xs =>
      intro k h i
      rw [firstDes] at h
      split at h
      · rename_i hab
        injection h with h
        subst h
        rw [desL, if_pos hab]
        exact ⟨_, rfl⟩
      · rename_i hab
        rw [Option.map_eq_some_iff] at h
        obtain ⟨j, hj, rfl⟩ := h
        rw [desL, if_neg hab]
        obtain ⟨tl, e⟩ := ih hj (i + 1)
        exact ⟨tl, by rw [e, show i + 1 + j = i + (j + 1) by omega]⟩
theorem desL_drop {xs : List Int} {i : Nat} {a b : Int} (ha : xs[i]? = some a) (hb : xs[i + 1]? = some b) : desL i (xs.drop i) = (if b < a then [(i : Int)] else []) ++ desL (i + 1) (xs.drop (i + 1)) := by
  rw [drop_cons ha, drop_cons hb, desL]
  split <;> simp
theorem desL_end {xs : List Int} {i : Nat} (h : xs.length ≤ i + 1) : desL i (xs.drop i) = [] := by
  have hl : (xs.drop i).length ≤ 1 := by rw [List.length_drop]; omega
  match hd : xs.drop i, hl with
  | [], _ => rfl
  | [_], _ => rfl
  | _ :: _ :: _, hl => simp at hl

set_option maxHeartbeats 2000000 in
set_option maxRecDepth 10000 in
theorem impl_descents (p : List Int) (A : Option Addr) (c : Nat) (w : World) (h : Ints w A p) (hl : p.length ≤ 12) :
    Calls Try.prog 186 #[.slice A p.length c] w fun e w' => ∃ A' c', e = .returned (.slice A' (desL 0 p).length c') ∧ OwnI w' w.heap.size w'.heap.size A' c' (desL 0 p) ∧ Below w.heap.size w w' := by
  obtain ⟨i0, hi0, hz0, hz1, hz2⟩ := info_parts info_int64
  have o1 := (OwnC.lit (w := w) (lo := w.heap.size) (n := 0) 2 1 #[] (Nat.le_refl _) (Nat.zero_le _) rfl).mono (Nat.le_refl _) (show w.heap.size + 1 ≤ (w.alloc (.cells #[] 2)).heap.size by simp)
  have O1 := Lib.hid o1; clear o1
  have hb1 : Below w.heap.size w (w.alloc (.cells #[] 2)) := by (repeat (first | exact Below.refl _ _ | assumption | apply Below.drew | apply below_drewN | (refine Below.alloc ?_ (by first | omega | (simp; done) | (simp; omega)) _) | (refine Below.setCell ?_ (by first | omega | (simp; done) | (simp; omega)) _)))
  go_enter Try.func186, Try.ntmps186
  go_wp2_with (fail)
  go_loopw [3, 4] (fun ov kv wr => ∃ (k : Nat) (A' : Option Addr) (c' : Nat) (out : List Int), k ≤ p.length + 1 ∧ kv = .int .i64 k ∧ ov = .slice A' out.length c' ∧ OwnI wr w.heap.size wr.heap.size A' c' out ∧ Below w.heap.size w wr ∧ Hid (desL 0 p = out ++ desL k (p.drop k)) ∧ out.length ≤ k) (fun _ kv _ => p.length + 1 - (intOf kv).toNat)
  case atStart => exact ⟨0, some ⟨w.heap.size, 0, none⟩, 0, [], by omega, rfl, rfl, O1.out, hb1, Lib.hid rfl, by simp⟩
  case round =>
    clear O1 hb1
    obtain ⟨k, A', c', out, hk, rfl, rfl, ho, hb, HD, hol⟩ := hrel
    have hzs := hb.size
    by_cases hkl : k + 1 < p.length
    · obtain ⟨b, off, a, rfl, ca, ha⟩ := (h.below hb) k (by omega)
      obtain ⟨b', off', bb, hA, cb, hbb⟩ := (h.below hb) (k + 1) hkl
      injection hA with hA
      injection hA with hA1 hA2
      subst hA1 hA2
      have j1 : (0 : Int) ≤ (k : Int) := by omega
      have j2 : (k : Int) < (p.length : Int) := by omega
      have j3 : (k : Int) + 1 < (p.length : Int) := by omega
      have j4 : (0 : Int) ≤ (k : Int) + 1 := by omega
      have j5 : ((k : Int) + 1).toNat = k + 1 := by omega
      have j6 : IntKind.i64.wrap ((k : Int) + 1) = (k : Int) + 1 := IntWalk.i64_in _ (by omega)
      have hdr := desL_drop ha hbb
      by_cases hab : bb < a
      · have hd : decide (bb < a) = true := decide_eq_true hab
        have HD2 : Hid (desL 0 p = (out ++ [(k : Int)]) ++ desL (k + 1) (p.drop (k + 1))) := Lib.hid (by rw [HD.out, hdr, if_pos hab, List.append_assoc])
        clear hab hdr
        go_wp2_with (fail)
        (refine wp_region_pops 0 (S := (fun W' => W'.cell? ⟨b, off + k, none⟩ = some (.int .i64 a) ∧ W'.cell? ⟨b, off + (k + 1), none⟩ = some (.int .i64 bb))) (pre := ?_) (T := ?_) (n := ?_) (by kernel_rfl) (by kernel_rfl) ?_ ?_ ?_ ?_ (fun hHeld => ?_); rotate_left 3; (focus (simp only [pops]; rfl)); (focus (simp only [tailOf]; rfl)); (focus rfl); (focus (exact ⟨ca, cb⟩)))
        ((refine wpAnyH_take (i := 0) (v := ?_) rfl (by kernel_rfl) (by kernel_rfl) (by kernel_rfl) (fun _ _ _ h => h) (Or.inl ⟨by rfl, ?_⟩) (by assumption) ?_; rotate_left; (focus (intro W hSw; (try dsimp only at hSw); go_simp; try (with_reducible rfl)))); (try simp only [List.getElem_toArray, List.getElem_cons_zero, Act.put, List.setIfInBounds_toArray, List.set_cons_zero, List.set_cons_succ]); (refine wpAnyH_take (i := 1) (v := ?_) rfl (by kernel_rfl) (by kernel_rfl) (by kernel_rfl) (fun _ _ _ h => h) (Or.inl ⟨by rfl, ?_⟩) (by assumption) ?_; rotate_left; (focus (intro W hSw; (try dsimp only at hSw); go_simp; try (with_reducible rfl)))); (try simp only [List.getElem_toArray, List.getElem_cons_zero, List.getElem_cons_succ, Act.put, List.setIfInBounds_toArray, List.set_cons_zero, List.set_cons_succ]); (refine wpAnyH_take (i := 2) (v := ?_) rfl (by kernel_rfl) (by kernel_rfl) (by kernel_rfl) (fun _ _ _ h => h) (Or.inl ⟨by rfl, ?_⟩) (by assumption) ?_; rotate_left; (focus (intro W hSw; (try dsimp only at hSw); go_simp; try (with_reducible rfl)))); (try simp only [List.getElem_toArray, List.getElem_cons_zero, List.getElem_cons_succ, Act.put, List.setIfInBounds_toArray, List.set_cons_zero, List.set_cons_succ]); (refine wpAnyH_take (i := 3) (v := ?_) rfl (by kernel_rfl) (by kernel_rfl) (by kernel_rfl) (fun _ _ _ h => h) (Or.inl ⟨by rfl, ?_⟩) (by assumption) ?_; rotate_left; (focus (intro W hSw; (try dsimp only at hSw); go_simp; try (with_reducible rfl)))); (try simp only [List.getElem_toArray, List.getElem_cons_zero, List.getElem_cons_succ, Act.put, List.setIfInBounds_toArray, List.set_cons_zero, List.set_cons_succ]); (refine wpAnyH_take (i := 4) (v := ?_) rfl (by kernel_rfl) (by kernel_rfl) (by kernel_rfl) (fun _ _ _ h => h) (Or.inl ⟨by rfl, ?_⟩) (by assumption) ?_; rotate_left; (focus (intro W hSw; (try dsimp only at hSw); go_simp; try (with_reducible rfl)))); (try simp only [List.getElem_toArray, List.getElem_cons_zero, List.getElem_cons_succ, Act.put, List.setIfInBounds_toArray, List.set_cons_zero, List.set_cons_succ]); (refine wpAnyH_take (i := 5) (v := ?_) rfl (by kernel_rfl) (by kernel_rfl) (by kernel_rfl) (fun _ _ _ h => h) (Or.inl ⟨by rfl, ?_⟩) (by assumption) ?_; rotate_left; (focus (intro W hSw; (try dsimp only at hSw); go_simp; try (with_reducible rfl)))); (try simp only [List.getElem_toArray, List.getElem_cons_zero, List.getElem_cons_succ, Act.put, List.setIfInBounds_toArray, List.set_cons_zero, List.set_cons_succ]); (refine wpAnyH_take (i := 6) (v := ?_) rfl (by kernel_rfl) (by kernel_rfl) (by kernel_rfl) (fun _ _ _ h => h) (Or.inl ⟨by rfl, ?_⟩) (by assumption) ?_; rotate_left; (focus (intro W hSw; (try dsimp only at hSw); go_simp; try (with_reducible rfl)))); (try simp only [List.getElem_toArray, List.getElem_cons_zero, List.getElem_cons_succ, Act.put, List.setIfInBounds_toArray, List.set_cons_zero, List.set_cons_succ]); (refine wpAnyH_take (i := 7) (v := ?_) rfl (by kernel_rfl) (by kernel_rfl) (by kernel_rfl) (fun _ _ _ h => h) (Or.inl ⟨by rfl, ?_⟩) (by assumption) ?_; rotate_left; (focus (intro W hSw; (try dsimp only at hSw); go_simp; try (with_reducible rfl)))); (try simp only [List.getElem_toArray, List.getElem_cons_zero, List.getElem_cons_succ, Act.put, List.setIfInBounds_toArray, List.set_cons_zero, List.set_cons_succ]); (refine wpAnyH_take (i := 8) (v := ?_) rfl (by kernel_rfl) (by kernel_rfl) (by kernel_rfl) (fun _ _ _ h => h) (Or.inl ⟨by rfl, ?_⟩) (by assumption) ?_; rotate_left; (focus (intro W hSw; (try dsimp only at hSw); go_simp; try (with_reducible rfl)))); (try simp only [List.getElem_toArray, List.getElem_cons_zero, List.getElem_cons_succ, Act.put, List.setIfInBounds_toArray, List.set_cons_zero, List.set_cons_succ]); (refine wpAnyH_take (i := 9) (v := ?_) rfl (by kernel_rfl) (by kernel_rfl) (by kernel_rfl) (fun _ _ _ h => h) (Or.inl ⟨by rfl, ?_⟩) (by assumption) ?_; rotate_left; (focus (intro W hSw; (try dsimp only at hSw); go_simp; try (with_reducible rfl)))); (try simp only [List.getElem_toArray, List.getElem_cons_zero, List.getElem_cons_succ, Act.put, List.setIfInBounds_toArray, List.set_cons_zero, List.set_cons_succ]))
        (refine wpAnyH_done (by kernel_rfl) ?_ _; change wpList _ _ _ _ _ _)
        clear hHeld
        obtain ⟨w7, hw7⟩ : ∃ w7, w7 = World.drew wr := ⟨_, rfl⟩
        have ho7 : OwnI w7 w.heap.size w7.heap.size A' c' out := by rw [hw7]; exact OwnC.drew1 ho
        have hb7 : Below w.heap.size w w7 := by rw [hw7]; exact hb.drew
        have hz7 : w.heap.size ≤ w7.heap.size := hb7.size
        rw [← hw7]
        clear hw7 ca cb ho hb hzs
        go_wp2_with (at_builtin; refine wpList_append1 w7 [.int .i64 (k : Int)] _ rfl (.tmp 23) (.tmp 25) _ rfl 2 i0 _ 1 8 Try.underlying22 hi0 hz0 hz1 hz2 rfl (by decide) rfl ho7 hz7 1 rfl rfl (by simp [Value.oneCell']) (by omega) (by decide) ?_; intro A9 c9 w8 ho8 hg8 hb8 hz8)
        refine ⟨⟨k + 1, A9, c9, out ++ [(k : Int)], by omega, by go_num, by simp, ?_, hb7.trans hb8, HD2, by simp; omega⟩, by simp [intOf]; omega⟩
        show OwnC _ _ _ _ _ _ _ _ _
        rw [List.map_append, List.length_append]
        exact ho8
      · have hd : decide (bb < a) = false := decide_eq_false hab
        have HD2 : Hid (desL 0 p = out ++ desL (k + 1) (p.drop (k + 1))) := Lib.hid (by rw [HD.out, hdr, if_neg hab]; rfl)
        clear hab hdr
        go_wp2_with (fail)
        (refine wp_region_pops 0 (S := (fun W' => W'.cell? ⟨b, off + k, none⟩ = some (.int .i64 a) ∧ W'.cell? ⟨b, off + (k + 1), none⟩ = some (.int .i64 bb))) (pre := ?_) (T := ?_) (n := ?_) (by kernel_rfl) (by kernel_rfl) ?_ ?_ ?_ ?_ (fun hHeld => ?_); rotate_left 3; (focus (simp only [pops]; rfl)); (focus (simp only [tailOf]; rfl)); (focus rfl); (focus (exact ⟨ca, cb⟩)))
        ((refine wpAnyH_take (i := 0) (v := ?_) rfl (by kernel_rfl) (by kernel_rfl) (by kernel_rfl) (fun _ _ _ h => h) (Or.inl ⟨by rfl, ?_⟩) (by assumption) ?_; rotate_left; (focus (intro W hSw; (try dsimp only at hSw); go_simp; try (with_reducible rfl)))); (try simp only [List.getElem_toArray, List.getElem_cons_zero, Act.put, List.setIfInBounds_toArray, List.set_cons_zero, List.set_cons_succ]); (refine wpAnyH_take (i := 1) (v := ?_) rfl (by kernel_rfl) (by kernel_rfl) (by kernel_rfl) (fun _ _ _ h => h) (Or.inl ⟨by rfl, ?_⟩) (by assumption) ?_; rotate_left; (focus (intro W hSw; (try dsimp only at hSw); go_simp; try (with_reducible rfl)))); (try simp only [List.getElem_toArray, List.getElem_cons_zero, List.getElem_cons_succ, Act.put, List.setIfInBounds_toArray, List.set_cons_zero, List.set_cons_succ]); (refine wpAnyH_take (i := 2) (v := ?_) rfl (by kernel_rfl) (by kernel_rfl) (by kernel_rfl) (fun _ _ _ h => h) (Or.inl ⟨by rfl, ?_⟩) (by assumption) ?_; rotate_left; (focus (intro W hSw; (try dsimp only at hSw); go_simp; try (with_reducible rfl)))); (try simp only [List.getElem_toArray, List.getElem_cons_zero, List.getElem_cons_succ, Act.put, List.setIfInBounds_toArray, List.set_cons_zero, List.set_cons_succ]); (refine wpAnyH_take (i := 3) (v := ?_) rfl (by kernel_rfl) (by kernel_rfl) (by kernel_rfl) (fun _ _ _ h => h) (Or.inl ⟨by rfl, ?_⟩) (by assumption) ?_; rotate_left; (focus (intro W hSw; (try dsimp only at hSw); go_simp; try (with_reducible rfl)))); (try simp only [List.getElem_toArray, List.getElem_cons_zero, List.getElem_cons_succ, Act.put, List.setIfInBounds_toArray, List.set_cons_zero, List.set_cons_succ]); (refine wpAnyH_take (i := 4) (v := ?_) rfl (by kernel_rfl) (by kernel_rfl) (by kernel_rfl) (fun _ _ _ h => h) (Or.inl ⟨by rfl, ?_⟩) (by assumption) ?_; rotate_left; (focus (intro W hSw; (try dsimp only at hSw); go_simp; try (with_reducible rfl)))); (try simp only [List.getElem_toArray, List.getElem_cons_zero, List.getElem_cons_succ, Act.put, List.setIfInBounds_toArray, List.set_cons_zero, List.set_cons_succ]); (refine wpAnyH_take (i := 5) (v := ?_) rfl (by kernel_rfl) (by kernel_rfl) (by kernel_rfl) (fun _ _ _ h => h) (Or.inl ⟨by rfl, ?_⟩) (by assumption) ?_; rotate_left; (focus (intro W hSw; (try dsimp only at hSw); go_simp; try (with_reducible rfl)))); (try simp only [List.getElem_toArray, List.getElem_cons_zero, List.getElem_cons_succ, Act.put, List.setIfInBounds_toArray, List.set_cons_zero, List.set_cons_succ]); (refine wpAnyH_take (i := 6) (v := ?_) rfl (by kernel_rfl) (by kernel_rfl) (by kernel_rfl) (fun _ _ _ h => h) (Or.inl ⟨by rfl, ?_⟩) (by assumption) ?_; rotate_left; (focus (intro W hSw; (try dsimp only at hSw); go_simp; try (with_reducible rfl)))); (try simp only [List.getElem_toArray, List.getElem_cons_zero, List.getElem_cons_succ, Act.put, List.setIfInBounds_toArray, List.set_cons_zero, List.set_cons_succ]); (refine wpAnyH_take (i := 7) (v := ?_) rfl (by kernel_rfl) (by kernel_rfl) (by kernel_rfl) (fun _ _ _ h => h) (Or.inl ⟨by rfl, ?_⟩) (by assumption) ?_; rotate_left; (focus (intro W hSw; (try dsimp only at hSw); go_simp; try (with_reducible rfl)))); (try simp only [List.getElem_toArray, List.getElem_cons_zero, List.getElem_cons_succ, Act.put, List.setIfInBounds_toArray, List.set_cons_zero, List.set_cons_succ]); (refine wpAnyH_take (i := 8) (v := ?_) rfl (by kernel_rfl) (by kernel_rfl) (by kernel_rfl) (fun _ _ _ h => h) (Or.inl ⟨by rfl, ?_⟩) (by assumption) ?_; rotate_left; (focus (intro W hSw; (try dsimp only at hSw); go_simp; try (with_reducible rfl)))); (try simp only [List.getElem_toArray, List.getElem_cons_zero, List.getElem_cons_succ, Act.put, List.setIfInBounds_toArray, List.set_cons_zero, List.set_cons_succ]); (refine wpAnyH_take (i := 9) (v := ?_) rfl (by kernel_rfl) (by kernel_rfl) (by kernel_rfl) (fun _ _ _ h => h) (Or.inl ⟨by rfl, ?_⟩) (by assumption) ?_; rotate_left; (focus (intro W hSw; (try dsimp only at hSw); go_simp; try (with_reducible rfl)))); (try simp only [List.getElem_toArray, List.getElem_cons_zero, List.getElem_cons_succ, Act.put, List.setIfInBounds_toArray, List.set_cons_zero, List.set_cons_succ]))
        (refine wpAnyH_done (by kernel_rfl) ?_ _; change wpList _ _ _ _ _ _)
        clear hHeld
        go_wp2_with (fail)
        refine ⟨⟨k + 1, A', c', out, by omega, by go_num, rfl, OwnC.drew1 ho, hb.drew, HD2, by omega⟩, by simp [intOf]; omega⟩
    · have HE : Hid (desL 0 p = out) := Lib.hid (by rw [HD.out, desL_end (by omega), List.append_nil])
      go_wp2_with (fail)
      go_ret
      rw [HE.out]
      exact ⟨_, _, rfl, ho, hb⟩

end Go.Proofs.Ytnilglkiojigjaa

/- A region whose last ready operation is a store. -/
namespace Go.Proofs.Ytnilglkiojigjaa
open Go Go.RowKit

def lastQ (S : World → Prop) (Q : Exit → Act → World → Prop) : Exit → Act → World → Prop
  | .normal, a, w => S w ∧ Q .normal a w
  | e, a, w => Q e a w
theorem lastQ_mk {S : World → Prop} {Q : Exit → Act → World → Prop} {a : Act} {w : World} (hS : S w) (hQ : Q .normal a w) : lastQ S Q .normal a w := ⟨hS, hQ⟩
theorem wpAnyH_end {P : Program} {md : Region.Mode} {ops : Array Oper} {Q : Exit → Act → World → Prop} {S : World → Prop} {fuel : Nat} {listed : Array Bool} {a : Act} {w : World} {i : Nat} {o : Oper}
    (hr : Region.ready md ops listed = [i]) (ho : ops[i]? = some o) (hg : o.guard = none) (hall : Region.ready md ops (listed.setIfInBounds i true) = []) (h : wpList P #[] (lastQ S Q) [o] a w) : wpAnyH P md ops Q S (fuel + 1) listed a w :=
  wpAnyH_ready hr (by simp) (fun j hj => by
    obtain rfl := List.mem_singleton.1 hj
    unfold wpOp
    rw [ho]
    have hw : Region.wanted o (yielded ops a.tmps) = true := by simp [Region.wanted, hg]
    have hw0 : Region.wanted o (yielded #[] a.tmps) = true := by simp [Region.wanted, hg]
    simp only [hw, if_true]
    unfold wpList at h
    simp only [hw0, if_true] at h
    rcases h with h | ⟨h1, h2⟩
    · exact .inl (Oper.wp_le (fun a w hq => ⟨hq.1, wpAnyH_done hall hq.2 _⟩) (fun _ _ _ h => h) (fun ⟨a, w, h⟩ => ⟨a, w, h⟩) h)
    · exact .inr ⟨h1, h2.imp fun a h => h.imp fun w h => h⟩)

end Go.Proofs.Ytnilglkiojigjaa

/- Permutations: the program's sorting word. -/
namespace Go.Proofs.Ytnilglkiojigjaa
open Go Go.RowKit

set_option maxHeartbeats 4000000 in
set_option maxRecDepth 10000 in
theorem impl_reducedWord (p : List Int) (A : Option Addr) (c : Nat) (w : World) (h : Ints w A p) (hl : p.length ≤ 12) :
    Calls Try.prog 132 #[.slice A p.length c] w fun e w' => ∃ A' c', e = .returned (.slice A' (permWord p).length c') ∧ OwnI w' w.heap.size w'.heap.size A' c' (permWord p) ∧ Below w.heap.size w w' := by
  obtain ⟨i0, hi0, hz0, hz1, hz2⟩ := info_parts info_int64
  go_enter Try.func132, Try.ntmps132
  go_wp2_with (fail)
  refine (slices_Clone A c p w h (by omega)).mono ?_; rintro e w5 ⟨A5, c5, rfl, o5, b5⟩
  have hz5 := b5.size
  have o6 := (OwnC.lit (w := w5) (lo := w5.heap.size) (n := 0) 2 1 #[] (Nat.le_refl _) (Nat.zero_le _) rfl).mono (Nat.le_refl _) (show w5.heap.size + 1 ≤ (w5.alloc (.cells #[] 2)).heap.size by simp)
  have hb6 : Below w.heap.size w (w5.alloc (.cells #[] 2)) := b5.alloc (by omega) _
  have o5a := o5.alloc (.cells #[] 2)
  have O6 := Lib.hid o6; clear o6
  go_wp2_with (fail)
  go_loopw [4] (fun ov wr => ∃ (A' : Option Addr) (c' : Nat) (out now : List Int), ov = .slice A' out.length c' ∧ OwnI wr w5.heap.size wr.heap.size A' c' out ∧ OwnI wr w.heap.size w5.heap.size A5 c5 now ∧ Hid (now.length = p.length) ∧ Below w.heap.size w wr ∧ w5.heap.size ≤ wr.heap.size ∧ Hid (permWord p = out ++ permWord now) ∧ Hid (out.length + invs now = invs p)) (fun ov _ => invs p - lenV ov)
  case atStart => exact ⟨some ⟨w5.heap.size, 0, none⟩, 0, [], p, rfl, O6.out, o5a, Lib.hid rfl, hb6, by simp, Lib.hid rfl, Lib.hid (by simp)⟩
  case round =>
    clear O6 hb6 o5a
    obtain ⟨A', c', out, now, rfl, ho, hnow, HNL, hb, hz, HD, HI⟩ := hrel
    have hin := OwnC.ints hnow
    have HDE : Hid (∀ W, Ints W A5 now → Calls Try.prog 186 #[.slice A5 p.length c5] W fun e w' => ∃ A' c', e = .returned (.slice A' (desL 0 now).length c') ∧ OwnI w' W.heap.size w'.heap.size A' c' (desL 0 now) ∧ Below W.heap.size W w') := Lib.hid (fun W hW => by
      have e := impl_descents now A5 c5 W hW (by rw [HNL.out]; exact hl)
      rw [HNL.out] at e
      exact e)
    go_wp2_with (fail)
    refine (HDE.out _ hin).mono ?_; rintro e w6 ⟨A6, c6, rfl, o6, b6⟩
    have hnow6 := OwnC.below hnow b6 (by omega)
    have ho6 : OwnI w6 w5.heap.size w6.heap.size A' c' out := OwnC.mono (OwnC.below ho b6 (Nat.le_refl _)) (Nat.le_refl _) b6.size
    have hz6 := b6.size
    have hb6 : Below w.heap.size w w6 := hb.trans (b6.mono (by have := hb.size; omega))
    cases hfd : firstDes now with
    | none =>
      have HL := Lib.hid (desL_none hfd 0)
      have HE : Hid (permWord p = out) := Lib.hid (by rw [HD.out, permWord_none hfd, List.append_nil])
      clear hfd
      rw [HL.out] at o6 ⊢
      go_wp2_with (fail)
      go_ret
      rw [HE.out]
      exact ⟨_, _, rfl, ho6.mono (by have := hb.size; omega) (by omega), hb6⟩
    | some k =>
      obtain ⟨tl, htl⟩ := desL_some hfd 0
      rw [Nat.zero_add] at htl
      obtain ⟨a, bb, ha, hbb, hab⟩ := firstDes_some hfd
      have hin := invs_step hfd
      have hi := HI.out
      have HD2 : Hid (permWord p = (out ++ [(k : Int)]) ++ permWord (swapL k now)) := Lib.hid (by rw [HD.out, permWord_some hfd, List.append_assoc]; rfl)
      have HI2 : Hid ((out ++ [(k : Int)]).length + invs (swapL k now) = invs p) := Lib.hid (by rw [List.length_append, List.length_singleton]; omega)
      have HLT : Hid (out.length + 1 ≤ invs p) := Lib.hid (by omega)
      have HNL2 : Hid ((swapL k now).length = p.length) := Lib.hid (by rw [swapL_at ha hbb, List.length_set, List.length_set]; exact HNL.out)
      have hqq : invs p ≤ 144 := Nat.le_trans (invs_le p) (Nat.mul_le_mul hl hl)
      have hol : out.length ≤ 144 := by omega
      have hkl : k + 1 < p.length := by have := (List.getElem?_eq_some_iff.1 hbb).1; have := HNL.out; omega
      obtain ⟨g5, rfl⟩ := OwnC.head hnow6 (by have := HNL.out; omega)
      obtain ⟨ca, fa, ga, gb⟩ := own_at hnow6 ha
      obtain ⟨cb, fb, _, _⟩ := own_at hnow6 hbb
      rw [htl] at o6 ⊢
      obtain ⟨g6, rfl⟩ := OwnC.head o6 (by simp)
      obtain ⟨c0, _, _, _⟩ := own_at o6 (j := 0) (y := (k : Int)) rfl
      have hcl : decide (((tl.length : Int) + 1) = 0) = false := decide_eq_false (by omega)
      have hcl2 : ((((k : Int) :: tl).length : Int) == 0) = false := by simp; omega
      have j1 : (0 : Int) ≤ (k : Int) := by omega
      have j2 : (k : Int) < (p.length : Int) := by omega
      have j3 : (k : Int) + 1 < (p.length : Int) := by omega
      have j4 : (0 : Int) ≤ (k : Int) + 1 := by omega
      have j5 : ((k : Int) + 1).toNat = k + 1 := by omega
      have j6 : IntKind.i64.wrap ((k : Int) + 1) = (k : Int) + 1 := IntWalk.i64_in _ (by omega)
      clear hfd hin hi hab hqq htl
      go_wp2_with (fail)
      have hnow9 := OwnC.drew1 (own_swap hnow6 ha hbb)
      have ho9 : OwnI (World.drew ((w6.setCell ⟨g5, k, none⟩ (.int .i64 bb)).setCell ⟨g5, k + 1, none⟩ (.int .i64 a))) w5.heap.size w6.heap.size A' c' out := OwnC.drew1 (OwnC.far (p := ⟨g5, k + 1, none⟩) (OwnC.far (p := ⟨g5, k, none⟩) ho6 (.inl gb) _) (.inl gb) _)
      have hw6 : w.heap.size ≤ g5 := ga
      have hb9 : Below w.heap.size w (World.drew ((w6.setCell ⟨g5, k, none⟩ (.int .i64 bb)).setCell ⟨g5, k + 1, none⟩ (.int .i64 a))) := Below.drew (Below.setCell (p := ⟨g5, k + 1, none⟩) (Below.setCell (p := ⟨g5, k, none⟩) hb6 (by show w.heap.size ≤ g5; omega) _) (by show w.heap.size ≤ g5; omega) _)
      have hz9 : w5.heap.size ≤ (World.drew ((w6.setCell ⟨g5, k, none⟩ (.int .i64 bb)).setCell ⟨g5, k + 1, none⟩ (.int .i64 a))).heap.size := by
        show w5.heap.size ≤ ((w6.setCell ⟨g5, k, none⟩ (.int .i64 bb)).setCell ⟨g5, k + 1, none⟩ (.int .i64 a)).heap.size
        simp; omega
      (refine wp_region_pops 2 (S := (fun _ => True)) (pre := ?_) (T := ?_) (n := ?_) (by kernel_rfl) (by kernel_rfl) ?_ ?_ ?_ ?_ (fun hHeld => ?_); rotate_left 3; (focus (simp only [pops, List.pop_toArray, List.dropLast_cons_cons, List.dropLast_singleton]; rfl)); (focus (simp only [tailOf, List.pop_toArray, List.dropLast_cons_cons, List.dropLast_singleton, List.back?_toArray, List.getLast?_cons_cons, List.getLast?_singleton, Option.toList_some, List.nil_append, List.cons_append]; rfl)); (focus rfl); (focus (exact trivial)))
      ((refine wpAnyH_take (i := 0) (v := ?_) rfl (by kernel_rfl) (by kernel_rfl) (by kernel_rfl) (fun _ _ _ h => h) (Or.inl ⟨by rfl, ?_⟩) (by assumption) ?_; rotate_left; (focus (intro W hSw; (try dsimp only at hSw); go_simp; try (with_reducible rfl)))); (try simp only [List.getElem_toArray, List.getElem_cons_zero, Act.put, List.setIfInBounds_toArray, List.set_cons_zero, List.set_cons_succ]); (refine wpAnyH_take (i := 1) (v := ?_) rfl (by kernel_rfl) (by kernel_rfl) (by kernel_rfl) (fun _ _ _ h => h) (Or.inl ⟨by rfl, ?_⟩) (by assumption) ?_; rotate_left; (focus (intro W hSw; (try dsimp only at hSw); go_simp; try (with_reducible rfl)))); (try simp only [List.getElem_toArray, List.getElem_cons_zero, List.getElem_cons_succ, Act.put, List.setIfInBounds_toArray, List.set_cons_zero, List.set_cons_succ]); (refine wpAnyH_take (i := 2) (v := ?_) rfl (by kernel_rfl) (by kernel_rfl) (by kernel_rfl) (fun _ _ _ h => h) (Or.inl ⟨by rfl, ?_⟩) (by assumption) ?_; rotate_left; (focus (intro W hSw; (try dsimp only at hSw); go_simp; try (with_reducible rfl)))); (try simp only [List.getElem_toArray, List.getElem_cons_zero, List.getElem_cons_succ, Act.put, List.setIfInBounds_toArray, List.set_cons_zero, List.set_cons_succ]); (refine wpAnyH_take (i := 3) (v := ?_) rfl (by kernel_rfl) (by kernel_rfl) (by kernel_rfl) (fun _ _ _ h => h) (Or.inl ⟨by rfl, ?_⟩) (by assumption) ?_; rotate_left; (focus (intro W hSw; (try dsimp only at hSw); go_simp; try (with_reducible rfl)))); (try simp only [List.getElem_toArray, List.getElem_cons_zero, List.getElem_cons_succ, Act.put, List.setIfInBounds_toArray, List.set_cons_zero, List.set_cons_succ]); (refine wpAnyH_take (i := 4) (v := ?_) rfl (by kernel_rfl) (by kernel_rfl) (by kernel_rfl) (fun _ _ _ h => h) (Or.inl ⟨by rfl, ?_⟩) (by assumption) ?_; rotate_left; (focus (intro W hSw; (try dsimp only at hSw); go_simp; try (with_reducible rfl)))); (try simp only [List.getElem_toArray, List.getElem_cons_zero, List.getElem_cons_succ, Act.put, List.setIfInBounds_toArray, List.set_cons_zero, List.set_cons_succ]); (refine wpAnyH_take (i := 5) (v := ?_) rfl (by kernel_rfl) (by kernel_rfl) (by kernel_rfl) (fun _ _ _ h => h) (Or.inl ⟨by rfl, ?_⟩) (by assumption) ?_; rotate_left; (focus (intro W hSw; (try dsimp only at hSw); go_simp; try (with_reducible rfl)))); (try simp only [List.getElem_toArray, List.getElem_cons_zero, List.getElem_cons_succ, Act.put, List.setIfInBounds_toArray, List.set_cons_zero, List.set_cons_succ]); (refine wpAnyH_take (i := 6) (v := ?_) rfl (by kernel_rfl) (by kernel_rfl) (by kernel_rfl) (fun _ _ _ h => h) (Or.inl ⟨by rfl, ?_⟩) (by assumption) ?_; rotate_left; (focus (intro W hSw; (try dsimp only at hSw); go_simp; try (with_reducible rfl)))); (try simp only [List.getElem_toArray, List.getElem_cons_zero, List.getElem_cons_succ, Act.put, List.setIfInBounds_toArray, List.set_cons_zero, List.set_cons_succ]); (refine wpAnyH_take (i := 7) (v := ?_) rfl (by kernel_rfl) (by kernel_rfl) (by kernel_rfl) (fun _ _ _ h => h) (Or.inl ⟨by rfl, ?_⟩) (by assumption) ?_; rotate_left; (focus (intro W hSw; (try dsimp only at hSw); go_simp; try (with_reducible rfl)))); (try simp only [List.getElem_toArray, List.getElem_cons_zero, List.getElem_cons_succ, Act.put, List.setIfInBounds_toArray, List.set_cons_zero, List.set_cons_succ]); (refine wpAnyH_take (i := 8) (v := ?_) rfl (by kernel_rfl) (by kernel_rfl) (by kernel_rfl) (fun _ _ _ h => h) (Or.inl ⟨by rfl, ?_⟩) (by assumption) ?_; rotate_left; (focus (intro W hSw; (try dsimp only at hSw); go_simp; try (with_reducible rfl)))); (try simp only [List.getElem_toArray, List.getElem_cons_zero, List.getElem_cons_succ, Act.put, List.setIfInBounds_toArray, List.set_cons_zero, List.set_cons_succ]); (refine wpAnyH_take (i := 10) (v := ?_) rfl (by kernel_rfl) (by kernel_rfl) (by kernel_rfl) (fun _ _ _ h => h) (Or.inl ⟨by rfl, ?_⟩) (by assumption) ?_; rotate_left; (focus (intro W hSw; (try dsimp only at hSw); go_simp; try (with_reducible rfl)))); (try simp only [List.getElem_toArray, List.getElem_cons_zero, List.getElem_cons_succ, Act.put, List.setIfInBounds_toArray, List.set_cons_zero, List.set_cons_succ]); (refine wpAnyH_take (i := 11) (v := ?_) rfl (by kernel_rfl) (by kernel_rfl) (by kernel_rfl) (fun _ _ _ h => h) (Or.inl ⟨by rfl, ?_⟩) (by assumption) ?_; rotate_left; (focus (intro W hSw; (try dsimp only at hSw); go_simp; try (with_reducible rfl)))); (try simp only [List.getElem_toArray, List.getElem_cons_zero, List.getElem_cons_succ, Act.put, List.setIfInBounds_toArray, List.set_cons_zero, List.set_cons_succ]); (refine wpAnyH_take (i := 12) (v := ?_) rfl (by kernel_rfl) (by kernel_rfl) (by kernel_rfl) (fun _ _ _ h => h) (Or.inl ⟨by rfl, ?_⟩) (by assumption) ?_; rotate_left; (focus (intro W hSw; (try dsimp only at hSw); go_simp; try (with_reducible rfl)))); (try simp only [List.getElem_toArray, List.getElem_cons_zero, List.getElem_cons_succ, Act.put, List.setIfInBounds_toArray, List.set_cons_zero, List.set_cons_succ]))
      refine wpAnyH_ready (rs := [9, 13]) (by kernel_rfl) (by simp) ?_
      refine AllReadyH.cons rfl (fun K hK => ?_) (AllReadyH.cons rfl (fun K hK => ?_) AllReadyH.nil)
      · go_simp
        refine hK.out _ _ trivial (fun hHeld => ?_)
        clear hK K
        (try simp only [List.getElem_toArray, List.getElem_cons_zero, List.getElem_cons_succ, Act.put, List.setIfInBounds_toArray, List.set_cons_zero, List.set_cons_succ])
        (refine wpAnyH_ready (rs := [13]) (by kernel_rfl) (by simp) ?_; refine AllReadyH.cons rfl (fun K hK => ?_) AllReadyH.nil)
        go_simp
        refine hK.out _ _ trivial (fun hHeld => ?_)
        clear hK K
        (try simp only [List.getElem_toArray, List.getElem_cons_zero, List.getElem_cons_succ, Act.put, List.setIfInBounds_toArray, List.set_cons_zero, List.set_cons_succ])
        ((refine wpAnyH_take (i := 14) (v := ?_) rfl (by kernel_rfl) (by kernel_rfl) (by kernel_rfl) (fun _ _ _ h => h) (Or.inl ⟨by rfl, ?_⟩) (by assumption) ?_; rotate_left; (focus (intro W hSw; (try dsimp only at hSw); go_simp; try (with_reducible rfl)))); (try simp only [List.getElem_toArray, List.getElem_cons_zero, List.getElem_cons_succ, Act.put, List.setIfInBounds_toArray, List.set_cons_zero, List.set_cons_succ]))
        refine wpAnyH_end (i := 15) (by kernel_rfl) rfl rfl (by kernel_rfl) ?_
        go_wp2_with (fail)
        refine lastQ_mk trivial ?_
        change wpList _ _ _ _ _ _
        go_wp2_with (at_builtin; refine wpList_append1q (World.drew ((w6.setCell ⟨g5, k, none⟩ (.int .i64 bb)).setCell ⟨g5, k + 1, none⟩ (.int .i64 a))) w6.heap.size (by simp) [.int .i64 (k : Int)] _ rfl (.tmp 35) (.tmp 37) _ rfl 2 i0 _ 1 8 Try.underlying22 hi0 hz0 hz1 hz2 rfl (by decide) rfl ho9 hz9 1 rfl rfl (by simp [Value.oneCell']) (by omega) (by decide) ?_; intro A9 c9 w8 ho8 hg8 hb8 hz8)
        refine ⟨⟨A9, c9, out ++ [(k : Int)], swapL k now, by simp, ?_, OwnC.below hnow9 hb8 (Nat.le_refl _), HNL2, hb9.trans (hb8.mono (by omega)), Nat.le_trans hz9 hb8.size, HD2, HI2⟩, ?_⟩
        · show OwnC _ _ _ _ _ _ _ _ _
          rw [List.map_append, List.length_append]
          exact ho8
        · have hlt := HLT.out
          show invs p - (out.length + 1) < invs p - out.length
          omega
      · go_simp
        refine hK.out _ _ trivial (fun hHeld => ?_)
        clear hK K
        (try simp only [List.getElem_toArray, List.getElem_cons_zero, List.getElem_cons_succ, Act.put, List.setIfInBounds_toArray, List.set_cons_zero, List.set_cons_succ])
        (refine wpAnyH_ready (rs := [9]) (by kernel_rfl) (by simp) ?_; refine AllReadyH.cons rfl (fun K hK => ?_) AllReadyH.nil)
        go_simp
        refine hK.out _ _ trivial (fun hHeld => ?_)
        clear hK K
        (try simp only [List.getElem_toArray, List.getElem_cons_zero, List.getElem_cons_succ, Act.put, List.setIfInBounds_toArray, List.set_cons_zero, List.set_cons_succ])
        ((refine wpAnyH_take (i := 14) (v := ?_) rfl (by kernel_rfl) (by kernel_rfl) (by kernel_rfl) (fun _ _ _ h => h) (Or.inl ⟨by rfl, ?_⟩) (by assumption) ?_; rotate_left; (focus (intro W hSw; (try dsimp only at hSw); go_simp; try (with_reducible rfl)))); (try simp only [List.getElem_toArray, List.getElem_cons_zero, List.getElem_cons_succ, Act.put, List.setIfInBounds_toArray, List.set_cons_zero, List.set_cons_succ]))
        refine wpAnyH_end (i := 15) (by kernel_rfl) rfl rfl (by kernel_rfl) ?_
        go_wp2_with (fail)
        refine lastQ_mk trivial ?_
        change wpList _ _ _ _ _ _
        go_wp2_with (at_builtin; refine wpList_append1q (World.drew ((w6.setCell ⟨g5, k, none⟩ (.int .i64 bb)).setCell ⟨g5, k + 1, none⟩ (.int .i64 a))) w6.heap.size (by simp) [.int .i64 (k : Int)] _ rfl (.tmp 35) (.tmp 37) _ rfl 2 i0 _ 1 8 Try.underlying22 hi0 hz0 hz1 hz2 rfl (by decide) rfl ho9 hz9 1 rfl rfl (by simp [Value.oneCell']) (by omega) (by decide) ?_; intro A9 c9 w8 ho8 hg8 hb8 hz8)
        refine ⟨⟨A9, c9, out ++ [(k : Int)], swapL k now, by simp, ?_, OwnC.below hnow9 hb8 (Nat.le_refl _), HNL2, hb9.trans (hb8.mono (by omega)), Nat.le_trans hz9 hb8.size, HD2, HI2⟩, ?_⟩
        · show OwnC _ _ _ _ _ _ _ _ _
          rw [List.map_append, List.length_append]
          exact ho8
        · have hlt := HLT.out
          show invs p - (out.length + 1) < invs p - out.length
          omega

end Go.Proofs.Ytnilglkiojigjaa

/- Permutations: the letters. -/
namespace Go.Proofs.Ytnilglkiojigjaa
open Go Go.RowKit

theorem permWord_mem (p : List Int) : ∀ x ∈ permWord p, 0 ≤ x ∧ x + 1 < (p.length : Int) := by
  have key : ∀ (f : Nat) (xs : List Int), ∀ x ∈ permFuel f xs, 0 ≤ x ∧ x + 1 < (xs.length : Int) := by
    intro f
    induction f with
    | zero => intro xs x h; simp [permFuel] at h
    | succ f ih =>
      intro xs x h
      rw [permFuel] at h
      cases hf : firstDes xs with
      | none => rw [hf] at h; simp at h
      | some k =>
        rw [hf] at h
        obtain ⟨a, b, ha, hb, _⟩ := firstDes_some hf
        have hk := (List.getElem?_eq_some_iff.1 hb).1
        rcases List.mem_cons.1 h with rfl | h
        · omega
        · have := ih _ x h
          rw [swapL_at ha hb, List.length_set, List.length_set] at this
          exact this
  exact key _ _
def addTo (i : Nat) (ws : List Int) : List Int := (ws.take i).map (· + 1) ++ ws.drop i
theorem addTo_at {ws : List Int} {i : Nat} {x : Int} (h : ws[i]? = some x) : (addTo i ws)[i]? = some x ∧ (addTo i ws).set i (x + 1) = addTo (i + 1) ws := by
  have hi := (List.getElem?_eq_some_iff.1 h).1
  have hl : ((ws.take i).map (· + 1)).length = i := by rw [List.length_map, List.length_take]; omega
  refine ⟨?_, ?_⟩
  · unfold addTo
    rw [List.getElem?_append_right (by omega), hl, Nat.sub_self, List.getElem?_drop, Nat.add_zero]
    exact h
  · unfold addTo
    rw [List.set_append_right _ _ (by omega), hl, Nat.sub_self, drop_cons h, List.set_cons_zero, take_snoc h, List.map_append, List.append_assoc]
    rfl
theorem addTo_length (i : Nat) (ws : List Int) : (addTo i ws).length = ws.length := by
  unfold addTo
  rw [List.length_append, List.length_map, List.length_take, List.length_drop]
  omega
theorem addTo_end (ws : List Int) : addTo ws.length ws = ws.map (· + 1) := by
  unfold addTo
  rw [List.take_length, List.drop_length, List.append_nil]
def permLetters (p : List Int) : List Int := (permWord p).map (· + 1)

set_option maxHeartbeats 2000000 in
theorem impl_permutationLetters (p : List Int) (A : Option Addr) (c : Nat) (w : World) (h : Ints w A p) (hl : p.length ≤ 12) :
    Calls Try.prog 69 #[.slice A p.length c] w fun e w' => ∃ A' c', e = .returned (.slice A' (permLetters p).length c') ∧ OwnI w' w.heap.size w'.heap.size A' c' (permLetters p) ∧ Below w.heap.size w w' := by
  have hmem := permWord_mem p
  have h144 : (permWord p).length ≤ 144 := Nat.le_trans (permWord_length p) (Nat.le_trans (invs_le p) (Nat.mul_le_mul hl hl))
  have HM := Lib.hid hmem; clear hmem
  go_enter Try.func69, Try.ntmps69
  go_wp2_with (fail)
  refine (impl_reducedWord p A c w h hl).mono ?_; rintro e w5 ⟨A5, c5, rfl, o5, b5⟩
  have HP : Hid (permLetters p = (permWord p).map (· + 1)) := Lib.hid rfl
  generalize permWord p = ws at o5 HM h144 HP ⊢
  have hz5 := b5.size
  go_wp2_with (fail)
  go_loopw [9] (fun iv wr => ∃ i : Nat, i ≤ ws.length ∧ iv = .int .i64 i ∧ OwnC wr w.heap.size w5.heap.size 2 1 A5 ws.length c5 ((addTo i ws).map (Value.int .i64)) ∧ Below w.heap.size w wr ∧ w5.heap.size ≤ wr.heap.size) (fun iv _ => ws.length - (intOf iv).toNat)
  case atStart => exact ⟨0, Nat.zero_le _, rfl, by simpa [addTo] using o5, b5, Nat.le_refl _⟩
  case round =>
    obtain ⟨i, hi, rfl, ho, hb, hz⟩ := hrel
    by_cases hil : i < ws.length
    · obtain ⟨g5, rfl⟩ := OwnC.head ho (by omega)
      have hx : ws[i]? = some (ws[i]'hil) := List.getElem?_eq_getElem hil
      obtain ⟨x, hxx⟩ : ∃ x, x = ws[i]'hil := ⟨_, rfl⟩
      rw [← hxx] at hx
      clear hxx
      obtain ⟨hat, hset⟩ := addTo_at hx
      have hm := HM.out x (List.mem_of_getElem? hx)
      have hho : OwnI wr w.heap.size w5.heap.size (some ⟨g5, 0, none⟩) c5 (addTo i ws) := by show OwnC _ _ _ _ _ _ _ _ _; rw [addTo_length]; exact ho
      obtain ⟨cx, fx, ga, gb⟩ := own_at hho hat
      have hst := (OwnC.store (j := i) ho (.int .i64 (x + 1))).1
      rw [← List.map_set, hset] at hst
      have hx1 : -9223372036854775808 ≤ x + 1 ∧ x + 1 ≤ 9223372036854775807 := by omega
      obtain ⟨hx1, hx2⟩ := hx1
      have HST := Lib.hid hst; clear hst hset hat hho hx
      have j1 : (0 : Int) ≤ (i : Int) := by omega
      have j2 : (i : Int) < (ws.length : Int) := by omega
      go_wp2_with (fail)
      refine ⟨⟨i + 1, by omega, by go_num, HST.out, Below.setCell (p := ⟨g5, i, none⟩) hb (by show w.heap.size ≤ g5; omega) _, by simpa using hz⟩, by simp [intOf]; omega⟩
    · obtain rfl : i = ws.length := by omega
      rw [addTo_end] at ho
      go_wp2_with (fail)
      go_ret
      refine ⟨A5, c5, by rw [HP.out, List.length_map]; first | rfl | simp [results, go_sem], ?_, hb⟩
      rw [HP.out]
      show OwnC _ _ _ _ _ _ _ _ _
      rw [List.length_map]
      exact ho.mono (Nat.le_refl _) hz

end Go.Proofs.Ytnilglkiojigjaa

/- Permutations: the plain tests. -/
namespace Go.Proofs.Ytnilglkiojigjaa
open Go Go.RowKit

/-- Each entry lies between 0 and n-1 and is not among those before it. -/
def permGo (n : Int) : List Int → List Int → Bool
  | _, [] => true
  | done, x :: xs => inR x 0 (n - 1) && !decide (x ∈ done) && permGo n (done ++ [x]) xs
def permB (p : List Int) : Bool := decide (p.length ≤ 12) && permGo p.length [] p
theorem invs_half (xs : List Int) : 2 * invs xs + xs.length ≤ xs.length * xs.length := by
  induction xs with
  | nil => simp [invs]
  | cons x xs ih =>
    have h := List.countP_le_length (p := fun y => decide (y < x)) (l := xs)
    rw [invs, List.length_cons]
    have e : (xs.length + 1) * (xs.length + 1) = xs.length * xs.length + 2 * xs.length + 1 := by simp [Nat.add_mul, Nat.mul_add]; omega
    omega
theorem permLetters_length (p : List Int) : (permLetters p).length = (permWord p).length := by rw [permLetters, List.length_map]
theorem perm_braid {p : List Int} (h : p.length ≤ 8) : braidB p.length (permLetters p) = true ∧ (permLetters p).length ≤ 28 := by
  have h1 := permWord_length p
  have h2 := invs_half p
  have h3 : p.length * p.length ≤ 7 * p.length + p.length := by have := Nat.mul_le_mul_right p.length h; omega
  have h28 : (permLetters p).length ≤ 28 := by
    rw [permLetters_length]
    rcases (by omega : p.length = 0 ∨ p.length = 1 ∨ p.length = 2 ∨ p.length = 3 ∨ p.length = 4 ∨ p.length = 5 ∨ p.length = 6 ∨ p.length = 7 ∨ p.length = 8) with e | e | e | e | e | e | e | e | e <;> rw [e] at h2 <;> omega
  refine ⟨?_, h28⟩
  rw [braidB]
  simp only [Bool.and_eq_true, decide_eq_true_eq]
  refine ⟨⟨by rw [inR_iff]; omega, by omega⟩, ?_⟩
  rw [lettersB, List.all_eq_true]
  intro y hy
  rw [permLetters, List.mem_map] at hy
  obtain ⟨x, hx, rfl⟩ := hy
  have := permWord_mem p x hx
  unfold letterB
  rw [Bool.and_eq_true, decide_eq_true_eq, inR_iff]
  omega

end Go.Proofs.Ytnilglkiojigjaa

/- Permutations: the given side's test. -/
namespace Go.Proofs.Ytnilglkiojigjaa
open Go Go.RowKit

def seenC (n : Nat) (done : List Int) : List Value := (List.range n).map fun (v : Nat) => Value.bool (decide ((v : Int) ∈ done))
theorem seenC_length (n : Nat) (done : List Int) : (seenC n done).length = n := by simp [seenC]
theorem seenC_at {n v : Nat} (done : List Int) (h : v < n) : (seenC n done)[v]? = some (.bool (decide ((v : Int) ∈ done))) := by simp [seenC, h]
theorem seenC_set {n v : Nat} (done : List Int) (h : v < n) : (seenC n done).set v (.bool true) = seenC n (done ++ [(v : Int)]) := by
  apply List.ext_getElem?
  intro i
  rw [List.getElem?_set]
  by_cases hi : i < n
  · rw [seenC_at _ hi]
    by_cases hv : v = i
    · subst hv
      rw [if_pos rfl, if_pos (by rw [seenC_length]; exact h), seenC_at _ h]
      congr 2
      exact (decide_eq_true (List.mem_append.2 (.inr (List.mem_singleton.2 rfl)))).symm
    · rw [if_neg hv, seenC_at _ hi]
      have : ((i : Int) ∈ done ++ [(v : Int)]) ↔ (i : Int) ∈ done := by
        rw [List.mem_append, List.mem_singleton]
        constructor
        · rintro (h | h)
          · exact h
          · omega
        · exact .inl
      simp only [this]
  · rw [if_neg (by omega), List.getElem?_eq_none (by rw [seenC_length]; omega), List.getElem?_eq_none (by rw [seenC_length]; omega)]
theorem seenC_nil (n : Nat) : seenC n [] = List.replicate n (.bool false) := by
  apply List.ext_getElem?
  intro i
  by_cases hi : i < n
  · rw [seenC_at _ hi, List.getElem?_replicate, if_pos hi]; rfl
  · rw [List.getElem?_eq_none (by rw [seenC_length]; omega), List.getElem?_replicate, if_neg hi]
theorem permGo_drop {p : List Int} {k : Nat} {x : Int} (h : p[k]? = some x) (n : Int) : permGo n (p.take k) (p.drop k) = (inR x 0 (n - 1) && !decide (x ∈ p.take k) && permGo n (p.take (k + 1)) (p.drop (k + 1))) := by
  rw [drop_cons h, permGo, ← take_snoc h]

end Go.Proofs.Ytnilglkiojigjaa

/- Permutations: the given side's test, walked. -/
namespace Go.Proofs.Ytnilglkiojigjaa
open Go Go.RowKit

theorem info_bool : (Try.prog.info? 4).map (fun i => (i.zero, i.size, i.bytes)) = some (some (.bool false), 1, 1) := by kernel_rfl

set_option maxHeartbeats 2000000 in
set_option maxRecDepth 10000 in
theorem spec_l02Ok (p : List Int) (A : Option Addr) (c : Nat) (w : World) (h : Ints w A p) (hl : p.length ≤ 9223372036854775807) :
    Calls Try.prog 124 #[.slice A p.length c] w fun e w' => e = .returned (.bool (permB p)) ∧ Below w.heap.size w w' := by
  obtain ⟨i0, hi0, hz0, hz1, hz2⟩ := info_parts info_bool
  by_cases h12 : p.length ≤ 12
  · have hd : decide ((12 : Int) < (p.length : Int)) = false := decide_eq_false (by omega)
    have HF : Hid (permB p = permGo p.length [] p) := Lib.hid (by rw [permB, decide_eq_true h12]; rfl)
    go_enter Try.func124, Try.ntmps124
    go_wp2_with (refine wpList_make_full _ rfl _ _ _ rfl w.heap.size 4 i0 _ 1 Try.underlying188 hi0 hz0 hz1 .i64 .i64 _ _ p.length rfl rfl rfl rfl (by rw [hz2]; omega) (by unfold maxLen; omega) (Nat.le_refl _) ?_; intro w1 hown hg)
    have hb1 : Below w.heap.size w w1 := (Below.refl _ _).grown hg (Nat.le_refl _) (by simp)
    have hown' : w1.ownsRow w.heap.size 4 1 (.slice (some ⟨w.heap.size, 0, none⟩) p.length p.length) p.length (seenC p.length []) := by
      have e : (madeCells (Value.bool false).cells (p.length * 1)).toList = seenC p.length [] := by
        rw [seenC_nil]
        apply List.ext_getElem?
        intro i
        simp [madeCells, Value.cells, Nat.mod_one, List.getElem?_replicate]
        by_cases hi : i < p.length <;> simp [hi]
      rw [← e]
      exact hown
    have hh := h.below hb1
    clear hg
    go_loopw [4] (fun iv wr => ∃ k : Nat, k ≤ p.length ∧ iv = .int .i64 k ∧ wr.ownsRow w.heap.size 4 1 (.slice (some ⟨w.heap.size, 0, none⟩) p.length p.length) p.length (seenC p.length (p.take k)) ∧ Below w.heap.size w wr ∧ Hid (permB p = permGo p.length (p.take k) (p.drop k))) (fun iv _ => p.length - (intOf iv).toNat)
    case atStart => exact ⟨0, Nat.zero_le _, rfl, hown', hb1, HF⟩
    case round =>
      clear hown hown' hb1 HF hh
      obtain ⟨k, hk, rfl, hown, hb, HF⟩ := hrel
      by_cases hkl : k < p.length
      · obtain ⟨b, off, x, rfl, hc, hx⟩ := (h.below hb) k hkl
        have j1 : (0 : Int) ≤ (k : Int) := by omega
        have j2 : (k : Int) < (p.length : Int) := by omega
        have hgo := permGo_drop hx (p.length : Int)
        cases hin : inR x 0 ((p.length : Int) - 1)
        · have HE : Hid (permB p = false) := Lib.hid (by rw [HF.out, hgo, hin]; rfl)
          clear hgo hx
          go_wp2_with (go_at_call 63; refine (spec_l00In _ _ _ _).mono ?_; rintro e _ ⟨rfl, rfl⟩; rw [hin])
          go_ret
          exact ⟨ret_bool HE.out.symm, hb⟩
        · obtain ⟨hx0, hx1⟩ := inR_iff.1 hin
          obtain ⟨X, rfl⟩ := Int.eq_ofNat_of_zero_le hx0
          have hX : X < p.length := by omega
          have hcell : wr.cell? ⟨w.heap.size, X, none⟩ = some (.bool (decide ((X : Int) ∈ p.take k))) := by
            rw [hown.cellAt X (by omega), seenC_at _ hX]
          have hfz := hown.frozenAt X
          have j3 : (0 : Int) ≤ (X : Int) := by omega
          have j4 : (X : Int) < (p.length : Int) := by omega
          cases hm : decide ((X : Int) ∈ p.take k)
          · have HE : Hid (permB p = permGo p.length (p.take (k + 1)) (p.drop (k + 1))) := Lib.hid (by rw [HF.out, hgo, hin, hm]; rfl)
            have hset := (hown.stored X (.bool true)).1
            rw [seenC_set _ hX, ← take_snoc hx] at hset
            rw [hm] at hcell
            have HST := Lib.hid hset
            clear hgo hx hset hm
            go_wp2_with (go_at_call 63; refine (spec_l00In _ _ _ _).mono ?_; rintro e _ ⟨rfl, rfl⟩; rw [hin])
            refine ⟨⟨k + 1, by omega, by go_num, HST.out, hb.setCell (p := ⟨w.heap.size, X, none⟩) (Nat.le_refl _) _, HE⟩, by simp [intOf]; omega⟩
          · have HE : Hid (permB p = false) := Lib.hid (by rw [HF.out, hgo, hin, hm]; rfl)
            rw [hm] at hcell
            clear hgo hx hm
            go_wp2_with (go_at_call 63; refine (spec_l00In _ _ _ _).mono ?_; rintro e _ ⟨rfl, rfl⟩; rw [hin])
            go_ret
            exact ⟨ret_bool HE.out.symm, hb⟩
      · have HE : Hid (permB p = true) := Lib.hid (by rw [HF.out, drop_all (by omega)]; rfl)
        go_wp2_with (fail)
        go_ret
        exact ⟨ret_bool HE.out.symm, hb⟩
  · have hd : decide ((12 : Int) < (p.length : Int)) = true := decide_eq_true (by omega)
    have HF : Hid (permB p = false) := Lib.hid (by rw [permB, decide_eq_false h12]; rfl)
    clear h12
    go_enter Try.func124, Try.ntmps124
    go_wp2_with (fail)
    go_ret
    exact ⟨ret_bool HF.out.symm, Below.refl _ _⟩

end Go.Proofs.Ytnilglkiojigjaa

/- Permutations: the program's test. -/
namespace Go.Proofs.Ytnilglkiojigjaa
open Go Go.RowKit

theorem Blk.setAt {w : World} {g : Nat} {t : TypeId} {cs : Array Value} (h : Blk w g t cs) (j : Nat) (u : Value) : Blk (w.setCell ⟨g, j, none⟩ u) g t (cs.setIfInBounds j u) := by
  unfold Blk at h ⊢
  simp [World.setCell, Array.getElem?_modify, h]
set_option maxHeartbeats 2000000 in
set_option maxRecDepth 10000 in
theorem impl_ValidPermutation (p : List Int) (A : Option Addr) (c : Nat) (w : World) (h : Ints w A p) (hl : p.length ≤ 9223372036854775807) :
    Calls Try.prog 67 #[.slice A p.length c] w fun e w' => e = .returned (.bool (permB p)) ∧ Below w.heap.size w w' := by
  by_cases h12 : p.length ≤ 12
  · have hd : decide ((12 : Int) < (p.length : Int)) = false := decide_eq_false (by omega)
    have HF : Hid (permB p = permGo p.length [] p) := Lib.hid (by rw [permB, decide_eq_true h12]; rfl)
    go_enter Try.func67, Try.ntmps67
    go_wp2_with (fail)
    have hb1 : Below w.heap.size w (w.alloc (.cells (seenC 12 []).toArray 146)) := by (repeat (first | exact Below.refl _ _ | assumption | apply Below.drew | apply below_drewN | (refine Below.alloc ?_ (by first | omega | (simp; done) | (simp; omega)) _) | (refine Below.setCell ?_ (by first | omega | (simp; done) | (simp; omega)) _)))
    have kb1 := Blk.new w 146 (seenC 12 []).toArray
    rw [show (#[.bool false, .bool false, .bool false, .bool false, .bool false, .bool false, .bool false, .bool false, .bool false, .bool false, .bool false, .bool false] : Array Value) = (seenC 12 []).toArray by rw [seenC_nil]; rfl]
    go_loopw [11] (fun iv wr => ∃ k : Nat, k ≤ p.length ∧ iv = .int .i64 k ∧ Blk wr w.heap.size 146 (seenC 12 (p.take k)).toArray ∧ Below w.heap.size w wr ∧ Hid (permB p = permGo p.length (p.take k) (p.drop k))) (fun iv _ => p.length - (intOf iv).toNat)
    case atStart => exact ⟨0, Nat.zero_le _, rfl, kb1, hb1, HF⟩
    case round =>
      clear hb1 HF kb1
      obtain ⟨k, hk, rfl, kb, hb, HF⟩ := hrel
      by_cases hkl : k < p.length
      · obtain ⟨b, off, x, rfl, hc, hx⟩ := (h.below hb) k hkl
        have j1 : (0 : Int) ≤ (k : Int) := by omega
        have j2 : (k : Int) < (p.length : Int) := by omega
        have hgo := permGo_drop hx (p.length : Int)
        cases hin : inR x 0 ((p.length : Int) - 1)
        · have HE : Hid (permB p = false) := Lib.hid (by rw [HF.out, hgo, hin]; rfl)
          clear hgo hx
          go_wp2_with (go_at_call 83; refine (impl_within _ _ _ _).mono ?_; rintro e _ ⟨rfl, rfl⟩; rw [hin])
          go_ret
          exact ⟨ret_bool HE.out.symm, hb⟩
        · obtain ⟨hx0, hx1⟩ := inR_iff.1 hin
          obtain ⟨X, rfl⟩ := Int.eq_ofNat_of_zero_le hx0
          have hX : X < p.length := by omega
          have hX12 : X < 12 := by omega
          have hcell : wr.cell? ⟨w.heap.size, X, none⟩ = some (.bool (decide ((X : Int) ∈ p.take k))) := by
            rw [kb.cell X, List.getElem?_toArray, seenC_at _ hX12]
          have hfz := kb.frozen X
          have j3 : (0 : Int) ≤ (X : Int) := by omega
          have j4 : (X : Int) < 12 := by omega
          cases hm : decide ((X : Int) ∈ p.take k)
          · have HE : Hid (permB p = permGo p.length (p.take (k + 1)) (p.drop (k + 1))) := Lib.hid (by rw [HF.out, hgo, hin, hm]; rfl)
            have hset := kb.setAt X (.bool true)
            rw [List.setIfInBounds_toArray, seenC_set _ hX12, ← take_snoc hx] at hset
            rw [hm] at hcell
            have HST := Lib.hid hset
            clear hgo hx hset hm
            go_wp2_with (go_at_call 83; refine (impl_within _ _ _ _).mono ?_; rintro e _ ⟨rfl, rfl⟩; rw [hin])
            refine ⟨⟨k + 1, by omega, by go_num, HST.out, hb.setCell (p := ⟨w.heap.size, X, none⟩) (Nat.le_refl _) _, HE⟩, by simp [intOf]; omega⟩
          · have HE : Hid (permB p = false) := Lib.hid (by rw [HF.out, hgo, hin, hm]; rfl)
            rw [hm] at hcell
            clear hgo hx hm
            go_wp2_with (go_at_call 83; refine (impl_within _ _ _ _).mono ?_; rintro e _ ⟨rfl, rfl⟩; rw [hin])
            go_ret
            exact ⟨ret_bool HE.out.symm, hb⟩
      · have HE : Hid (permB p = true) := Lib.hid (by rw [HF.out, drop_all (by omega)]; rfl)
        go_wp2_with (fail)
        go_ret
        exact ⟨ret_bool HE.out.symm, hb⟩
  · have hd : decide ((12 : Int) < (p.length : Int)) = true := decide_eq_true (by omega)
    have HF : Hid (permB p = false) := Lib.hid (by rw [permB, decide_eq_false h12]; rfl)
    clear h12
    go_enter Try.func67, Try.ntmps67
    go_wp2_with (fail)
    go_ret
    exact ⟨ret_bool HF.out.symm, Below.refl _ _⟩

end Go.Proofs.Ytnilglkiojigjaa
