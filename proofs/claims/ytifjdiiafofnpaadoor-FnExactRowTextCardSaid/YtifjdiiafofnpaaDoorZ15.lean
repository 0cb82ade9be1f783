/- Steps of the proof, joined from several texts: DG DF DH. -/
import Derived.Test.YtifjdiiafofnpaaDoorZ14

/- Texts of pieces: the program's side. -/
namespace Go.Proofs.YtifjdiiafofnpaaDoor
open Go Go.RowKit

theorem impl_timesText (none : Int) (t : Nat) (ht : t ≤ 16) (w : World) : Calls Tryd.prog 72 #[.int .i64 (t : Int), .int .i64 none] w fun e w' => e = .returned (.string (tmT none t)) ∧ w = w' := by
  by_cases h : (t : Int) = none
  · have hb : ((t : Int) == none) = true := by simp [h]
    have HF : Hid (tmT none t = ⟨#[]⟩) := Lib.hid (by rw [tmT, if_pos h])
    clear h
    go_enter Tryd.func72, Tryd.ntmps72
    go_wp2_with (fail)
    go_ret
    exact ⟨by rw [HF.out]; rfl, rfl⟩
  · have hb : ((t : Int) == none) = false := by simpa using h
    have HF : Hid (tmT none t = decT t) := Lib.hid (by rw [tmT, if_neg h, Int.toNat_natCast])
    clear h
    go_enter Tryd.func72, Tryd.ntmps72
    go_wp2_with (fail)
    refine (impl_Decimal t ht _).mono ?_; rintro e _ ⟨rfl, rfl⟩
    go_wp2_with (fail)
    go_ret
    exact ⟨by rw [HF.out]; rfl, rfl⟩

theorem info_string : (Tryd.prog.info? 9).map (fun i => (i.zero, i.size, i.bytes)) = some (some (.string ⟨#[]⟩), 1, 16) := by kernel_rfl
/-- The box with the texts until now. -/
structure TS (w : World) (gO lo : Nat) (A : Option Addr) (c : Nat) (xs : List ByteArray) : Prop where
  bO : Blk w gO 80 #[.slice A xs.length c]
  ow : OwnC w lo w.heap.size 9 1 A xs.length c (xs.map Value.string)
  ord : lo ≤ gO
theorem TS.alloc {w : World} {gO lo : Nat} {A : Option Addr} {c : Nat} {xs : List ByteArray} (h : TS w gO lo A c xs) (x : Obj) : TS (w.alloc x) gO lo A c xs :=
  ⟨h.bO.alloc x, (OwnC.alloc h.ow x).mono (Nat.le_refl _) (by simp), h.ord⟩
theorem TS.below {w w' : World} {gO lo : Nat} {A : Option Addr} {c : Nat} {xs : List ByteArray} (h : TS w gO lo A c xs) (hb : Below w.heap.size w w') : TS w' gO lo A c xs :=
  ⟨h.bO.below hb h.bO.lt, (OwnC.below h.ow hb (Nat.le_refl _)).mono (Nat.le_refl _) hb.size, h.ord⟩
theorem TS.drew {w : World} {gO lo : Nat} {A : Option Addr} {c : Nat} {xs : List ByteArray} (h : TS w gO lo A c xs) : TS (World.drew w) gO lo A c xs :=
  ⟨h.bO, OwnC.drew1 h.ow, h.ord⟩
/-- The end of the closure: one text behind the others. -/
theorem TS.push {w w8 : World} {gO lo : Nat} {A A9 : Option Addr} {c c9 : Nat} {xs : List ByteArray} {x : ByteArray} (h : TS w gO lo A c xs)
    (ho8 : OwnC w8 lo w8.heap.size 9 1 A9 (xs.length + 1) c9 (xs.map Value.string ++ [.string x])) (kb8 : Blk w8 gO 80 #[.slice A xs.length c]) (hb8 : Below lo w w8) :
    TS (w8.setCell ⟨gO, 0, none⟩ (.slice A9 (xs.length + 1) c9)) gO lo A9 c9 (xs ++ [x]) ∧ Below lo w (w8.setCell ⟨gO, 0, none⟩ (.slice A9 (xs.length + 1) c9)) := by
  have t1 : (80 : TypeId) ≠ 9 := by decide
  have e : (xs ++ [x]).length = xs.length + 1 := by simp
  refine ⟨⟨?_, ?_, h.ord⟩, hb8.setCell (by show lo ≤ gO; exact h.ord) _⟩
  · rw [e]; simpa using kb8.set1 _
  · rw [e, List.map_append]
    exact (OwnC.farT ho8 kb8 t1 0 _).mono (Nat.le_refl _) (by simp)
set_option maxHeartbeats 4000000 in
set_option maxRecDepth 10000 in
theorem ptx_plain (p : PieceD) (A' : Option Addr) (n c' gO lo : Nat) (A : Option Addr) (c : Nat) (xs : List ByteArray) (w : World) (hs : TS w gO lo A c xs) (hk : p.kind ≠ 12) (hst : isStitchB p.kind = true) (ht : 1 ≤ p.times ∧ p.times ≤ 16) (hl : xs.length ≤ 800) :
    Calls Tryd.prog 71 #[.agg #[.int .i64 p.kind, .int .i64 p.times, .int .i64 p.len], .slice A' n c', .pointer (some ⟨gO, 0, none⟩)] w fun e w' =>
      e = .returned (.tuple #[]) ∧ (∃ A2 c2, TS w' gO lo A2 c2 (xs ++ [oneT p])) ∧ Below lo w w' := by
  obtain ⟨iS, hi0, hu0, hu1, hu2⟩ := info_parts info_string
  have t1 : (80 : TypeId) ≠ 9 := by decide
  have hk' : (p.kind == 12) = false := by simp [hk]
  have hlg := hs.ord
  have hlO := hs.bO.lt
  obtain ⟨T, hT⟩ := Int.eq_ofNat_of_zero_le (show 0 ≤ p.times by omega)
  have hT16 : T ≤ 16 := by omega
  have HOE : Hid (oneT p = ⟨#[symB p.kind.toNat]⟩ ++ tmT 1 T) := Lib.hid (by rw [oneT, hT])
  have c1 := fun W => impl_SymbolOf p.kind W hst
  have c2 := fun W => impl_timesText 1 T hT16 W
  have C1 := Lib.hid c1; clear c1
  have C2 := Lib.hid c2; clear c2
  rw [hT]
  obtain ⟨w1, hw1⟩ : ∃ w1, w1 = w.alloc (.cells #[.int .i64 p.kind, .int .i64 (T : Int), .int .i64 p.len] 61) := ⟨_, rfl⟩
  obtain ⟨gP, hgP⟩ : ∃ gP, gP = w.heap.size := ⟨_, rfl⟩
  have kp : Blk w1 gP 61 #[.int .i64 p.kind, .int .i64 (T : Int), .int .i64 p.len] := by rw [hw1, hgP]; exact Blk.new _ _ _
  have hs1 : TS w1 gO lo A c xs := by rw [hw1]; exact hs.alloc _
  have hb1 : Below lo w w1 := by rw [hw1]; exact (Below.refl _ _).alloc (by omega) _
  clear hk hT ht
  go_enter Tryd.func71, Tryd.ntmps71
  go_upto_region 1 with fail
  rw [← hw1, ← hgP]
  clear hw1 hgP
  obtain ⟨q0, q1, q2⟩ := kp.c3
  have b0 := hs1.bO.c1
  go_wp2_with (fail)
  (refine wp_region_pops 2 (S := (fun W' => W'.cell? ⟨gO, 0, none⟩ = some (.slice A xs.length c) ∧ W'.cell? ⟨gP, 0, none⟩ = some (.int .i64 p.kind) ∧ W'.cell? ⟨gP, 1, none⟩ = some (.int .i64 (T : Int)))) (pre := ?_) (T := ?_) (n := ?_) (by kernel_rfl) (by kernel_rfl) ?_ ?_ ?_ ?_ (fun hHeld => ?_); rotate_left 3; (focus (simp only [pops, List.pop_toArray, List.dropLast_cons_cons, List.dropLast_singleton]; rfl)); (focus (simp only [tailOf, List.pop_toArray, List.dropLast_cons_cons, List.dropLast_singleton, List.back?_toArray, List.getLast?_cons_cons, List.getLast?_singleton, Option.toList_some, List.nil_append, List.cons_append]; rfl)); (focus rfl); (focus (exact ⟨b0, q0, q1⟩)))
  ((refine wpAnyH_take (i := 0) (v := ?_) rfl (by kernel_rfl) (by kernel_rfl) (by kernel_rfl) (fun _ _ _ h => h) (Or.inl ⟨by rfl, ?_⟩) (by assumption) ?_; rotate_left; (focus (intro W hSw; (try dsimp only at hSw); go_simp; try (with_reducible rfl)))); (try simp only [List.getElem_toArray, List.getElem_cons_zero, Act.put, List.setIfInBounds_toArray, List.set_cons_zero, List.set_cons_succ]); (refine wpAnyH_take (i := 1) (v := ?_) rfl (by kernel_rfl) (by kernel_rfl) (by kernel_rfl) (fun _ _ _ h => h) (Or.inl ⟨by rfl, ?_⟩) (by assumption) ?_; rotate_left; (focus (intro W hSw; (try dsimp only at hSw); go_simp; try (with_reducible rfl)))); (try simp only [List.getElem_toArray, List.getElem_cons_zero, List.getElem_cons_succ, Act.put, List.setIfInBounds_toArray, List.set_cons_zero, List.set_cons_succ]); (refine wpAnyH_take (i := 2) (v := ?_) rfl (by kernel_rfl) (by kernel_rfl) (by kernel_rfl) (fun _ _ _ h => h) (Or.inl ⟨by rfl, ?_⟩) (by assumption) ?_; rotate_left; (focus (intro W hSw; (try dsimp only at hSw); go_simp; try (with_reducible rfl)))); (try simp only [List.getElem_toArray, List.getElem_cons_zero, List.getElem_cons_succ, Act.put, List.setIfInBounds_toArray, List.set_cons_zero, List.set_cons_succ]); (refine wpAnyH_take (i := 4) (v := ?_) rfl (by kernel_rfl) (by kernel_rfl) (by kernel_rfl) (fun _ _ _ h => h) (Or.inl ⟨by rfl, ?_⟩) (by assumption) ?_; rotate_left; (focus (intro W hSw; (try dsimp only at hSw); go_simp; try (with_reducible rfl)))); (try simp only [List.getElem_toArray, List.getElem_cons_zero, List.getElem_cons_succ, Act.put, List.setIfInBounds_toArray, List.set_cons_zero, List.set_cons_succ]); (refine wpAnyH_take (i := 5) (v := ?_) rfl (by kernel_rfl) (by kernel_rfl) (by kernel_rfl) (fun _ _ _ h => h) (Or.inl ⟨by rfl, ?_⟩) (by assumption) ?_; rotate_left; (focus (intro W hSw; (try dsimp only at hSw); go_simp; try (with_reducible rfl)))); (try simp only [List.getElem_toArray, List.getElem_cons_zero, List.getElem_cons_succ, Act.put, List.setIfInBounds_toArray, List.set_cons_zero, List.set_cons_succ]))
  (refine wpAnyH_ready (rs := [3]) (by kernel_rfl) (by simp) ?_; refine AllReadyH.cons rfl (fun K hK => ?_) AllReadyH.nil)
  go_simp
  refine (C1.out _).mono ?_; rintro e w5 ⟨rfl, rfl⟩
  refine hK.out _ _ ⟨b0, q0, q1⟩ (fun hHeld => ?_)
  clear hK K
  (try simp only [List.getElem_toArray, List.getElem_cons_zero, List.getElem_cons_succ, Act.put, List.setIfInBounds_toArray, List.set_cons_zero, List.set_cons_succ])
  (refine wpAnyH_ready (rs := [6]) (by kernel_rfl) (by simp) ?_; refine AllReadyH.cons rfl (fun K hK => ?_) AllReadyH.nil)
  go_simp
  refine (C2.out _).mono ?_; rintro e w5 ⟨rfl, rfl⟩
  refine hK.out _ _ ⟨b0, q0, q1⟩ (fun hHeld => ?_)
  clear hK K
  (try simp only [List.getElem_toArray, List.getElem_cons_zero, List.getElem_cons_succ, Act.put, List.setIfInBounds_toArray, List.set_cons_zero, List.set_cons_succ])
  have hz1 := tmT_size 1 T
  generalize tmT 1 T = tt at *
  ((refine wpAnyH_take (i := 7) (v := ?_) rfl (by kernel_rfl) (by kernel_rfl) (by kernel_rfl) (fun _ _ _ h => h) (Or.inl ⟨by rfl, ?_⟩) (by assumption) ?_; rotate_left; (focus (intro W hSw; (try dsimp only at hSw); go_simp; (try rw [if_neg (by first | omega | (simp only [ByteArray.size_append]; omega))]); try (with_reducible rfl)))); (try simp only [List.getElem_toArray, List.getElem_cons_zero, List.getElem_cons_succ, Act.put, List.setIfInBounds_toArray, List.set_cons_zero, List.set_cons_succ]))
  rw [← HOE.out]
  generalize hxe : oneT p = x at *
  have HXE := Lib.hid hxe; clear hxe
  (refine wpAnyH_ready (rs := [8]) (by kernel_rfl) (by simp) ?_; refine AllReadyH.cons rfl (fun K hK => ?_) AllReadyH.nil)
  go_simp
  have kpx := kp.alloc (.cells #[.string x] 9)
  refine hK.out _ _ ⟨(hs1.bO.alloc _).c1, kpx.c3.1, kpx.c3.2.1⟩ (fun hHeld => ?_)
  clear hK K
  (try simp only [List.getElem_toArray, List.getElem_cons_zero, List.getElem_cons_succ, Act.put, List.setIfInBounds_toArray, List.set_cons_zero, List.set_cons_succ])
  (refine wpAnyH_done (by kernel_rfl) ?_ _; change wpList _ _ _ _ _ _)
  clear hHeld C1 C2
  have hlz : lo ≤ (World.drew w1).heap.size := Nat.le_trans hs1.ord (Nat.le_of_lt hs1.bO.lt)
  have HKB : Hid (∀ w8, ((World.drew w1).alloc (.cells #[.string x] 9)).grownBy w8 (Value.slice A xs.length c).ownBlock → Blk w8 gO 80 #[.slice A xs.length c]) := Lib.hid (fun w8 hg => (hs1.drew.bO.alloc _).grownT (hs1.drew.ow.alloc (.cells #[.string x] 9)) t1 hg)
  go_wp2_with (at_builtin; (change wpList _ _ _ _ _ ((World.drew w1).alloc (.cells #[.string x] 9))); refine wpList_append1 (World.drew w1) [.string x] _ rfl (.tmp 19) (.tmp 27) _ rfl 9 iS _ 1 16 Tryd.underlying80 hi0 hu0 hu1 hu2 rfl (by decide) rfl hs1.drew.ow hlz 1 rfl rfl (by simp [Value.oneCell']) (by omega) (by decide) ?_; intro A9 c9 w8 ho8 hg8 hb8 hz8; have kb8 := HKB.out w8 hg8; have x0' := kb8.c1; have x1' := kb8.frozen 0)
  go_end0
  have kb8 := HKB.out w8 hg8
  obtain ⟨r1, r2⟩ := TS.push hs1.drew ho8 kb8 hb8
  rw [← HXE.out] at r1
  exact ⟨rfl, ⟨A9, c9, r1⟩, (Below.drew hb1).trans r2⟩

set_option maxHeartbeats 4000000 in
set_option maxRecDepth 10000 in
theorem ptx_group (p : PieceD) (it : ByteArray) (A' : Option Addr) (n c' gO lo : Nat) (A : Option Addr) (c : Nat) (xs : List ByteArray) (w : World) (hs : TS w gO lo A c xs) (hk : p.kind = 12) (ht : 0 ≤ p.times ∧ p.times ≤ 16) (hl : xs.length ≤ 800) (hit : it.size ≤ 800)
    (HM : Hid (∀ W, Below lo w W → Calls Tryd.prog 39 #[.slice A' n c'] W fun e w' => e = .returned (.string it) ∧ Below W.heap.size W w')) :
    Calls Tryd.prog 71 #[.agg #[.int .i64 p.kind, .int .i64 p.times, .int .i64 p.len], .slice A' n c', .pointer (some ⟨gO, 0, none⟩)] w fun e w' =>
      e = .returned (.tuple #[]) ∧ (∃ A2 c2, TS w' gO lo A2 c2 (xs ++ [grpT p it])) ∧ Below lo w w' := by
  obtain ⟨iS, hi0, hu0, hu1, hu2⟩ := info_parts info_string
  have t1 : (80 : TypeId) ≠ 9 := by decide
  have hk' : (p.kind == 12) = true := by simp [hk]
  have hlg := hs.ord
  have hlO := hs.bO.lt
  obtain ⟨T, hT⟩ := Int.eq_ofNat_of_zero_le (show 0 ≤ p.times by omega)
  have hT16 : T ≤ 16 := by omega
  have HOE : Hid (grpT p it = (((⟨#[40]⟩ : ByteArray) ++ it) ++ ⟨#[41, 42]⟩) ++ tmT 0 T) := Lib.hid (by rw [grpT, hT])
  have c2 := fun W => impl_timesText 0 T hT16 W
  have C2 := Lib.hid c2; clear c2
  rw [hT]
  obtain ⟨w1, hw1⟩ : ∃ w1, w1 = w.alloc (.cells #[.int .i64 p.kind, .int .i64 (T : Int), .int .i64 p.len] 61) := ⟨_, rfl⟩
  obtain ⟨gP, hgP⟩ : ∃ gP, gP = w.heap.size := ⟨_, rfl⟩
  have kp : Blk w1 gP 61 #[.int .i64 p.kind, .int .i64 (T : Int), .int .i64 p.len] := by rw [hw1, hgP]; exact Blk.new _ _ _
  have hs1 : TS w1 gO lo A c xs := by rw [hw1]; exact hs.alloc _
  have hb1 : Below lo w w1 := by rw [hw1]; exact (Below.refl _ _).alloc (by omega) _
  clear hk hT ht
  go_enter Tryd.func71, Tryd.ntmps71
  go_upto_region 1 with fail
  rw [← hw1, ← hgP]
  clear hw1 hgP
  obtain ⟨q0, q1, q2⟩ := kp.c3
  have b0 := hs1.bO.c1
  go_wp2_with (fail)
  (refine wp_region_pops 2 (S := (fun W' => W'.cell? ⟨gO, 0, none⟩ = some (.slice A xs.length c) ∧ W'.cell? ⟨gP, 1, none⟩ = some (.int .i64 (T : Int)))) (pre := ?_) (T := ?_) (n := ?_) (by kernel_rfl) (by kernel_rfl) ?_ ?_ ?_ ?_ (fun hHeld => ?_); rotate_left 3; (focus (simp only [pops, List.pop_toArray, List.dropLast_cons_cons, List.dropLast_singleton]; rfl)); (focus (simp only [tailOf, List.pop_toArray, List.dropLast_cons_cons, List.dropLast_singleton, List.back?_toArray, List.getLast?_cons_cons, List.getLast?_singleton, Option.toList_some, List.nil_append, List.cons_append]; rfl)); (focus rfl); (focus (exact ⟨b0, q1⟩)))
  ((refine wpAnyH_take (i := 0) (v := ?_) rfl (by kernel_rfl) (by kernel_rfl) (by kernel_rfl) (fun _ _ _ h => h) (Or.inl ⟨by rfl, ?_⟩) (by assumption) ?_; rotate_left; (focus (intro W hSw; (try dsimp only at hSw); go_simp; try (with_reducible rfl)))); (try simp only [List.getElem_toArray, List.getElem_cons_zero, Act.put, List.setIfInBounds_toArray, List.set_cons_zero, List.set_cons_succ]); (refine wpAnyH_take (i := 1) (v := ?_) rfl (by kernel_rfl) (by kernel_rfl) (by kernel_rfl) (fun _ _ _ h => h) (Or.inl ⟨by rfl, ?_⟩) (by assumption) ?_; rotate_left; (focus (intro W hSw; (try dsimp only at hSw); go_simp; try (with_reducible rfl)))); (try simp only [List.getElem_toArray, List.getElem_cons_zero, List.getElem_cons_succ, Act.put, List.setIfInBounds_toArray, List.set_cons_zero, List.set_cons_succ]); (refine wpAnyH_take (i := 5) (v := ?_) rfl (by kernel_rfl) (by kernel_rfl) (by kernel_rfl) (fun _ _ _ h => h) (Or.inl ⟨by rfl, ?_⟩) (by assumption) ?_; rotate_left; (focus (intro W hSw; (try dsimp only at hSw); go_simp; try (with_reducible rfl)))); (try simp only [List.getElem_toArray, List.getElem_cons_zero, List.getElem_cons_succ, Act.put, List.setIfInBounds_toArray, List.set_cons_zero, List.set_cons_succ]); (refine wpAnyH_take (i := 6) (v := ?_) rfl (by kernel_rfl) (by kernel_rfl) (by kernel_rfl) (fun _ _ _ h => h) (Or.inl ⟨by rfl, ?_⟩) (by assumption) ?_; rotate_left; (focus (intro W hSw; (try dsimp only at hSw); go_simp; try (with_reducible rfl)))); (try simp only [List.getElem_toArray, List.getElem_cons_zero, List.getElem_cons_succ, Act.put, List.setIfInBounds_toArray, List.set_cons_zero, List.set_cons_succ]))
  (refine wpAnyH_ready (rs := [2]) (by kernel_rfl) (by simp) ?_; refine AllReadyH.cons rfl (fun K hK => ?_) AllReadyH.nil)
  go_simp
  refine (HM.out _ (Below.drew hb1)).mono ?_; rintro e w5 ⟨rfl, b5'⟩
  have b5 : Below w1.heap.size w1 w5 := undrew b5'
  have hs5 := hs1.below b5
  have kp5 := kp.below b5 kp.lt
  refine hK.out _ _ ⟨hs5.bO.c1, kp5.c3.2.1⟩ (fun hHeld => ?_)
  clear hK K b5'
  have hb5 : Below lo w w5 := hb1.trans (b5.mono (Nat.le_trans hs1.ord (Nat.le_of_lt hs1.bO.lt)))
  (try simp only [List.getElem_toArray, List.getElem_cons_zero, List.getElem_cons_succ, Act.put, List.setIfInBounds_toArray, List.set_cons_zero, List.set_cons_succ])
  ((refine wpAnyH_take (i := 3) (v := ?_) rfl (by kernel_rfl) (by kernel_rfl) (by kernel_rfl) (fun _ _ _ h => h) (Or.inl ⟨by rfl, ?_⟩) (by assumption) ?_; rotate_left; (focus (intro W hSw; (try dsimp only at hSw); go_simp; (try rw [if_neg (by first | omega | (simp only [ByteArray.size_append]; omega))]); try (with_reducible rfl)))); (try simp only [List.getElem_toArray, List.getElem_cons_zero, List.getElem_cons_succ, Act.put, List.setIfInBounds_toArray, List.set_cons_zero, List.set_cons_succ]); (refine wpAnyH_take (i := 4) (v := ?_) rfl (by kernel_rfl) (by kernel_rfl) (by kernel_rfl) (fun _ _ _ h => h) (Or.inl ⟨by rfl, ?_⟩) (by assumption) ?_; rotate_left; (focus (intro W hSw; (try dsimp only at hSw); go_simp; (try rw [if_neg (by first | omega | (simp only [ByteArray.size_append]; omega))]); try (with_reducible rfl)))); (try simp only [List.getElem_toArray, List.getElem_cons_zero, List.getElem_cons_succ, Act.put, List.setIfInBounds_toArray, List.set_cons_zero, List.set_cons_succ]))
  (refine wpAnyH_ready (rs := [7]) (by kernel_rfl) (by simp) ?_; refine AllReadyH.cons rfl (fun K hK => ?_) AllReadyH.nil)
  go_simp
  refine (C2.out _).mono ?_; rintro e w6 ⟨rfl, rfl⟩
  refine hK.out _ _ ⟨hs5.bO.c1, kp5.c3.2.1⟩ (fun hHeld => ?_)
  clear hK K
  (try simp only [List.getElem_toArray, List.getElem_cons_zero, List.getElem_cons_succ, Act.put, List.setIfInBounds_toArray, List.set_cons_zero, List.set_cons_succ])
  have hz1 := tmT_size 0 T
  generalize tmT 0 T = tt at *
  ((refine wpAnyH_take (i := 8) (v := ?_) rfl (by kernel_rfl) (by kernel_rfl) (by kernel_rfl) (fun _ _ _ h => h) (Or.inl ⟨by rfl, ?_⟩) (by assumption) ?_; rotate_left; (focus (intro W hSw; (try dsimp only at hSw); go_simp; (try rw [if_neg (by first | omega | (simp only [ByteArray.size_append]; omega))]); try (with_reducible rfl)))); (try simp only [List.getElem_toArray, List.getElem_cons_zero, List.getElem_cons_succ, Act.put, List.setIfInBounds_toArray, List.set_cons_zero, List.set_cons_succ]))
  rw [← HOE.out]
  generalize hxe : grpT p it = x at *
  have HXE := Lib.hid hxe; clear hxe
  (refine wpAnyH_ready (rs := [9]) (by kernel_rfl) (by simp) ?_; refine AllReadyH.cons rfl (fun K hK => ?_) AllReadyH.nil)
  go_simp
  have kpx := kp5.alloc (.cells #[.string x] 9)
  refine hK.out _ _ ⟨(hs5.bO.alloc _).c1, kpx.c3.2.1⟩ (fun hHeld => ?_)
  clear hK K
  (try simp only [List.getElem_toArray, List.getElem_cons_zero, List.getElem_cons_succ, Act.put, List.setIfInBounds_toArray, List.set_cons_zero, List.set_cons_succ])
  (refine wpAnyH_done (by kernel_rfl) ?_ _; change wpList _ _ _ _ _ _)
  clear hHeld C2
  have hlz : lo ≤ w5.heap.size := Nat.le_trans hs5.ord (Nat.le_of_lt hs5.bO.lt)
  have HKB : Hid (∀ w8, (w5.alloc (.cells #[.string x] 9)).grownBy w8 (Value.slice A xs.length c).ownBlock → Blk w8 gO 80 #[.slice A xs.length c]) := Lib.hid (fun w8 hg => (hs5.bO.alloc _).grownT (hs5.ow.alloc (.cells #[.string x] 9)) t1 hg)
  go_wp2_with (at_builtin; refine wpList_append1 w5 [.string x] _ rfl (.tmp 8) (.tmp 17) _ rfl 9 iS _ 1 16 Tryd.underlying80 hi0 hu0 hu1 hu2 rfl (by decide) rfl hs5.ow hlz 1 rfl rfl (by simp [Value.oneCell']) (by omega) (by decide) ?_; intro A9 c9 w8 ho8 hg8 hb8 hz8; have kb8 := HKB.out w8 hg8; have x0' := kb8.c1; have x1' := kb8.frozen 0)
  go_end0
  have kb8 := HKB.out w8 hg8
  obtain ⟨r1, r2⟩ := TS.push hs5 ho8 kb8 hb8
  rw [← HXE.out] at r1
  exact ⟨rfl, ⟨A9, c9, r1⟩, hb5.trans r2⟩

end Go.Proofs.YtifjdiiafofnpaaDoor

/- Texts of pieces: the given side. -/
namespace Go.Proofs.YtifjdiiafofnpaaDoor
open Go Go.RowKit

set_option maxHeartbeats 4000000 in
set_option maxRecDepth 10000 in
theorem spec_l16Text (m : Nat) : ∀ (ps : List PieceD) (A : Option Addr) (c d : Nat) (w : World), ps.length ≤ m → ps.length ≤ 100 → ps.length ≤ c → c ≤ 9223372036854775807 → Pieces w A ps → Good d ps →
    Calls Tryd.prog 32 #[.slice A ps.length c] w fun e w' => e = .returned (.string (txtP ps)) ∧ Below w.heap.size w w' := by
  induction m using Nat.strongRecOn with
  | ind m ih =>
  intro ps A c d w hm hl hc hcm h hg
  have IH := Lib.hid ih; clear ih
  have HSZ := Lib.hid (fun xs ys he => txt_sizes hg hl (xs := xs) (ys := ys) he)
  go_enter Tryd.func32, Tryd.ntmps32
  go_wp2_with (fail)
  go_loopw [3, 4] (fun ov iv wr => ∃ (k : Nat) (xs : List ByteArray), k ≤ ps.length ∧ iv = .int .i64 k ∧ ov = .string (joinB xs) ∧ Hid (partsP ps = xs ++ partsP (ps.drop k)) ∧ Hid (Good d (ps.drop k)) ∧ Below w.heap.size w wr) (fun _ iv _ => ps.length - (intOf iv).toNat)
  case atStart => exact ⟨0, [], Nat.zero_le _, rfl, rfl, Lib.hid rfl, Lib.hid hg, Below.refl _ _⟩
  case round =>
    obtain ⟨k, xs, hk, rfl, rfl, HS, HG, hb⟩ := hrel
    have hz := hb.size
    by_cases hlt : k < ps.length
    · obtain ⟨b1, off, p, rfl, hp, p0, p1, p2⟩ := (h.below hb) k hlt
      have HP := Lib.hid hp; clear hp
      have j1 : (0 : Int) ≤ (k : Int) := by omega
      have j2 : (k : Int) < (ps.length : Int) := by omega
      have HX := Lib.hid (sep_next HS.out)
      obtain ⟨z1, z2⟩ := HSZ.out _ _ HS.out
      obtain ⟨w5, hw5⟩ : ∃ w5, w5 = wr.alloc (.cells #[.int .i64 p.kind, .int .i64 p.times, .int .i64 p.len] 61) := ⟨_, rfl⟩
      have b5 : Below wr.heap.size wr w5 := by rw [hw5]; (repeat (first | exact Below.refl _ _ | assumption | apply Below.drew | apply below_drewN | (refine Below.alloc ?_ (by first | omega | (simp; done) | (simp; omega)) _) | (refine Below.setCell ?_ (by first | omega | (simp; done) | (simp; omega)) _)))
      obtain ⟨g5, hg5⟩ : ∃ g5, g5 = wr.heap.size := ⟨_, rfl⟩
      have k5 : Blk w5 g5 61 #[.int .i64 p.kind, .int .i64 p.times, .int .i64 p.len] := by rw [hw5, hg5]; exact Blk.new _ _ _
      have hb5 : Below w.heap.size w w5 := hb.trans (b5.mono hz)
      have hgl := k5.lt
      go_upto_region 6 with fail
      rw [← hw5, ← hg5]
      clear hw5 hg5 p0 p1 p2
      go_upto_if 17 with fail
      go_cut [3] (fun tv wx => tv = .string (sepB xs) ∧ w5 = wx)
      case first =>
        by_cases he : joinB xs = ⟨#[]⟩
        · have HE : Hid (sepB xs = ⟨#[]⟩) := Lib.hid (by rw [sepB, if_pos he])
          have hne : (!(joinB xs).toList.isEmpty) = false := by rw [ba_isEmpty he]; rfl
          have HJ := Lib.hid he; clear he
          generalize joinB xs = t0 at *
          go_wp2_with (fail)
          all_goals first | (rename_i hx; rw [hne] at hx; exact absurd hx (by decide)) | (go_meet; exact ⟨by rw [HE.out, HJ.out], rfl⟩)
        · have HE : Hid (sepB xs = joinB xs ++ ⟨#[32]⟩) := Lib.hid (by rw [sepB, if_neg he])
          have hne : (!(joinB xs).toList.isEmpty) = true := by rw [ba_notEmpty he]; rfl
          clear he
          generalize joinB xs = t0 at *
          go_wp2_with (fail)
          all_goals first | (rename_i hx; rw [hne] at hx; exact absurd hx (by decide)) | (go_meet; exact ⟨by rw [HE.out], rfl⟩)
      case rest =>
      obtain ⟨rfl, rfl⟩ := hcut
      clear z1
      obtain ⟨q0, q1, q2⟩ := k5.c3
      by_cases hk12 : p.kind = 12
      · obtain ⟨n, hnl, hn1, hn2, _, _, ht0, ht16, hg2, hg3, _, _⟩ := good_at_group HG.out HP.out hk12
        have HXG := Lib.hid (parts_at_group HP.out hk12 hnl)
        have HG3 := Lib.hid hg3; clear hg3
        rw [hnl] at q2 k5
        have i1 : (k : Int) + 1 ≤ (k : Int) + 1 + (n : Int) := by omega
        have i2 : (k : Int) + 1 + (n : Int) ≤ (c : Int) := by omega
        have w1 : IntKind.i64.wrap ((k : Int) + 1) = (k : Int) + 1 := IntWalk.i64_in _ (by omega)
        have w2 : IntKind.i64.wrap ((k : Int) + 1 + (n : Int)) = (k : Int) + 1 + (n : Int) := IntWalk.i64_in _ (by omega)
        have w3 : ((k : Int) + 1).toNat = k + 1 := by omega
        have w4 : ((k : Int) + 1 + (n : Int)).toNat = k + 1 + n := by omega
        have w5 : (0 : Int) ≤ (k : Int) + 1 := by omega
        have w6 : (0 : Int) ≤ (k : Int) + 1 + (n : Int) := by omega
        have w7 : (k : Int) + 1 ≤ max ((k : Int) + 1 + (n : Int)) 0 := by omega
        have w8 : ¬ c = k + 1 := by omega
        have w9 : k + 1 + n - (k + 1) = n := by omega
        have w10 : IntKind.i64.wrap ((k : Int) + (n : Int)) = (k : Int) + (n : Int) := IntWalk.i64_in _ (by omega)
        have hsl : (segP ps (k + 1) (k + 1 + n)).length = n := by rw [segP_length hn2]; omega
        have HIC : Hid (∀ (W : World), Below w.heap.size w W → Calls Tryd.prog 32 #[.slice (some ⟨b1, off + (k + 1) * 3, none⟩) n (c - (k + 1))] W fun e w' => e = .returned (.string (txtP (segP ps (k + 1) (k + 1 + n)))) ∧ Below W.heap.size W w') := Lib.hid (fun W hW => by
          have := IH.out n (by omega) (segP ps (k + 1) (k + 1 + n)) (some ⟨b1, off + (k + 1) * 3, none⟩) (c - (k + 1)) (d + 1) W (by rw [hsl]; exact Nat.le_refl _) (by rw [hsl]; omega) (by rw [hsl]; omega) (by omega) ((Pieces.seg h hn2).below hW) hg2
          rwa [hsl] at this)
        have hit : (txtP (segP ps (k + 1) (k + 1 + n))).size ≤ 800 := by
          have := (txt_small hg2).1
          rw [hsl] at this
          omega
        clear hsl hg2 hnl
        have hk' : (p.kind != 12) = false := by simp [hk12]
        clear hk12
        obtain ⟨T, hT⟩ := Int.eq_ofNat_of_zero_le ht0
        have hGE : ∀ i, grpT p i = (((⟨#[40]⟩ : ByteArray) ++ i) ++ ⟨#[41, 42]⟩) ++ tmT 0 T := fun i => by rw [grpT, hT]
        have HGE := Lib.hid hGE; clear hGE
        rw [hT] at q1 k5
        generalize txtP (segP ps (k + 1) (k + 1 + n)) = it at *
        generalize sepB xs = s0 at *
        go_wp2_with (fail)
        refine (HIC.out _ hb5).mono ?_; rintro e w7 ⟨rfl, b7⟩
        have hb7 : Below w.heap.size w w7 := hb5.trans (b7.mono hb5.size)
        have k7 := k5.below b7 hgl
        obtain ⟨y0, y1, y2⟩ := k7.c3
        by_cases hTz : T = 0
        · have d1 : decide (0 < T) = false := decide_eq_false (by omega)
          have HF : Hid (s0 ++ grpT p it = s0 ++ (((⟨#[40]⟩ : ByteArray) ++ it) ++ ⟨#[41, 42]⟩)) := Lib.hid (by rw [HGE.out, hTz]; simp [tmT, ba_nil])
          clear hTz
          go_wp2_with (fail)
          exact ⟨⟨k + 1 + n, xs ++ [grpT p it], by omega, by go_num, by rw [HX.out, HF.out], Lib.hid (by rw [HS.out, HXG.out, List.append_assoc]; rfl), HG3, hb7⟩, by simp [intOf]; omega⟩
        · have d1 : decide (0 < T) = true := decide_eq_true (by omega)
          have HF : Hid (s0 ++ grpT p it = (s0 ++ (((⟨#[40]⟩ : ByteArray) ++ it) ++ ⟨#[41, 42]⟩)) ++ decT T) := Lib.hid (by
            rw [HGE.out, tmT, if_neg (by omega), Int.toNat_natCast, ba_assoc s0])
          have hds := decT_size T
          go_wp2_with (fail)
          refine (spec_l01Dec T ⟨by omega, by omega⟩ _).mono ?_; rintro e w8 ⟨rfl, b8⟩
          have hb8 : Below w.heap.size w w8 := hb7.trans (b8.mono hb7.size)
          have k8 := k7.below b8 k7.lt
          obtain ⟨v0, v1, v2⟩ := k8.c3
          clear hTz
          generalize decT T = dt at *
          go_wp2_with (fail)
          exact ⟨⟨k + 1 + n, xs ++ [grpT p it], by omega, by go_num, by rw [HX.out, HF.out], Lib.hid (by rw [HS.out, HXG.out, List.append_assoc]; rfl), HG3, hb8⟩, by simp [intOf]; omega⟩
      · obtain ⟨hpl, hg2⟩ := good_at_plain HG.out HP.out hk12
        have HG2 := Lib.hid hg2; clear hg2
        obtain ⟨t1, t2, hp0, hst⟩ := times_of hpl
        have HXG := Lib.hid (parts_at_plain HP.out hk12)
        have hst' := inR_iff.1 hst
        have hk' : (p.kind != 12) = true := by simp [hk12]
        obtain ⟨T, hT⟩ := Int.eq_ofNat_of_zero_le (show 0 ≤ p.times by omega)
        obtain ⟨s, hs⟩ := Int.eq_ofNat_of_zero_le (show 0 ≤ p.kind by omega)
        have hOE : oneT p = ⟨#[symB s]⟩ ++ tmT 1 T := by rw [oneT, hT, hs]; rfl
        have HOE := Lib.hid hOE; clear hOE
        rw [hT, hs, hp0] at k5
        rw [hT] at q1 t1 t2
        rw [hs] at q0 hk' hst'
        rw [hp0] at q2
        clear hk12 hpl hp0
        generalize sepB xs = s0 at *
        go_wp2_with (fail)
        refine (spec_SymbolOf s _ (by omega) (by omega)).mono ?_; rintro e _ ⟨rfl, rfl⟩
        by_cases hT1 : T = 1
        · have d1 : decide ((1 : Int) < (T : Int)) = false := decide_eq_false (by omega)
          have HF : Hid (s0 ++ oneT p = s0 ++ ⟨#[symB s]⟩) := Lib.hid (by rw [HOE.out, hT1]; simp [tmT, ba_nil])
          clear hT1
          go_wp2_with (fail)
          exact ⟨⟨k + 1, xs ++ [oneT p], by omega, by go_num, by rw [HX.out, HF.out], Lib.hid (by rw [HS.out, HXG.out, List.append_assoc]; rfl), HG2, hb5⟩, by simp [intOf]; omega⟩
        · have d1 : decide ((1 : Int) < (T : Int)) = true := decide_eq_true (by omega)
          have HF : Hid (s0 ++ oneT p = (s0 ++ ⟨#[symB s]⟩) ++ decT T) := Lib.hid (by
            rw [HOE.out, tmT, if_neg (by omega), Int.toNat_natCast, ba_assoc s0])
          have hds := decT_size T
          go_wp2_with (fail)
          refine (spec_l01Dec T ⟨by omega, by omega⟩ _).mono ?_; rintro e w8 ⟨rfl, b8⟩
          have hb8 : Below w.heap.size w w8 := hb5.trans (b8.mono hb5.size)
          clear hT1
          generalize decT T = dt at *
          go_wp2_with (fail)
          exact ⟨⟨k + 1, xs ++ [oneT p], by omega, by go_num, by rw [HX.out, HF.out], Lib.hid (by rw [HS.out, HXG.out, List.append_assoc]; rfl), HG2, hb8⟩, by simp [intOf]; omega⟩
    · obtain rfl : k = ps.length := by omega
      have he := HS.out
      rw [drop_all (Nat.le_refl _), partsP_nil, List.append_nil] at he
      have HE := Lib.hid he; clear he
      go_wp2_with (fail)
      go_ret
      exact ⟨by rw [txtP, HE.out]; rfl, hb⟩

theorem spec_PiecesText (ps : List PieceD) (A : Option Addr) (c : Nat) (w : World) (h : Pieces w A ps) (hl : ps.length ≤ 9223372036854775807) (hc : ps.length ≤ c) (hcm : c ≤ 9223372036854775807) :
    Calls Tryd.prog 13 #[.slice A ps.length c] w fun e w' => e = .returned (.string (piecesT ps)) ∧ Below w.heap.size w w' := by
  cases hv : piecesB ps
  · have HF : Hid (piecesT ps = ⟨#[]⟩) := Lib.hid (by rw [piecesT, hv]; rfl)
    go_enter Tryd.func13, Tryd.ntmps13
    go_wp2_with (fail)
    refine (spec_l16Ok ps A c w h hl).mono ?_; rintro e w2 ⟨rfl, b2⟩
    rw [hv]
    go_wp2_with (fail)
    go_ret
    exact ⟨by rw [HF.out]; rfl, b2⟩
  · have HF : Hid (piecesT ps = txtP ps) := Lib.hid (by rw [piecesT, hv]; rfl)
    obtain ⟨h24, _, hg⟩ := piecesB_good hv
    go_enter Tryd.func13, Tryd.ntmps13
    go_wp2_with (fail)
    refine (spec_l16Ok ps A c w h hl).mono ?_; rintro e w2 ⟨rfl, b2⟩
    rw [hv]
    clear hv
    go_wp2_with (fail)
    refine (spec_l16Text ps.length ps A c 0 _ (Nat.le_refl _) (by omega) hc hcm (h.below b2) hg).mono ?_; rintro e w3 ⟨rfl, b3⟩
    go_wp2_with (fail)
    go_ret
    exact ⟨by rw [HF.out]; rfl, b2.trans (b3.mono b2.size)⟩

end Go.Proofs.YtifjdiiafofnpaaDoor

/- Texts of pieces: the program's side, PiecesText. -/
namespace Go.Proofs.YtifjdiiafofnpaaDoor
open Go Go.RowKit

def PtxAt (n : Nat) : Prop := ∀ (ps : List PieceD) (A : Option Addr) (c d : Nat) (w : World), ps.length < n → ps.length ≤ 100 → ps.length ≤ c → c ≤ 9223372036854775807 → Pieces w A ps → Good d ps →
    Calls Tryd.prog 39 #[.slice A ps.length c] w fun e w' => e = .returned (.string (txtP ps)) ∧ Below w.heap.size w w'

theorem impl_Join (xs : List ByteArray) (A : Option Addr) (c lo hi : Nat) (w : World) (h : OwnC w lo hi 9 1 A xs.length c (xs.map Value.string)) (hh : hi ≤ w.heap.size) (hl : xs.length ≤ 1000) (hs : (joinB xs).size ≤ 100000) :
    Calls Tryd.prog 74 #[.slice A xs.length c, .string ⟨#[32]⟩] w fun e w' => e = .returned (.string (joinB xs)) ∧ Below w.heap.size w w' := by
  cases xs with
  | nil =>
    refine (shelf_strings_Join_none A c ⟨#[32]⟩ w).mono ?_
    rintro e w' ⟨rfl, rfl⟩
    exact ⟨rfl, Below.refl _ _⟩
  | cons x r =>
    have hnews := h.news
    rcases h.form with ⟨_, hn, _⟩ | ⟨g, cur, hA, _, h2, _, hn, _⟩
    · simp at hn
    · subst hA
      refine (shelf_strings_Join g 0 c (x :: r) ⟨#[32]⟩ w ?_ (Nat.lt_of_lt_of_le h2 hh) (by omega) hn ?_).mono ?_
      · intro j y hy
        obtain ⟨b, off, hb, hc⟩ := hnews j (.string y) (by rw [List.getElem?_map, hy]; rfl)
        injection hb with hb
        injection hb with hb1 hb2
        subst hb1 hb2
        exact hc
      · have := joinB_size (x :: r)
        have e : (⟨#[32]⟩ : ByteArray).data.toList = [32] := rfl
        rw [e, ← this]
        omega
      · rintro e w' ⟨rfl, hb⟩
        exact ⟨rfl, hb⟩

set_option maxHeartbeats 4000000 in
set_option maxRecDepth 10000 in
theorem eachPiece_ptx (ps : List PieceD) (A : Option Addr) (c d gO lo : Nat) (A1 : Option Addr) (c1 : Nat) (w0 w : World) (IH : Hid (PtxAt ps.length)) (hl : ps.length ≤ 100) (hc : ps.length ≤ c) (hcm : c ≤ 9223372036854775807) (h : Pieces w0 A ps) (hw0 : w0.heap.size ≤ lo) (hb0 : Below w0.heap.size w0 w) (hg : Good d ps) (hx : TS w gO lo A1 c1 []) :
    Calls Tryd.prog 70 #[.slice A ps.length c, .func (.func 71) #[] #[.pointer (some ⟨gO, 0, none⟩)]] w fun e w' =>
      e = .returned (.tuple #[]) ∧ (∃ A2 c2, TS w' gO lo A2 c2 (partsP ps)) ∧ Below lo w w' := by
  have HSM : Hid ((partsP ps).length ≤ 800) := Lib.hid (by
    have h1 := (txt_small hg).2
    omega)
  go_enter Tryd.func70, Tryd.ntmps70
  go_wp2_with (fail)
  go_loopw [4] (fun iv wr => ∃ (k : Nat) (A2 : Option Addr) (c2 : Nat) (out : List ByteArray), k ≤ ps.length ∧ iv = .int .i64 k ∧ TS wr gO lo A2 c2 out ∧ Hid (partsP ps = out ++ partsP (ps.drop k)) ∧ Hid (Good d (ps.drop k)) ∧ Below lo w wr) (fun iv _ => ps.length - (intOf iv).toNat)
  case atStart => exact ⟨0, A1, c1, [], Nat.zero_le _, rfl, hx, Lib.hid rfl, Lib.hid hg, Below.refl _ _⟩
  case round =>
    obtain ⟨k, A2, c2, out, hk, rfl, hbx, HS, HG, hb⟩ := hrel
    have hbw : Below w0.heap.size w0 wr := hb0.trans (hb.mono hw0)
    have lo1 := hbx.ord
    have hol : out.length ≤ 800 := by
      have h1 := HSM.out
      rw [HS.out, List.length_append] at h1
      omega
    by_cases hlt : k < ps.length
    · obtain ⟨b1, off, p, rfl, hp, p0, p1, p2⟩ := (h.below hbw) k hlt
      have HP := Lib.hid hp; clear hp
      have j1 : (0 : Int) ≤ (k : Int) := by omega
      have j2 : (k : Int) < (ps.length : Int) := by omega
      by_cases hk12 : p.kind = 12
      · obtain ⟨n, hnl, hn1, hn2, _, _, ht0, ht16, hg2, hg3, _, _⟩ := good_at_group HG.out HP.out hk12
        have HXG := Lib.hid (parts_at_group HP.out hk12 hnl)
        have HG3 := Lib.hid hg3; clear hg3
        have HNL := Lib.hid hnl
        rw [hnl] at p2
        have w1 : IntKind.i64.wrap ((k : Int) + 1) = (k : Int) + 1 := IntWalk.i64_in _ (by omega)
        have w2 : IntKind.i64.wrap ((k : Int) + 1 + (n : Int)) = (k : Int) + 1 + (n : Int) := IntWalk.i64_in _ (by omega)
        have w3 : ((k : Int) + 1).toNat = k + 1 := by omega
        have w4 : ((k : Int) + 1 + (n : Int)).toNat = k + 1 + n := by omega
        have w5 : (0 : Int) ≤ (k : Int) + 1 := by omega
        have w6 : (0 : Int) ≤ (k : Int) + 1 + (n : Int) := by omega
        have w7 : (k : Int) + 1 ≤ max ((k : Int) + 1 + (n : Int)) 0 := by omega
        have w8 : ¬ c = k + 1 := by omega
        have w9 : k + 1 + n - (k + 1) = n := by omega
        have i1 : (k : Int) + 1 ≤ (k : Int) + 1 + (n : Int) := by omega
        have i2 : (k : Int) + 1 + (n : Int) ≤ (c : Int) := by omega
        have hsl : (segP ps (k + 1) (k + 1 + n)).length = n := by rw [segP_length hn2]; omega
        have hpl : (txtP (segP ps (k + 1) (k + 1 + n))).size ≤ 800 := by
          have h1 := (txt_small hg2).1
          rw [hsl] at h1
          omega
        have HIC : Hid (Calls Tryd.prog 71 #[.agg #[.int .i64 p.kind, .int .i64 p.times, .int .i64 (n : Int)], .slice (some ⟨b1, off + (k + 1) * 3, none⟩) n (c - (k + 1)), .pointer (some ⟨gO, 0, none⟩)] (World.drew wr) fun e w' =>
            e = .returned (.tuple #[]) ∧ (∃ A2 c2, TS w' gO lo A2 c2 (out ++ [grpT p (txtP (segP ps (k + 1) (k + 1 + n)))])) ∧ Below lo (World.drew wr) w') := Lib.hid (by
          have := ptx_group p (txtP (segP ps (k + 1) (k + 1 + n))) (some ⟨b1, off + (k + 1) * 3, none⟩) n (c - (k + 1)) gO lo A2 c2 out (World.drew wr) hbx.drew hk12 ⟨ht0, ht16⟩ hol hpl (Lib.hid fun W hW => by
            have := IH.out (segP ps (k + 1) (k + 1 + n)) (some ⟨b1, off + (k + 1) * 3, none⟩) (c - (k + 1)) (d + 1) W (by rw [hsl]; omega) (by rw [hsl]; omega) (by rw [hsl]; omega) (by omega) ((Pieces.seg h hn2).below ((Below.drew2 hbw).trans (hW.mono hw0))) hg2
            rwa [hsl] at this)
          rwa [hnl] at this)
        clear hsl hg2 hnl hk12 hpl
        go_wp2_with (fail)
        go_region_law (go_simp; go_at_call 71; refine HIC.out.mono ?_; rintro e w2 ⟨rfl, ⟨A3, c3, hbx2⟩, b2⟩)
        all_goals go_wp2_with (fail)
        all_goals
          have hb2 : Below lo w w2 := (Below.drew2 hb).trans b2
          exact ⟨⟨k + 1 + n, A3, c3, _, by omega, by go_num, hbx2, Lib.hid (by rw [HS.out, HXG.out, List.append_assoc]; rfl), HG3, hb2⟩, by simp [intOf]; omega⟩
      · obtain ⟨hpl, hg2⟩ := good_at_plain HG.out HP.out hk12
        have HG2 := Lib.hid hg2; clear hg2
        obtain ⟨t1, t2, hp0, hst⟩ := times_of hpl
        have HXG := Lib.hid (parts_at_plain HP.out hk12)
        rw [hp0] at p2
        have w1 : IntKind.i64.wrap ((k : Int) + 1) = (k : Int) + 1 := IntWalk.i64_in _ (by omega)
        have w3 : ((k : Int) + 1).toNat = k + 1 := by omega
        have w5 : (0 : Int) ≤ (k : Int) + 1 := by omega
        have w7 : (k : Int) + 1 ≤ max ((k : Int) + 1) 0 := by omega
        have i2 : (k : Int) + 1 ≤ (c : Int) := by omega
        have HIC : Hid (∀ A' n c', Calls Tryd.prog 71 #[.agg #[.int .i64 p.kind, .int .i64 p.times, .int .i64 0], .slice A' n c', .pointer (some ⟨gO, 0, none⟩)] (World.drew wr) fun e w' =>
            e = .returned (.tuple #[]) ∧ (∃ A2 c2, TS w' gO lo A2 c2 (out ++ [oneT p])) ∧ Below lo (World.drew wr) w') := Lib.hid (fun A' n c' => by
          have := ptx_plain p A' n c' gO lo A2 c2 out (World.drew wr) hbx.drew hk12 hst ⟨t1, t2⟩ hol
          rwa [hp0] at this)
        clear hk12 hpl hp0
        go_wp2_with (fail)
        go_region_law (go_simp; go_at_call 71; refine (HIC.out _ _ _).mono ?_; rintro e w2 ⟨rfl, ⟨A3, c3, hbx2⟩, b2⟩)
        all_goals go_wp2_with (fail)
        all_goals
          have hb2 : Below lo w w2 := (Below.drew2 hb).trans b2
          exact ⟨⟨k + 1, A3, c3, _, by omega, by go_num, hbx2, Lib.hid (by rw [HS.out, HXG.out, List.append_assoc]; rfl), HG2, hb2⟩, by simp [intOf]; omega⟩
    · obtain rfl : k = ps.length := by omega
      have he := HS.out
      rw [drop_all (Nat.le_refl _), partsP_nil, List.append_nil] at he
      have HE := Lib.hid he; clear he
      go_wp2_with (fail)
      go_end0
      exact ⟨rfl, ⟨A2, c2, by rw [HE.out]; exact hbx⟩, hb⟩

set_option maxHeartbeats 2000000 in
set_option maxRecDepth 10000 in
theorem impl_piecesText (m : Nat) : ∀ n, n ≤ m → PtxAt n := by
  induction m with
  | zero => intro n hn ps A c d w h0; omega
  | succ m ih =>
    intro n hn ps A c d w h0 hl hc hcm h hg
    have IH : Hid (PtxAt ps.length) := Lib.hid (ih ps.length (by omega))
    clear ih
    have hmf : ∀ (fn : Fn) (first cap : Array Value) (w : World), (Instr.makeFunc fn first cap).run Tryd.prog w = .ok (.func fn first cap) w := fun _ _ _ _ => rfl
    obtain ⟨w1, hw1⟩ : ∃ w1, w1 = (w.alloc (.cells #[] 9)).alloc (.cells #[.slice (some ⟨w.heap.size, 0, none⟩) 0 0] 80) := ⟨_, rfl⟩
    have hb1 : Below w.heap.size w w1 := by rw [hw1]; (repeat (first | exact Below.refl _ _ | assumption | apply Below.drew | apply below_drewN | (refine Below.alloc ?_ (by first | omega | (simp; done) | (simp; omega)) _) | (refine Below.setCell ?_ (by first | omega | (simp; done) | (simp; omega)) _)))
    have hx : TS w1 (w.heap.size + 1) w.heap.size (some ⟨w.heap.size, 0, none⟩) 0 [] := by
      rw [hw1]
      refine ⟨?_, ?_, by omega⟩
      · have := Blk.new (w.alloc (.cells #[] 9)) 80 #[.slice (some ⟨w.heap.size, 0, none⟩) 0 0]
        simpa using this
      · exact ((OwnC.lit (w := w) (lo := w.heap.size) (n := 0) 9 1 #[] (Nat.le_refl _) (Nat.zero_le _) rfl).alloc (.cells #[.slice (some ⟨w.heap.size, 0, none⟩) 0 0] 80)).mono (Nat.le_refl _) (by simp)
    have HX := Lib.hid hx; clear hx
    have hts := (txt_small hg)
    go_enter Tryd.func39, Tryd.ntmps39
    go_upto_region 2 with fail
    rw [← hw1]
    clear hw1
    go_wp2_with (fail)
    refine (eachPiece_ptx ps A c d (w.heap.size + 1) w.heap.size _ 0 w _ IH hl hc hcm h (Nat.le_refl _) hb1 hg HX.out).mono ?_; rintro e w2 ⟨rfl, ⟨A2, c2, hx2⟩, b2⟩
    have hbw : Below w.heap.size w w2 := hb1.trans b2
    have x0 := hx2.bO.c1
    go_wp2_with (fail)
    refine (impl_Join (partsP ps) A2 c2 _ _ w2 hx2.ow (Nat.le_refl _) (by omega) (by have := hts.1; unfold txtP at this; omega)).mono ?_; rintro e w3 ⟨rfl, b3⟩
    go_wp2_with (fail)
    go_ret
    exact ⟨rfl, hbw.trans (b3.mono hbw.size)⟩

theorem impl_PiecesText (ps : List PieceD) (A : Option Addr) (c : Nat) (w : World) (h : Pieces w A ps) (hl : ps.length ≤ 9223372036854775807) (hc : ps.length ≤ c) (hcm : c ≤ 9223372036854775807) :
    Calls Tryd.prog 15 #[.slice A ps.length c] w fun e w' => e = .returned (.string (piecesT ps)) ∧ Below w.heap.size w w' := by
  cases hv : piecesB ps
  · have HF : Hid (piecesT ps = ⟨#[]⟩) := Lib.hid (by rw [piecesT, hv]; rfl)
    go_enter Tryd.func15, Tryd.ntmps15
    go_wp2_with (fail)
    refine (impl_ValidPieces _ _ _ _ h hl hc hcm).mono ?_; rintro e w2 ⟨rfl, b2⟩
    rw [hv]
    go_wp2_with (fail)
    go_ret
    exact ⟨by rw [HF.out]; rfl, b2⟩
  · have HF : Hid (piecesT ps = txtP ps) := Lib.hid (by rw [piecesT, hv]; rfl)
    obtain ⟨h24, _, hg⟩ := piecesB_good hv
    go_enter Tryd.func15, Tryd.ntmps15
    go_wp2_with (fail)
    refine (impl_ValidPieces _ _ _ _ h hl hc hcm).mono ?_; rintro e w2 ⟨rfl, b2⟩
    rw [hv]
    clear hv
    go_wp2_with (fail)
    refine (impl_piecesText (ps.length + 1) _ (Nat.le_refl _) ps A c 0 _ (by omega) (by omega) hc hcm (h.below b2) hg).mono ?_; rintro e w3 ⟨rfl, b3⟩
    go_wp2_with (fail)
    go_ret
    exact ⟨by rw [HF.out]; rfl, b2.trans (b3.mono b2.size)⟩

end Go.Proofs.YtifjdiiafofnpaaDoor
