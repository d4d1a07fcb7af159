/-
  FnNames: names in one form, tries without one twice. The walk.
-/
import Derived.Test.YtkhlicmlnjccdaaDoorDraw4
import Derived.Test.YtkhlicmlnjccdaaDoorWt
import Derived.Test.YtkhlicmlnjccdaaDoorITries
import Derived.Test.YtkhlicmlnjccdaaDoorSTries
import Derived.Deep.RegionHeld3
import Derived.Deep.DeepCutAuto
import Derived.Test.YtkhlicmlnjccdaaDoorStEq
import Derived.Test.YtkhlicmlnjccdaaDoorNmx
import Derived.Test.YtkhlicmlnjccdaaDoorLtries
namespace Go.Proofs.YtkhlicmlnjccdaaDoor
open Go.RowKit Mem


set_option maxRecDepth 100000 in
set_option maxHeartbeats 4000000 in
theorem names_calls (A : Option Addr) (cp n : Nat) (code : List Int) (S : Nat → Prop) (w : World) (h : Sl kU8 w S A code) (hn : code.length = n) (hs : ∀ x ∈ code, 0 ≤ x ∧ x ≤ 255) (hl : n ≤ maxLen) (hm : ML w) :
    Calls Tryd.prog 8 #[.slice A n cp] w fun e w' => e = .returned (.bool true) ∧ Below w.heap.size w w' := by
  unfold maxLen at hl
  by_cases hb : 1048576 < n
  · go_enter Tryd.func8, Tryd.ntmps8
    go_wp2_with fail
    go_ret
    exact ⟨rfl, by (repeat (first | with_reducible exact Below.refl _ _ | with_reducible assumption | with_reducible refine Below.alloc ?_ (by first | exact Nat.le_refl _ | exact Below.size (by assumption) | exact Nat.le_trans (Below.size (by assumption)) (by simp; done) | (simp; done) | (simp; omega) | omega) _ | with_reducible refine below_drewN ?_ _ | with_reducible refine Below.drew ?_ | with_reducible refine Below.setCell ?_ (by first | exact Nat.le_refl _ | (simp; done) | (simp; omega) | omega) _))⟩
  have HS := hide hs
  have HN := hide hn
  clear hs hn
  go_enter Tryd.func8, Tryd.ntmps8
  go_wp2_with fail
  refine (drawClean_calls w A n cp code S h HN.out HS.out (by omega)).mono ?_
  rintro e w1 ⟨s, rfl, hs1, hb1⟩
  have hc := fun (W : World) (h : ML W) => iClean_calls s W (by omega) h
  have hc2 := fun W : World => sClean_calls s W (by omega)
  have hcc := fun h => Nm.clean_clean (s := s) h
  obtain ⟨r1, r2, hr⟩ : ∃ r1 r2, Nm.clean s = (r1, r2) := ⟨_, _, rfl⟩
  rw [hr] at hc hc2 hcc
  have hz := Nm.clean_size s
  rw [hr] at hz
  replace hz : r2.size ≤ 60 := hz
  replace hcc : r1 = 0 → Nm.clean r2 = (r1, r2) := hcc
  have HCC := hide hcc
  have HC := hide hc
  have HC2 := hide hc2
  clear hc hc2 hr hcc
  go_wp2_with fail
  refine (HC.out w1 (hm.below hb1)).mono ?_
  rintro e w2 ⟨rfl, hb2⟩
  have B2 := below_then hb1 hb1.size hb2
  clear hb1 hb2
  go_wp2_with fail
  generalize hW : w2.alloc (Obj.cells #[.int .i64 r1, .string r2] 23) = W
  have B3 : Below w.heap.size w W := by rw [← hW]; (repeat (first | with_reducible exact Below.refl _ _ | with_reducible assumption | with_reducible refine Below.alloc ?_ (by first | exact Nat.le_refl _ | exact Below.size (by assumption) | exact Nat.le_trans (Below.size (by assumption)) (by simp; done) | (simp; done) | (simp; omega) | omega) _ | with_reducible refine below_drewN ?_ _ | with_reducible refine Below.drew ?_ | with_reducible refine Below.setCell ?_ (by first | exact Nat.le_refl _ | (simp; done) | (simp; omega) | omega) _))
  have k0 : W.cell? ⟨w2.heap.size, 0, none⟩ = some (.int .i64 r1) := by rw [← hW]; exact blk_cell (heap_alloc_new w2 _) 0
  have k1 : W.cell? ⟨w2.heap.size, 1, none⟩ = some (.string r2) := by rw [← hW]; exact blk_cell (heap_alloc_new w2 _) 1
  clear hW B2
  go_cut [36] (fun c wx => c = .bool false ∧ Below w.heap.size w wx)
  case first =>
    have hng := named_guard
    have hne := fun W : World => named_neq_same r1 r2 W
    have hS : Below W.heap.size W W ∧ W.cell? ⟨w2.heap.size, 0, none⟩ = some (.int .i64 r1) ∧ W.cell? ⟨w2.heap.size, 1, none⟩ = some (.string r2) := ⟨Below.refl _ _, k0, k1⟩
    by_cases h0 : r1 = 0
    · subst h0
      have HC3 := hide (fun (W : World) (h : ML W) => iClean_calls r2 W (by omega) h)
      rw [HCC.out rfl] at HC3
      clear HC HCC
      refine wp_region_held_drew (S := fun w' => Below W.heap.size W w' ∧ w'.cell? ⟨w2.heap.size, 0, none⟩ = some (.int .i64 0) ∧ w'.cell? ⟨w2.heap.size, 1, none⟩ = some (.string r2)) (by kernel_rfl) ⟨Below.drew (Below.refl _ _), k0, k1⟩ (fun hHeld => ?_)
      (refine wpAnyH_take (i := 0) (oi := ⟨some 21, _, _, _, _, _⟩) (v := .agg #[.int .i64 0, .string r2]) rfl (by kernel_rfl) (by kernel_rfl) (by kernel_rfl) (fun _ _ _ h => h) (Or.inl ⟨by rfl, ?_⟩) (by assumption) ?_; (focus (intro w hSw; (try dsimp only at hSw); go_simp)); try simp only [Act.put, List.setIfInBounds_toArray, List.set_cons_zero, List.set_cons_succ])
      (refine wpAnyH_take (i := 1) (oi := ⟨some 22, _, _, _, _, _⟩) (v := .string s) rfl (by kernel_rfl) (by kernel_rfl) (by kernel_rfl) (fun _ _ _ h => h) (Or.inl ⟨by rfl, ?_⟩) (by assumption) ?_; (focus (intro w hSw; (try dsimp only at hSw); go_simp)); try simp only [Act.put, List.setIfInBounds_toArray, List.set_cons_zero, List.set_cons_succ])
      refine wpAnyH_ready (rs := [2]) (by kernel_rfl) (by simp) ?_
      refine AllReadyH.cons (o := ⟨some 23, _, _, _, _, _⟩) rfl (fun K hK => ?_) AllReadyH.nil
      go_simp
      refine (HC2.out _).mono ?_
      rintro e w' ⟨rfl, hb'⟩
      refine hK.out _ _ (held_step2 (by assumption) (by simpa using hb')) (fun hHeld => ?_)
      clear hK K
      try simp only [Act.put, List.setIfInBounds_toArray, List.set_cons_zero, List.set_cons_succ]
      (refine wpAnyH_take (i := 3) (oi := ⟨some 24, _, _, _, _, _⟩) (v := .bool false) rfl (by kernel_rfl) (by kernel_rfl) (by kernel_rfl) (fun _ _ _ h => h) (Or.inl ⟨by rfl, ?_⟩) (by assumption) ?_; (focus (intro w hSw; (try dsimp only at hSw); go_simp)); try simp only [Act.put, List.setIfInBounds_toArray, List.set_cons_zero, List.set_cons_succ])
      (refine wpAnyH_take (i := 4) (oi := ⟨some 25, _, _, _, _, _⟩) (v := .bool false) rfl (by kernel_rfl) (by kernel_rfl) (by kernel_rfl) (fun _ _ _ h => h) (Or.inl ⟨by rfl, ?_⟩) (by assumption) ?_; (focus (intro w hSw; (try dsimp only at hSw); go_simp)); try simp only [Act.put, List.setIfInBounds_toArray, List.set_cons_zero, List.set_cons_succ])
      (refine wpAnyH_take (i := 5) (oi := ⟨some 26, _, _, _, _, _⟩) (v := .pointer (some ⟨w2.heap.size, 0, none⟩)) rfl (by kernel_rfl) (by kernel_rfl) (by kernel_rfl) (fun _ _ _ h => h) (Or.inl ⟨by rfl, ?_⟩) (by assumption) ?_; (focus (intro w hSw; (try dsimp only at hSw); go_simp)); try simp only [Act.put, List.setIfInBounds_toArray, List.set_cons_zero, List.set_cons_succ])
      (refine wpAnyH_take (i := 6) (oi := ⟨some 27, _, _, _, _, _⟩) (v := .int .i64 0) rfl (by kernel_rfl) (by kernel_rfl) (by kernel_rfl) (fun _ _ _ h => h) (Or.inl ⟨by rfl, ?_⟩) (by assumption) ?_; (focus (intro w hSw; (try dsimp only at hSw); go_simp)); try simp only [Act.put, List.setIfInBounds_toArray, List.set_cons_zero, List.set_cons_succ])
      (refine wpAnyH_take (i := 7) (oi := ⟨some 28, _, _, _, _, _⟩) (v := .bool true) rfl (by kernel_rfl) (by kernel_rfl) (by kernel_rfl) (fun _ _ _ h => h) (Or.inl ⟨by rfl, ?_⟩) (by assumption) ?_; (focus (intro w hSw; (try dsimp only at hSw); go_simp)); try simp only [Act.put, List.setIfInBounds_toArray, List.set_cons_zero, List.set_cons_succ])
      (refine wpAnyH_take (i := 8) (oi := ⟨some 29, _, _, _, _, _⟩) (v := .bool true) rfl (by kernel_rfl) (by kernel_rfl) (by kernel_rfl) (fun _ _ _ h => h) (Or.inl ⟨by rfl, ?_⟩) (by assumption) ?_; (focus (intro w hSw; (try dsimp only at hSw); go_simp)); try simp only [Act.put, List.setIfInBounds_toArray, List.set_cons_zero, List.set_cons_succ])
      (refine wpAnyH_take (i := 9) (oi := ⟨some 30, _, _, _, _, _⟩) (v := .pointer (some ⟨w2.heap.size, 1, none⟩)) rfl (by kernel_rfl) (by kernel_rfl) (by kernel_rfl) (fun _ _ _ h => h) (Or.inl ⟨by rfl, ?_⟩) (by assumption) ?_; (focus (intro w hSw; (try dsimp only at hSw); go_simp)); try simp only [Act.put, List.setIfInBounds_toArray, List.set_cons_zero, List.set_cons_succ])
      (refine wpAnyH_take (i := 10) (oi := ⟨some 31, _, _, _, _, _⟩) (v := .string r2) rfl (by kernel_rfl) (by kernel_rfl) (by kernel_rfl) (fun _ _ _ h => h) (Or.inl ⟨by rfl, ?_⟩) (by assumption) ?_; (focus (intro w hSw; (try dsimp only at hSw); go_simp)); try simp only [Act.put, List.setIfInBounds_toArray, List.set_cons_zero, List.set_cons_succ])
      (refine wpAnyH_take (i := 12) (oi := ⟨some 33, _, _, _, _, _⟩) (v := .agg #[.int .i64 0, .string r2]) rfl (by kernel_rfl) (by kernel_rfl) (by kernel_rfl) (fun _ _ _ h => h) (Or.inl ⟨by rfl, ?_⟩) (by assumption) ?_; (focus (intro w hSw; (try dsimp only at hSw); go_simp)); try simp only [Act.put, List.setIfInBounds_toArray, List.set_cons_zero, List.set_cons_succ])
      refine wpAnyH_ready (rs := [11]) (by kernel_rfl) (by simp) ?_
      refine AllReadyH.cons (o := ⟨some 32, _, _, _, _, _⟩) rfl (fun K hK => ?_) AllReadyH.nil
      go_simp
      refine (HC3.out _ ((hm.below B3).below hHeld.1)).mono ?_
      rintro e w'' ⟨rfl, hb''⟩
      refine hK.out _ _ (held_step2 (by assumption) (by simpa using hb'')) (fun hHeld => ?_)
      clear hK K
      try simp only [Act.put, List.setIfInBounds_toArray, List.set_cons_zero, List.set_cons_succ]
      (refine wpAnyH_take (i := 13) (oi := ⟨some 34, _, _, _, _, _⟩) (v := .bool false) rfl (by kernel_rfl) (by kernel_rfl) (by kernel_rfl) (fun _ _ _ h => h) (Or.inl ⟨by rfl, ?_⟩) (by assumption) ?_; (focus (intro w hSw; (try dsimp only at hSw); go_simp)); try simp only [Act.put, List.setIfInBounds_toArray, List.set_cons_zero, List.set_cons_succ])
      (refine wpAnyH_take (i := 14) (oi := ⟨some 35, _, _, _, _, _⟩) (v := .bool false) rfl (by kernel_rfl) (by kernel_rfl) (by kernel_rfl) (fun _ _ _ h => h) (Or.inl ⟨by rfl, ?_⟩) (by assumption) ?_; (focus (intro w hSw; (try dsimp only at hSw); go_simp)); try simp only [Act.put, List.setIfInBounds_toArray, List.set_cons_zero, List.set_cons_succ])
      (refine wpAnyH_take (i := 15) (oi := ⟨some 36, _, _, _, _, _⟩) (v := .bool false) rfl (by kernel_rfl) (by kernel_rfl) (by kernel_rfl) (fun _ _ _ h => h) (Or.inl ⟨by rfl, ?_⟩) (by assumption) ?_; (focus (intro w hSw; (try dsimp only at hSw); go_simp)); try simp only [Act.put, List.setIfInBounds_toArray, List.set_cons_zero, List.set_cons_succ])
      refine wpAnyH_done (by kernel_rfl) ?_ _
      go_wp2_with fail
      go_meet
      exact ⟨rfl, below_then B3 B3.size hHeld.1⟩
    · have hb0 : (r1 == 0) = false := by simpa using h0
      clear h0 HC HCC
      refine wp_region_held_drew (S := fun w' => Below W.heap.size W w' ∧ w'.cell? ⟨w2.heap.size, 0, none⟩ = some (.int .i64 r1) ∧ w'.cell? ⟨w2.heap.size, 1, none⟩ = some (.string r2)) (by kernel_rfl) ⟨Below.drew (Below.refl _ _), k0, k1⟩ (fun hHeld => ?_)
      (refine wpAnyH_take (i := 0) (oi := ⟨some 21, _, _, _, _, _⟩) (v := .agg #[.int .i64 r1, .string r2]) rfl (by kernel_rfl) (by kernel_rfl) (by kernel_rfl) (fun _ _ _ h => h) (Or.inl ⟨by rfl, ?_⟩) (by assumption) ?_; (focus (intro w hSw; (try dsimp only at hSw); go_simp)); try simp only [Act.put, List.setIfInBounds_toArray, List.set_cons_zero, List.set_cons_succ])
      (refine wpAnyH_take (i := 1) (oi := ⟨some 22, _, _, _, _, _⟩) (v := .string s) rfl (by kernel_rfl) (by kernel_rfl) (by kernel_rfl) (fun _ _ _ h => h) (Or.inl ⟨by rfl, ?_⟩) (by assumption) ?_; (focus (intro w hSw; (try dsimp only at hSw); go_simp)); try simp only [Act.put, List.setIfInBounds_toArray, List.set_cons_zero, List.set_cons_succ])
      refine wpAnyH_ready (rs := [2]) (by kernel_rfl) (by simp) ?_
      refine AllReadyH.cons (o := ⟨some 23, _, _, _, _, _⟩) rfl (fun K hK => ?_) AllReadyH.nil
      go_simp
      refine (HC2.out _).mono ?_
      rintro e w' ⟨rfl, hb'⟩
      refine hK.out _ _ (held_step2 (by assumption) (by simpa using hb')) (fun hHeld => ?_)
      clear hK K
      try simp only [Act.put, List.setIfInBounds_toArray, List.set_cons_zero, List.set_cons_succ]
      (refine wpAnyH_take (i := 3) (oi := ⟨some 24, _, _, _, _, _⟩) (v := .bool false) rfl (by kernel_rfl) (by kernel_rfl) (by kernel_rfl) (fun _ _ _ h => h) (Or.inl ⟨by rfl, ?_⟩) (by assumption) ?_; (focus (intro w hSw; (try dsimp only at hSw); go_simp)); try simp only [Act.put, List.setIfInBounds_toArray, List.set_cons_zero, List.set_cons_succ])
      (refine wpAnyH_take (i := 4) (oi := ⟨some 25, _, _, _, _, _⟩) (v := .bool false) rfl (by kernel_rfl) (by kernel_rfl) (by kernel_rfl) (fun _ _ _ h => h) (Or.inl ⟨by rfl, ?_⟩) (by assumption) ?_; (focus (intro w hSw; (try dsimp only at hSw); go_simp)); try simp only [Act.put, List.setIfInBounds_toArray, List.set_cons_zero, List.set_cons_succ])
      (refine wpAnyH_take (i := 5) (oi := ⟨some 26, _, _, _, _, _⟩) (v := .pointer (some ⟨w2.heap.size, 0, none⟩)) rfl (by kernel_rfl) (by kernel_rfl) (by kernel_rfl) (fun _ _ _ h => h) (Or.inl ⟨by rfl, ?_⟩) (by assumption) ?_; (focus (intro w hSw; (try dsimp only at hSw); go_simp)); try simp only [Act.put, List.setIfInBounds_toArray, List.set_cons_zero, List.set_cons_succ])
      (refine wpAnyH_take (i := 6) (oi := ⟨some 27, _, _, _, _, _⟩) (v := .int .i64 r1) rfl (by kernel_rfl) (by kernel_rfl) (by kernel_rfl) (fun _ _ _ h => h) (Or.inl ⟨by rfl, ?_⟩) (by assumption) ?_; (focus (intro w hSw; (try dsimp only at hSw); go_simp)); try simp only [Act.put, List.setIfInBounds_toArray, List.set_cons_zero, List.set_cons_succ])
      (refine wpAnyH_take (i := 7) (oi := ⟨some 28, _, _, _, _, _⟩) (v := .bool false) rfl (by kernel_rfl) (by kernel_rfl) (by kernel_rfl) (fun _ _ _ h => h) (Or.inl ⟨by rfl, ?_⟩) (by assumption) ?_; (focus (intro w hSw; (try dsimp only at hSw); go_simp)); try simp only [Act.put, List.setIfInBounds_toArray, List.set_cons_zero, List.set_cons_succ])
      (refine wpAnyH_take (i := 8) (oi := ⟨some 29, _, _, _, _, _⟩) (v := .bool false) rfl (by kernel_rfl) (by kernel_rfl) (by kernel_rfl) (fun _ _ _ h => h) (Or.inl ⟨by rfl, ?_⟩) (by assumption) ?_; (focus (intro w hSw; (try dsimp only at hSw); go_simp)); try simp only [Act.put, List.setIfInBounds_toArray, List.set_cons_zero, List.set_cons_succ])
      (refine wpAnyH_take (i := 9) (oi := ⟨some 30, _, _, _, _, _⟩) (v := undef) rfl (by kernel_rfl) (by kernel_rfl) (by kernel_rfl) (fun _ _ _ h => h) (Or.inr ⟨by rfl, rfl⟩) (by assumption) ?_; try simp only [Act.put, List.setIfInBounds_toArray, List.set_cons_zero, List.set_cons_succ])
      (refine wpAnyH_take (i := 10) (oi := ⟨some 31, _, _, _, _, _⟩) (v := undef) rfl (by kernel_rfl) (by kernel_rfl) (by kernel_rfl) (fun _ _ _ h => h) (Or.inr ⟨by rfl, rfl⟩) (by assumption) ?_; try simp only [Act.put, List.setIfInBounds_toArray, List.set_cons_zero, List.set_cons_succ])
      (refine wpAnyH_take (i := 11) (oi := ⟨some 32, _, _, _, _, _⟩) (v := undef) rfl (by kernel_rfl) (by kernel_rfl) (by kernel_rfl) (fun _ _ _ h => h) (Or.inr ⟨by rfl, rfl⟩) (by assumption) ?_; try simp only [Act.put, List.setIfInBounds_toArray, List.set_cons_zero, List.set_cons_succ])
      (refine wpAnyH_take (i := 12) (oi := ⟨some 33, _, _, _, _, _⟩) (v := undef) rfl (by kernel_rfl) (by kernel_rfl) (by kernel_rfl) (fun _ _ _ h => h) (Or.inr ⟨by rfl, rfl⟩) (by assumption) ?_; try simp only [Act.put, List.setIfInBounds_toArray, List.set_cons_zero, List.set_cons_succ])
      (refine wpAnyH_take (i := 13) (oi := ⟨some 34, _, _, _, _, _⟩) (v := undef) rfl (by kernel_rfl) (by kernel_rfl) (by kernel_rfl) (fun _ _ _ h => h) (Or.inr ⟨by rfl, rfl⟩) (by assumption) ?_; try simp only [Act.put, List.setIfInBounds_toArray, List.set_cons_zero, List.set_cons_succ])
      (refine wpAnyH_take (i := 14) (oi := ⟨some 35, _, _, _, _, _⟩) (v := .bool false) rfl (by kernel_rfl) (by kernel_rfl) (by kernel_rfl) (fun _ _ _ h => h) (Or.inl ⟨by rfl, ?_⟩) (by assumption) ?_; (focus (intro w hSw; (try dsimp only at hSw); go_simp)); try simp only [Act.put, List.setIfInBounds_toArray, List.set_cons_zero, List.set_cons_succ])
      (refine wpAnyH_take (i := 15) (oi := ⟨some 36, _, _, _, _, _⟩) (v := .bool false) rfl (by kernel_rfl) (by kernel_rfl) (by kernel_rfl) (fun _ _ _ h => h) (Or.inl ⟨by rfl, ?_⟩) (by assumption) ?_; (focus (intro w hSw; (try dsimp only at hSw); go_simp)); try simp only [Act.put, List.setIfInBounds_toArray, List.set_cons_zero, List.set_cons_succ])
      refine wpAnyH_done (by kernel_rfl) ?_ _
      go_wp2_with fail
      go_meet
      exact ⟨rfl, below_then B3 B3.size hHeld.1⟩
  case rest =>
    obtain ⟨rfl, BW⟩ := hcut
    clear k0 k1 HC HC2 HCC B3 hz hs1
    generalize wc = W1 at *
    go_wp2_with fail
    refine (drawTries_calls W1 A n cp code S (h.below BW) HN.out HS.out (by omega)).mono ?_
    rintro e w3 ⟨v5, roots, f, s3, rfl, H5, HB3, hrl, hrs, hfs, hss⟩
    have B3 := below_then BW BW.size HB3
    have zW := BW.size
    clear HB3 BW
    obtain ⟨A5, c5, rfl, hc5, hd5, hs5⟩ := H5.slV
    have HRS := hide (fun r hr => Nat.le_trans (hrs r hr) (show 25 ≤ 1048576 by omega))
    have htl := Nm.tries_length roots f s3
    have hff := Nm.tries_fine roots f s3
    obtain ⟨ts, hts⟩ : ∃ ts, Nm.tries roots f s3 = ts := ⟨_, rfl⟩
    rw [hts] at htl hff
    have HTS := hide hts
    have HFF := hide hff
    clear hrs hts hff
    go_wp2_with fail
    refine (iTries_calls A5 c5 _ roots f s3 _ w3 hs5 rfl (by unfold maxLen; omega) HRS.out (by omega) (by omega) (hm.below B3)).mono ?_
    rintro e w4 ⟨v8, rfl, H8, HB4⟩
    rw [HTS.out] at H8
    have B4 := below_then B3 B3.size HB4
    have P58 := Own.apart H5 H8 (Nat.le_refl _)
    have z3 := B3.size
    replace H5 := H5.below HB4
    clear HB4 B3 hs5 hc5 hd5
    have hs5 := H5.sl
    go_wp2_with fail
    refine (sTries_calls A5 c5 _ roots f s3 _ w4 hs5 rfl (by unfold maxLen; omega) HRS.out (by omega) (by omega)).mono ?_
    rintro e w5 ⟨v51, rfl, H51, HB5⟩
    rw [HTS.out] at H51
    have B5 := below_then B4 B4.size HB5
    replace H5 := H5.below HB5
    replace H8 := H8.below HB5
    clear HB5 B4 hs5
    obtain ⟨A8, c8, rfl, hc8, hd8, hs8⟩ := H8.slV
    obtain ⟨A51, c51, rfl, hc51, hd51, hs51⟩ := H51.slV
    go_wp2_with fail
    refine (wTexts_same A8 A51 c8 c51 ts.length ts w5 _ _ hs8 hs51 rfl (by unfold maxLen; omega)).mono ?_
    rintro e w' ⟨rfl, n1, rfl⟩
    replace H5 := H5.drewN n1
    replace H8 := H8.drewN n1
    replace B5 := below_drewN B5 n1
    clear H51 hs8 hs51 hc51 hd51
    generalize w5.drewN n1 = w6 at *
    go_wp2_with fail
    -- each try is its own Clean, and no other
    go_loopw [9, 10, 11, 56] (fun _ _ _ i wr => ∃ j : Nat, i = .int .i64 j ∧ j ≤ ts.length ∧ Own fStr wr W1.heap.size 9 (.slice A5 roots.length c5) roots ∧ Own fStr wr w3.heap.size 9 (.slice A8 ts.length c8) ts ∧ Below w.heap.size w wr) (fun _ _ _ i _ => ts.length - (intOf i).toNat)
    case atStart => exact ⟨0, rfl, by omega, H5, H8, B5⟩
    case round =>
      clear H5 H8 B5
      obtain ⟨j, rfl, hj, H5, H8, B5⟩ := hrel
      by_cases hjl : j < ts.length
      · obtain ⟨ad, hA, hc⟩ := H8.sl.get hjl
        have hcl := HFF.out.get hjl
        have hne := hide (fun (m : Nat) (hm : m < j) => HFF.out.ne hm hjl)
        have hxs : ts[j].size ≤ 60 := by have := Nm.clean_size ts[j]; rw [hcl] at this; exact this
        have e1 : wr.cell? (ad.add j) = some (.string ts[j]) := by simpa [fStr, kStr] using hc.2
        subst hA
        generalize hX : ts[j] = x at e1 hcl hne hxs
        have HX := hide hX
        have HCL := hide hcl
        have hb0 := nbeq_t (rfl : x = x)
        clear hX hcl hc
        go_wp2_with fail
        refine (iClean_calls x wr (by omega) (hm.below B5)).mono ?_
        rw [HCL.out]
        rintro e w7 ⟨rfl, hb7⟩
        have B7 := below_then B5 B5.size hb7
        replace H5 := H5.below hb7
        replace H8 := H8.below hb7
        clear hb7 e1
        have hs8 := H8.sl
        have hfd := fun W : World => named_field1 0 x W
        go_wp2_with fail
        go_loop [11] (fun i => ∃ m : Nat, i = .int .i64 m ∧ m ≤ j) (fun i => j - (intOf i).toNat)
        case atStart => exact ⟨0, rfl, by omega⟩
        case round =>
          obtain ⟨m, rfl, hmj⟩ := hrel
          by_cases hml : m < j
          · obtain ⟨ad2, hA2, hc2⟩ := hs8.get (show m < ts.length by omega)
            injection hA2 with hA2
            subst hA2
            have e2 : w7.cell? (ad.add m) = some (.string (ts[m]'(by omega))) := by simpa [fStr, kStr] using hc2.2
            have hn2 := beq_f (hne.out m hml)
            generalize (ts[m]'(by omega)) = y at e2 hn2
            clear hc2
            go_wp2_with fail
            go_round
            case rel => exact ⟨m + 1, by go_num, by omega⟩
            case measure => simp [intOf]; omega
          · obtain rfl : m = j := by omega
            go_wp2_with fail
            go_roundw
            case rel => exact ⟨m + 1, by go_num, by omega, H5, H8, B7⟩
            case measure => simp [intOf]; omega
      · obtain rfl : j = ts.length := by omega
        clear HFF
        go_wp2_with fail
        -- the answer is written over
        go_loopw [12, 80] (fun _ i wr => ∃ (m : Nat) (ys : List Str), i = .int .i64 m ∧ m ≤ ts.length ∧ Hid (ys.length = ts.length) ∧ Own fStr wr W1.heap.size 9 (.slice A5 roots.length c5) roots ∧ Own fStr wr w3.heap.size 9 (.slice A8 ts.length c8) ys ∧ Below w.heap.size w wr) (fun _ i _ => ts.length - (intOf i).toNat)
        case atStart => exact ⟨0, ts, rfl, by omega, rfl, H5, H8, B5⟩
        case round =>
          clear H5 H8 B5
          obtain ⟨m, ys, rfl, hm2, HY, H5, H8, B5⟩ := hrel
          by_cases hml : m < ts.length
          · have hy0 : ys ≠ [] := fun e => by have := HY.out; rw [e] at this; simp at this; omega
            obtain ⟨g, c', hv, _, _, _, _, hob, _⟩ := H8.form hy0
            injection hv with hA _ hcc
            subst hA hcc
            have hym : ys[m]? = some (ys[m]'(by have := HY.out; omega)) := List.getElem?_eq_getElem _
            have c0 : wr.cell? ⟨g, m, none⟩ = some (.string (ys[m]'(by have := HY.out; omega))) := by
              have := H8.cellAt (j := 0) hym rfl
              rwa [show m * fStr.kind.size + 0 = m from Nat.mul_one m] at this
            generalize ys[m]'(by have := HY.out; omega) = yo at c0
            have f0 := H8.free m
            have hst := Own.stored1 H8 HY.out m ⟨#[111, 118, 101, 114]⟩
            have H5' := H5.kept hst.2 P58
            have B5' := Below.mark B5 H8 z3 hst.2
            have HST := hide hst
            clear hst hob hym hy0 H5 H8 B5
            go_wp2_with fail
            go_roundw
            case rel => exact ⟨m + 1, ys.set m ⟨#[111, 118, 101, 114]⟩, by go_num, by omega, by rw [List.length_set]; exact HY.out, H5', HST.out.1, B5'⟩
            case measure => simp [intOf]; omega
          · obtain rfl : m = ts.length := by omega
            clear H8 P58 HY
            have hs5 := H5.sl
            go_wp2_with fail
            refine (iTries_calls A5 c5 _ roots f s3 _ wr hs5 rfl (by unfold maxLen; omega) HRS.out (by omega) (by omega) (hm.below B5)).mono ?_
            rintro e w7 ⟨v9, rfl, H9, HB7⟩
            rw [HTS.out] at H9
            have B7 := below_then B5 B5.size HB7
            replace H5 := H5.below HB7
            clear HB7 B5 hs5
            have hs5 := H5.sl
            go_wp2_with fail
            refine (sTries_calls A5 c5 _ roots f s3 _ w7 hs5 rfl (by unfold maxLen; omega) HRS.out (by omega) (by omega)).mono ?_
            rintro e w8 ⟨v51, rfl, H51, HB8⟩
            rw [HTS.out] at H51
            have B8 := below_then B7 B7.size HB8
            replace H9 := H9.below HB8
            clear HB8 B7 hs5 H5
            obtain ⟨A8, c8, rfl, hc8, hd8, hs8⟩ := H9.slV
            obtain ⟨A51, c51, rfl, hc51, hd51, hs51⟩ := H51.slV
            go_wp2_with fail
            refine (wTexts_same A8 A51 c8 c51 ts.length ts w8 _ _ hs8 hs51 rfl (by unfold maxLen; omega)).mono ?_
            rintro e w' ⟨rfl, n1, rfl⟩
            replace B8 := below_drewN B8 n1
            clear H51 hs8 hs51 hc51 hd51 H9 hc8 hd8
            generalize w8.drewN n1 = w9 at *
            have h2 : (⟨#[46, 47]⟩ : Str).size = 2 := rfl
            have hsum := fun W : World => run_string_add_sum (P := Tryd.prog) (w := W) ⟨#[46, 47]⟩ s3 (by omega)
            have hsz : (⟨#[46, 47]⟩ ++ s3 : Str).size ≤ 63 := by rw [ByteArray.size_append]; omega
            have hwf := Nm.within_four f (⟨#[46, 47]⟩ ++ s3)
            have hws := fun W : World => sWithin_calls f (⟨#[46, 47]⟩ ++ s3) W (by omega) (by omega)
            have hwi := iWithin_calls f (⟨#[46, 47]⟩ ++ s3) w9 (by omega) (hm.below B8)
            obtain ⟨p1, p2, hp⟩ : ∃ p1 p2, Nm.within f (⟨#[46, 47]⟩ ++ s3) = (p1, p2) := ⟨_, _, rfl⟩
            obtain ⟨q1, q2, hq⟩ : ∃ q1 q2, Nm.clean f = (q1, q2) := ⟨_, _, rfl⟩
            rw [hp] at hwf hws hwi
            rw [hq] at hwf
            replace hwf : p1 = 4 ↔ q1 ≠ 0 := hwf
            have HCS := hide hws
            have HWI := hide hwi
            have HCF := hide hq
            clear hws hwi hq hp h2 HTS HRS htl hrl
            go_wp2_with fail
            refine (unhide HWI).mono ?_
            rintro e w10 ⟨rfl, hb10⟩
            have B9 := below_then B8 B8.size hb10
            clear hb10 HWI B8
            go_wp2_with fail
            generalize hW : w10.alloc (Obj.cells #[.int .i64 p1, .string p2] 23) = W
            have B10 : Below w.heap.size w W := by rw [← hW]; (repeat (first | with_reducible exact Below.refl _ _ | with_reducible assumption | with_reducible refine Below.alloc ?_ (by first | exact Nat.le_refl _ | exact Below.size (by assumption) | exact Nat.le_trans (Below.size (by assumption)) (by simp; done) | (simp; done) | (simp; omega) | omega) _ | with_reducible refine below_drewN ?_ _ | with_reducible refine Below.drew ?_ | with_reducible refine Below.setCell ?_ (by first | exact Nat.le_refl _ | (simp; done) | (simp; omega) | omega) _))
            have k0 : W.cell? ⟨w10.heap.size, 0, none⟩ = some (.int .i64 p1) := by rw [← hW]; exact blk_cell (heap_alloc_new w10 _) 0
            have k1 : W.cell? ⟨w10.heap.size, 1, none⟩ = some (.string p2) := by rw [← hW]; exact blk_cell (heap_alloc_new w10 _) 1
            clear hW B9
            have hng := named_guard
            have heq := fun W : World => named_eql_same p1 p2 W
            have hfd := fun W : World => named_field0 q1 q2 W
            by_cases hq : q1 = 0
            · have e1 : (q1 != 0) = false := by simpa using hq
              have e2 : (p1 == 4) = false := by
                have : ¬ p1 = 4 := fun e => hwf.1 e hq
                simpa using this
              clear hwf hq
              refine wp_region_held_drew (S := fun w' => Below W.heap.size W w' ∧ w'.cell? ⟨w10.heap.size, 0, none⟩ = some (.int .i64 p1) ∧ w'.cell? ⟨w10.heap.size, 1, none⟩ = some (.string p2)) (by kernel_rfl) ⟨Below.drew (Below.refl _ _), k0, k1⟩ (fun hHeld => ?_)
              (refine wpAnyH_take (i := 0) (oi := ⟨some 101, _, _, _, _, _⟩) (v := .agg #[.int .i64 p1, .string p2]) rfl (by kernel_rfl) (by kernel_rfl) (by kernel_rfl) (fun _ _ _ h => h) (Or.inl ⟨by rfl, ?_⟩) (by assumption) ?_; (focus (intro w hSw; (try dsimp only at hSw); go_simp)); try simp only [Act.put, List.setIfInBounds_toArray, List.set_cons_zero, List.set_cons_succ])
              (refine wpAnyH_take (i := 1) (oi := ⟨some 102, _, _, _, _, _⟩) (v := .string f) rfl (by kernel_rfl) (by kernel_rfl) (by kernel_rfl) (fun _ _ _ h => h) (Or.inl ⟨by rfl, ?_⟩) (by assumption) ?_; (focus (intro w hSw; (try dsimp only at hSw); go_simp)); try simp only [Act.put, List.setIfInBounds_toArray, List.set_cons_zero, List.set_cons_succ])
              (refine wpAnyH_take (i := 2) (oi := ⟨some 103, _, _, _, _, _⟩) (v := .string s3) rfl (by kernel_rfl) (by kernel_rfl) (by kernel_rfl) (fun _ _ _ h => h) (Or.inl ⟨by rfl, ?_⟩) (by assumption) ?_; (focus (intro w hSw; (try dsimp only at hSw); go_simp)); try simp only [Act.put, List.setIfInBounds_toArray, List.set_cons_zero, List.set_cons_succ])
              (refine wpAnyH_take (i := 3) (oi := ⟨some 104, _, _, _, _, _⟩) (v := .string (⟨#[46, 47]⟩ ++ s3)) rfl (by kernel_rfl) (by kernel_rfl) (by kernel_rfl) (fun _ _ _ h => h) (Or.inl ⟨by rfl, ?_⟩) (by assumption) ?_; (focus (intro w hSw; (try dsimp only at hSw); go_simp)); try simp only [Act.put, List.setIfInBounds_toArray, List.set_cons_zero, List.set_cons_succ])
              refine wpAnyH_ready (rs := [4]) (by kernel_rfl) (by simp) ?_
              refine AllReadyH.cons (o := ⟨some 105, _, _, _, _, _⟩) rfl (fun K hK => ?_) AllReadyH.nil
              go_simp
              refine (HCS.out _).mono ?_
              rintro e w' ⟨rfl, hb'⟩
              refine hK.out _ _ (held_step2 (by assumption) (by simpa using hb')) (fun hHeld => ?_)
              clear hK K
              try simp only [Act.put, List.setIfInBounds_toArray, List.set_cons_zero, List.set_cons_succ]
              (refine wpAnyH_take (i := 5) (oi := ⟨some 106, _, _, _, _, _⟩) (v := .bool true) rfl (by kernel_rfl) (by kernel_rfl) (by kernel_rfl) (fun _ _ _ h => h) (Or.inl ⟨by rfl, ?_⟩) (by assumption) ?_; (focus (intro w hSw; (try dsimp only at hSw); go_simp)); try simp only [Act.put, List.setIfInBounds_toArray, List.set_cons_zero, List.set_cons_succ])
              (refine wpAnyH_take (i := 6) (oi := ⟨some 107, _, _, _, _, _⟩) (v := .bool true) rfl (by kernel_rfl) (by kernel_rfl) (by kernel_rfl) (fun _ _ _ h => h) (Or.inl ⟨by rfl, ?_⟩) (by assumption) ?_; (focus (intro w hSw; (try dsimp only at hSw); go_simp)); try simp only [Act.put, List.setIfInBounds_toArray, List.set_cons_zero, List.set_cons_succ])
              (refine wpAnyH_take (i := 7) (oi := ⟨some 108, _, _, _, _, _⟩) (v := .string f) rfl (by kernel_rfl) (by kernel_rfl) (by kernel_rfl) (fun _ _ _ h => h) (Or.inl ⟨by rfl, ?_⟩) (by assumption) ?_; (focus (intro w hSw; (try dsimp only at hSw); go_simp)); try simp only [Act.put, List.setIfInBounds_toArray, List.set_cons_zero, List.set_cons_succ])
              (refine wpAnyH_take (i := 11) (oi := ⟨some 112, _, _, _, _, _⟩) (v := .pointer (some ⟨w10.heap.size, 0, none⟩)) rfl (by kernel_rfl) (by kernel_rfl) (by kernel_rfl) (fun _ _ _ h => h) (Or.inl ⟨by rfl, ?_⟩) (by assumption) ?_; (focus (intro w hSw; (try dsimp only at hSw); go_simp)); try simp only [Act.put, List.setIfInBounds_toArray, List.set_cons_zero, List.set_cons_succ])
              (refine wpAnyH_take (i := 12) (oi := ⟨some 113, _, _, _, _, _⟩) (v := .int .i64 p1) rfl (by kernel_rfl) (by kernel_rfl) (by kernel_rfl) (fun _ _ _ h => h) (Or.inl ⟨by rfl, ?_⟩) (by assumption) ?_; (focus (intro w hSw; (try dsimp only at hSw); go_simp)); try simp only [Act.put, List.setIfInBounds_toArray, List.set_cons_zero, List.set_cons_succ])
              (refine wpAnyH_take (i := 13) (oi := ⟨some 114, _, _, _, _, _⟩) (v := .bool false) rfl (by kernel_rfl) (by kernel_rfl) (by kernel_rfl) (fun _ _ _ h => h) (Or.inl ⟨by rfl, ?_⟩) (by assumption) ?_; (focus (intro w hSw; (try dsimp only at hSw); go_simp)); try simp only [Act.put, List.setIfInBounds_toArray, List.set_cons_zero, List.set_cons_succ])
              refine wpAnyH_ready (rs := [8]) (by kernel_rfl) (by simp) ?_
              refine AllReadyH.cons (o := ⟨some 109, _, _, _, _, _⟩) rfl (fun K hK => ?_) AllReadyH.nil
              go_simp
              refine (iClean_calls f _ (by omega) ((hm.below B10).below hHeld.1)).mono ?_
              rw [HCF.out]
              rintro e w'' ⟨rfl, hb''⟩
              refine hK.out _ _ (held_step2 (by assumption) (by simpa using hb'')) (fun hHeld => ?_)
              clear hK K
              try simp only [Act.put, List.setIfInBounds_toArray, List.set_cons_zero, List.set_cons_succ]
              (refine wpAnyH_take (i := 9) (oi := ⟨some 110, _, _, _, _, _⟩) (v := .int .i64 q1) rfl (by kernel_rfl) (by kernel_rfl) (by kernel_rfl) (fun _ _ _ h => h) (Or.inl ⟨by rfl, ?_⟩) (by assumption) ?_; (focus (intro w hSw; (try dsimp only at hSw); go_simp)); try simp only [Act.put, List.setIfInBounds_toArray, List.set_cons_zero, List.set_cons_succ])
              (refine wpAnyH_take (i := 10) (oi := ⟨some 111, _, _, _, _, _⟩) (v := .bool false) rfl (by kernel_rfl) (by kernel_rfl) (by kernel_rfl) (fun _ _ _ h => h) (Or.inl ⟨by rfl, ?_⟩) (by assumption) ?_; (focus (intro w hSw; (try dsimp only at hSw); go_simp)); try simp only [Act.put, List.setIfInBounds_toArray, List.set_cons_zero, List.set_cons_succ])
              (refine wpAnyH_take (i := 14) (oi := ⟨some 115, _, _, _, _, _⟩) (v := .bool true) rfl (by kernel_rfl) (by kernel_rfl) (by kernel_rfl) (fun _ _ _ h => h) (Or.inl ⟨by rfl, ?_⟩) (by assumption) ?_; (focus (intro w hSw; (try dsimp only at hSw); go_simp)); try simp only [Act.put, List.setIfInBounds_toArray, List.set_cons_zero, List.set_cons_succ])
              (refine wpAnyH_take (i := 15) (oi := ⟨some 116, _, _, _, _, _⟩) (v := .bool true) rfl (by kernel_rfl) (by kernel_rfl) (by kernel_rfl) (fun _ _ _ h => h) (Or.inl ⟨by rfl, ?_⟩) (by assumption) ?_; (focus (intro w hSw; (try dsimp only at hSw); go_simp)); try simp only [Act.put, List.setIfInBounds_toArray, List.set_cons_zero, List.set_cons_succ])
              (refine wpAnyH_take (i := 16) (oi := ⟨some 2, _, _, _, _, _⟩) (v := .bool true) rfl (by kernel_rfl) (by kernel_rfl) (by kernel_rfl) (fun _ _ _ h => h) (Or.inl ⟨by rfl, ?_⟩) (by assumption) ?_; (focus (intro w hSw; (try dsimp only at hSw); go_simp)); try simp only [Act.put, List.setIfInBounds_toArray, List.set_cons_zero, List.set_cons_succ])
              refine wpAnyH_done (by kernel_rfl) ?_ _
              go_wp2_with fail
              go_ret
              exact ⟨rfl, below_then B10 B10.size hHeld.1⟩
            · have e1 : (q1 != 0) = true := by simpa using hq
              have e2 : (p1 == 4) = true := by
                have : p1 = 4 := hwf.2 hq
                simpa using this
              clear hwf hq
              refine wp_region_held_drew (S := fun w' => Below W.heap.size W w' ∧ w'.cell? ⟨w10.heap.size, 0, none⟩ = some (.int .i64 p1) ∧ w'.cell? ⟨w10.heap.size, 1, none⟩ = some (.string p2)) (by kernel_rfl) ⟨Below.drew (Below.refl _ _), k0, k1⟩ (fun hHeld => ?_)
              (refine wpAnyH_take (i := 0) (oi := ⟨some 101, _, _, _, _, _⟩) (v := .agg #[.int .i64 p1, .string p2]) rfl (by kernel_rfl) (by kernel_rfl) (by kernel_rfl) (fun _ _ _ h => h) (Or.inl ⟨by rfl, ?_⟩) (by assumption) ?_; (focus (intro w hSw; (try dsimp only at hSw); go_simp)); try simp only [Act.put, List.setIfInBounds_toArray, List.set_cons_zero, List.set_cons_succ])
              (refine wpAnyH_take (i := 1) (oi := ⟨some 102, _, _, _, _, _⟩) (v := .string f) rfl (by kernel_rfl) (by kernel_rfl) (by kernel_rfl) (fun _ _ _ h => h) (Or.inl ⟨by rfl, ?_⟩) (by assumption) ?_; (focus (intro w hSw; (try dsimp only at hSw); go_simp)); try simp only [Act.put, List.setIfInBounds_toArray, List.set_cons_zero, List.set_cons_succ])
              (refine wpAnyH_take (i := 2) (oi := ⟨some 103, _, _, _, _, _⟩) (v := .string s3) rfl (by kernel_rfl) (by kernel_rfl) (by kernel_rfl) (fun _ _ _ h => h) (Or.inl ⟨by rfl, ?_⟩) (by assumption) ?_; (focus (intro w hSw; (try dsimp only at hSw); go_simp)); try simp only [Act.put, List.setIfInBounds_toArray, List.set_cons_zero, List.set_cons_succ])
              (refine wpAnyH_take (i := 3) (oi := ⟨some 104, _, _, _, _, _⟩) (v := .string (⟨#[46, 47]⟩ ++ s3)) rfl (by kernel_rfl) (by kernel_rfl) (by kernel_rfl) (fun _ _ _ h => h) (Or.inl ⟨by rfl, ?_⟩) (by assumption) ?_; (focus (intro w hSw; (try dsimp only at hSw); go_simp)); try simp only [Act.put, List.setIfInBounds_toArray, List.set_cons_zero, List.set_cons_succ])
              refine wpAnyH_ready (rs := [4]) (by kernel_rfl) (by simp) ?_
              refine AllReadyH.cons (o := ⟨some 105, _, _, _, _, _⟩) rfl (fun K hK => ?_) AllReadyH.nil
              go_simp
              refine (HCS.out _).mono ?_
              rintro e w' ⟨rfl, hb'⟩
              refine hK.out _ _ (held_step2 (by assumption) (by simpa using hb')) (fun hHeld => ?_)
              clear hK K
              try simp only [Act.put, List.setIfInBounds_toArray, List.set_cons_zero, List.set_cons_succ]
              (refine wpAnyH_take (i := 5) (oi := ⟨some 106, _, _, _, _, _⟩) (v := .bool true) rfl (by kernel_rfl) (by kernel_rfl) (by kernel_rfl) (fun _ _ _ h => h) (Or.inl ⟨by rfl, ?_⟩) (by assumption) ?_; (focus (intro w hSw; (try dsimp only at hSw); go_simp)); try simp only [Act.put, List.setIfInBounds_toArray, List.set_cons_zero, List.set_cons_succ])
              (refine wpAnyH_take (i := 6) (oi := ⟨some 107, _, _, _, _, _⟩) (v := .bool true) rfl (by kernel_rfl) (by kernel_rfl) (by kernel_rfl) (fun _ _ _ h => h) (Or.inl ⟨by rfl, ?_⟩) (by assumption) ?_; (focus (intro w hSw; (try dsimp only at hSw); go_simp)); try simp only [Act.put, List.setIfInBounds_toArray, List.set_cons_zero, List.set_cons_succ])
              (refine wpAnyH_take (i := 7) (oi := ⟨some 108, _, _, _, _, _⟩) (v := .string f) rfl (by kernel_rfl) (by kernel_rfl) (by kernel_rfl) (fun _ _ _ h => h) (Or.inl ⟨by rfl, ?_⟩) (by assumption) ?_; (focus (intro w hSw; (try dsimp only at hSw); go_simp)); try simp only [Act.put, List.setIfInBounds_toArray, List.set_cons_zero, List.set_cons_succ])
              (refine wpAnyH_take (i := 11) (oi := ⟨some 112, _, _, _, _, _⟩) (v := .pointer (some ⟨w10.heap.size, 0, none⟩)) rfl (by kernel_rfl) (by kernel_rfl) (by kernel_rfl) (fun _ _ _ h => h) (Or.inl ⟨by rfl, ?_⟩) (by assumption) ?_; (focus (intro w hSw; (try dsimp only at hSw); go_simp)); try simp only [Act.put, List.setIfInBounds_toArray, List.set_cons_zero, List.set_cons_succ])
              (refine wpAnyH_take (i := 12) (oi := ⟨some 113, _, _, _, _, _⟩) (v := .int .i64 p1) rfl (by kernel_rfl) (by kernel_rfl) (by kernel_rfl) (fun _ _ _ h => h) (Or.inl ⟨by rfl, ?_⟩) (by assumption) ?_; (focus (intro w hSw; (try dsimp only at hSw); go_simp)); try simp only [Act.put, List.setIfInBounds_toArray, List.set_cons_zero, List.set_cons_succ])
              (refine wpAnyH_take (i := 13) (oi := ⟨some 114, _, _, _, _, _⟩) (v := .bool true) rfl (by kernel_rfl) (by kernel_rfl) (by kernel_rfl) (fun _ _ _ h => h) (Or.inl ⟨by rfl, ?_⟩) (by assumption) ?_; (focus (intro w hSw; (try dsimp only at hSw); go_simp)); try simp only [Act.put, List.setIfInBounds_toArray, List.set_cons_zero, List.set_cons_succ])
              refine wpAnyH_ready (rs := [8]) (by kernel_rfl) (by simp) ?_
              refine AllReadyH.cons (o := ⟨some 109, _, _, _, _, _⟩) rfl (fun K hK => ?_) AllReadyH.nil
              go_simp
              refine (iClean_calls f _ (by omega) ((hm.below B10).below hHeld.1)).mono ?_
              rw [HCF.out]
              rintro e w'' ⟨rfl, hb''⟩
              refine hK.out _ _ (held_step2 (by assumption) (by simpa using hb'')) (fun hHeld => ?_)
              clear hK K
              try simp only [Act.put, List.setIfInBounds_toArray, List.set_cons_zero, List.set_cons_succ]
              (refine wpAnyH_take (i := 9) (oi := ⟨some 110, _, _, _, _, _⟩) (v := .int .i64 q1) rfl (by kernel_rfl) (by kernel_rfl) (by kernel_rfl) (fun _ _ _ h => h) (Or.inl ⟨by rfl, ?_⟩) (by assumption) ?_; (focus (intro w hSw; (try dsimp only at hSw); go_simp)); try simp only [Act.put, List.setIfInBounds_toArray, List.set_cons_zero, List.set_cons_succ])
              (refine wpAnyH_take (i := 10) (oi := ⟨some 111, _, _, _, _, _⟩) (v := .bool true) rfl (by kernel_rfl) (by kernel_rfl) (by kernel_rfl) (fun _ _ _ h => h) (Or.inl ⟨by rfl, ?_⟩) (by assumption) ?_; (focus (intro w hSw; (try dsimp only at hSw); go_simp)); try simp only [Act.put, List.setIfInBounds_toArray, List.set_cons_zero, List.set_cons_succ])
              (refine wpAnyH_take (i := 14) (oi := ⟨some 115, _, _, _, _, _⟩) (v := .bool true) rfl (by kernel_rfl) (by kernel_rfl) (by kernel_rfl) (fun _ _ _ h => h) (Or.inl ⟨by rfl, ?_⟩) (by assumption) ?_; (focus (intro w hSw; (try dsimp only at hSw); go_simp)); try simp only [Act.put, List.setIfInBounds_toArray, List.set_cons_zero, List.set_cons_succ])
              (refine wpAnyH_take (i := 15) (oi := ⟨some 116, _, _, _, _, _⟩) (v := .bool true) rfl (by kernel_rfl) (by kernel_rfl) (by kernel_rfl) (fun _ _ _ h => h) (Or.inl ⟨by rfl, ?_⟩) (by assumption) ?_; (focus (intro w hSw; (try dsimp only at hSw); go_simp)); try simp only [Act.put, List.setIfInBounds_toArray, List.set_cons_zero, List.set_cons_succ])
              (refine wpAnyH_take (i := 16) (oi := ⟨some 2, _, _, _, _, _⟩) (v := .bool true) rfl (by kernel_rfl) (by kernel_rfl) (by kernel_rfl) (fun _ _ _ h => h) (Or.inl ⟨by rfl, ?_⟩) (by assumption) ?_; (focus (intro w hSw; (try dsimp only at hSw); go_simp)); try simp only [Act.put, List.setIfInBounds_toArray, List.set_cons_zero, List.set_cons_succ])
              refine wpAnyH_done (by kernel_rfl) ?_ _
              go_wp2_with fail
              go_ret
              exact ⟨rfl, below_then B10 B10.size hHeld.1⟩
end Go.Proofs.YtkhlicmlnjccdaaDoor
