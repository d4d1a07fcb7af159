/-
  FnExactWorldOk: the walk.
-/
import Derived.Test.YtkhlicmlnjccdaaDoorSwok
import Derived.Test.YtkhlicmlnjccdaaDoorIwok
import Derived.Test.YtkhlicmlnjccdaaDoorEq2
import Derived.Deep.RegionHeld3
namespace Go.Proofs.YtkhlicmlnjccdaaDoor
open Go.RowKit Mem

set_option maxRecDepth 100000 in
set_option maxHeartbeats 2000000 in
theorem exactWorldOk_calls (vR vM vF : Value) (D : WorldD) (S : Nat → Prop) (w : World) (h : WIn w S vR vM vF D) (hz : WMax D) (hm : ML w) :
    Calls Tryd.prog 10 #[.agg #[vR, vM, vF]] w fun e w' => e = .returned (.bool true) ∧ Below w.heap.size w w' := by
  have hs := h
  obtain ⟨⟨A1, c1, rfl, _, _, _⟩, ⟨A2, c2, rfl, _, _, _⟩, ⟨A3, c3, rfl, _, _, _⟩⟩ := hs
  have hb0 : Below w.heap.size w (w.alloc (Obj.cells #[.slice A1 D.roots.length c1, .slice A2 D.mods.length c2, .slice A3 D.faults.length c3] 64)) := by (repeat (first | with_reducible exact Below.refl _ _ | with_reducible assumption | with_reducible refine Below.alloc ?_ (by first | exact Nat.le_refl _ | exact Below.size (by assumption) | exact Nat.le_trans (Below.size (by assumption)) (by simp; done) | (simp; done) | (simp; omega) | omega) _ | with_reducible refine below_drewN ?_ _ | with_reducible refine Below.drew ?_ | with_reducible refine Below.setCell ?_ (by first | exact Nat.le_refl _ | (simp; done) | (simp; omega) | omega) _))
  have hblk0 := heap_alloc_new w (Obj.cells #[.slice A1 D.roots.length c1, .slice A2 D.mods.length c2, .slice A3 D.faults.length c3] 64)
  have hsz0 : w.heap.size < (w.alloc (Obj.cells #[.slice A1 D.roots.length c1, .slice A2 D.mods.length c2, .slice A3 D.faults.length c3] 64)).heap.size := by simp
  have hcz := szWorld_calls D _ _ _ S 1048576 _ (h.below hb0) hz (Nat.le_refl _)
  have HB0 := hide hblk0
  clear hblk0
  by_cases hbig : 1048576 < worldTot D
  · rw [left_no hbig] at hcz
    have HCZ := hide hcz
    clear hcz
    go_enter Tryd.func10, Tryd.ntmps10
    go_wp2_with fail
    refine (unhide HCZ).mono ?_
    rintro e w1 ⟨rfl, hb1⟩
    have HB := below_then hb0 hb0.size hb1
    clear hb1
    go_wp2_with fail
    go_ret
    exact ⟨rfl, HB⟩
  rw [left_ok (Nat.le_of_not_lt hbig)] at hcz
  obtain ⟨HWS, hr1, hm1, hf1, hl1⟩ := worldTot_sz (Nat.le_of_not_lt hbig)
  have HCZ := hide hcz
  have HWZ := hide HWS
  have HLL := hide hl1
  generalize 1048576 - worldTot D = lf at HCZ
  have hq : ∃ r1 r2 r3, Wd.worldOk D = (r1, r2, r3) := ⟨_, _, _, rfl⟩
  obtain ⟨r1, r2, r3, hq⟩ := hq
  have HQ := hide hq
  clear hcz hbig HWS hl1 hq
  go_enter Tryd.func10, Tryd.ntmps10
  go_wp2_with fail
  refine (unhide HCZ).mono ?_
  rintro e w1 ⟨rfl, hb1⟩
  have k0 : w1.cell? ⟨w.heap.size, 0, none⟩ = some (.slice A1 D.roots.length c1) := blk_cell ((hb1.block _ hsz0).trans HB0.out) 0
  have k1 : w1.cell? ⟨w.heap.size, 1, none⟩ = some (.slice A2 D.mods.length c2) := blk_cell ((hb1.block _ hsz0).trans HB0.out) 1
  have k2 : w1.cell? ⟨w.heap.size, 2, none⟩ = some (.slice A3 D.faults.length c3) := blk_cell ((hb1.block _ hsz0).trans HB0.out) 2
  have HX := hide ((hb1.block _ hsz0).trans HB0.out)
  have hx1 : w.heap.size < w1.heap.size := Nat.lt_of_lt_of_le hsz0 hb1.size
  have B1 := below_then hb0 hb0.size hb1
  clear hb1 HB0 HCZ hb0 hsz0
  go_wp2_with fail
  refine (toWorld_calls D _ _ _ S w1 (h.below B1) hr1 hm1 hf1 HLL.out).mono ?_
  rintro e w2 ⟨uR, uM, uF, rfl, O2, hb2⟩
  have B2 := below_then B1 B1.size hb2
  clear k0 k1 k2
  go_wp2_with fail
  refine (sWorldOk_calls D uR uM uF _ w2 O2.wIn HWZ.out).mono ?_
  rw [HQ.out]
  rintro e w3 ⟨rfl, hb3⟩
  have HX3 := hide ((hb3.block _ (Nat.lt_of_lt_of_le hx1 hb2.size)).trans ((hb2.block _ hx1).trans HX.out))
  have hx3 : w.heap.size < w3.heap.size := Nat.lt_of_lt_of_le (Nat.lt_of_lt_of_le hx1 hb2.size) hb3.size
  have B3 := below_then B2 B2.size hb3
  clear hb2 hb3 O2 B1 B2 HX hx1
  have hal := alloc_old w3 (Obj.cells #[.int .i64 r1, .int .i64 r2, .int .i64 r3] 67) hx3
  have k0 : (w3.alloc (Obj.cells #[.int .i64 r1, .int .i64 r2, .int .i64 r3] 67)).cell? ⟨w.heap.size, 0, none⟩ = some (.slice A1 D.roots.length c1) := blk_cell (hal.trans HX3.out) 0
  have k1 : (w3.alloc (Obj.cells #[.int .i64 r1, .int .i64 r2, .int .i64 r3] 67)).cell? ⟨w.heap.size, 1, none⟩ = some (.slice A2 D.mods.length c2) := blk_cell (hal.trans HX3.out) 1
  have k2 : (w3.alloc (Obj.cells #[.int .i64 r1, .int .i64 r2, .int .i64 r3] 67)).cell? ⟨w.heap.size, 2, none⟩ = some (.slice A3 D.faults.length c3) := blk_cell (hal.trans HX3.out) 2
  have HXA := hide (hal.trans HX3.out)
  have HN4 := hide (heap_alloc_new w3 (Obj.cells #[.int .i64 r1, .int .i64 r2, .int .i64 r3] 67))
  have B3a : Below w.heap.size w (w3.alloc (Obj.cells #[.int .i64 r1, .int .i64 r2, .int .i64 r3] 67)) := by (repeat (first | with_reducible exact Below.refl _ _ | with_reducible assumption | with_reducible refine Below.alloc ?_ (by first | exact Nat.le_refl _ | exact Below.size (by assumption) | exact Nat.le_trans (Below.size (by assumption)) (by simp; done) | (simp; done) | (simp; omega) | omega) _ | with_reducible refine below_drewN ?_ _ | with_reducible refine Below.drew ?_ | with_reducible refine Below.setCell ?_ (by first | exact Nat.le_refl _ | (simp; done) | (simp; omega) | omega) _))
  have hzA : (w3.alloc (Obj.cells #[.int .i64 r1, .int .i64 r2, .int .i64 r3] 67)).heap.size = w3.heap.size + 1 := by simp
  clear hal HX3
  go_wp2_with fail
  generalize w3.alloc (Obj.cells #[.int .i64 r1, .int .i64 r2, .int .i64 r3] 67) = W at HXA HN4 B3a hzA k0 k1 k2 ⊢
  refine (toWorld_calls D _ _ _ S W (h.below B3a) hr1 hm1 hf1 HLL.out).mono ?_
  rintro e w4 ⟨xR, xM, xF, rfl, O4, hb4⟩
  have B4 := below_then B3a B3a.size hb4
  have hz4 := hb4.size
  have HX4 := hide ((hb4.block _ (by omega)).trans HXA.out)
  have HN5 := hide ((hb4.block _ (by omega)).trans HN4.out)
  obtain ⟨D1, d1, hx1, _, _, _⟩ := O4.R.slV
  obtain ⟨D2, d2, hx2, _, _, _⟩ := O4.M.slV
  obtain ⟨D3, d3, hx3', _, _, _⟩ := O4.F.slV
  subst hx1 hx2 hx3'
  clear hb4 HXA HN4 k0 k1 k2 B3 B3a
  go_wp2_with fail
  generalize hW5 : w4.alloc (Obj.cells #[.slice D1 D.roots.length d1, .slice D2 D.mods.length d2, .slice D3 D.faults.length d3] 46) = W5
  have hb5 : Below w4.heap.size w4 W5 := by rw [← hW5]; (repeat (first | with_reducible exact Below.refl _ _ | with_reducible assumption | with_reducible refine Below.alloc ?_ (by first | exact Nat.le_refl _ | exact Below.size (by assumption) | exact Nat.le_trans (Below.size (by assumption)) (by simp; done) | (simp; done) | (simp; omega) | omega) _ | with_reducible refine below_drewN ?_ _ | with_reducible refine Below.drew ?_ | with_reducible refine Below.setCell ?_ (by first | exact Nat.le_refl _ | (simp; done) | (simp; omega) | omega) _))
  have hn5 : W5.heap[w4.heap.size]? = some (Obj.cells #[.slice D1 D.roots.length d1, .slice D2 D.mods.length d2, .slice D3 D.faults.length d3] 46 (0, 0)) := by rw [← hW5]; exact heap_alloc_new w4 _
  have hz5 : W5.heap.size = w4.heap.size + 1 := by rw [← hW5]; simp
  have B5 := below_then B4 B4.size hb5
  have O5 := O4.below hb5
  have HX5 := hide ((hb5.block _ (by omega)).trans HX4.out)
  have HN6 := hide ((hb5.block _ (by omega)).trans HN5.out)
  have HN7 := hide hn5
  clear hW5 hb5 hn5 HX4 HN5 O4 B4
  refine (iWorldOk_calls D _ _ _ _ W5 O5.wIn HWZ.out (hm.below B5)).mono ?_
  rw [HQ.out]
  rintro e w6 ⟨rfl, hb6⟩
  have B6 := below_then B5 B5.size hb6
  have hz6 := hb6.size
  have O6 := O5.below hb6
  have b6 := (hb6.block _ (by omega)).trans HN6.out
  have HX6 := hide ((hb6.block _ (by omega)).trans HX5.out)
  have HN8 := hide ((hb6.block _ (by omega)).trans HN7.out)
  have j0 : (w6.alloc (Obj.cells #[.int .i64 r1, .int .i64 r2, .int .i64 r3] 67)).cell? ⟨w3.heap.size, 0, none⟩ = some (.int .i64 r1) := blk_cell ((alloc_old w6 _ (by omega)).trans b6) 0
  have j1 : (w6.alloc (Obj.cells #[.int .i64 r1, .int .i64 r2, .int .i64 r3] 67)).cell? ⟨w3.heap.size, 1, none⟩ = some (.int .i64 r2) := blk_cell ((alloc_old w6 _ (by omega)).trans b6) 1
  have j2 : (w6.alloc (Obj.cells #[.int .i64 r1, .int .i64 r2, .int .i64 r3] 67)).cell? ⟨w3.heap.size, 2, none⟩ = some (.int .i64 r3) := blk_cell ((alloc_old w6 _ (by omega)).trans b6) 2
  clear hb6 b6 HN6 HX5 HN7 O5 B5
  go_wp2_with fail
  have B7 : Below w.heap.size w (w6.alloc (Obj.cells #[.int .i64 r1, .int .i64 r2, .int .i64 r3] 67)) := by (repeat (first | with_reducible exact Below.refl _ _ | with_reducible assumption | with_reducible refine Below.alloc ?_ (by first | exact Nat.le_refl _ | exact Below.size (by assumption) | exact Nat.le_trans (Below.size (by assumption)) (by simp; done) | (simp; done) | (simp; omega) | omega) _ | with_reducible refine below_drewN ?_ _ | with_reducible refine Below.drew ?_ | with_reducible refine Below.setCell ?_ (by first | exact Nat.le_refl _ | (simp; done) | (simp; omega) | omega) _))
  have O7 := O6.below (Below.alloc (Below.refl _ w6) (Nat.le_refl _) (Obj.cells #[.int .i64 r1, .int .i64 r2, .int .i64 r3] 67))
  have hx7 := (alloc_old w6 (Obj.cells #[.int .i64 r1, .int .i64 r2, .int .i64 r3] 67) (show w.heap.size < _ by omega)).trans HX6.out
  have hn7 := (alloc_old w6 (Obj.cells #[.int .i64 r1, .int .i64 r2, .int .i64 r3] 67) (show w4.heap.size < _ by omega)).trans HN8.out
  have hz7 : w6.heap.size < (w6.alloc (Obj.cells #[.int .i64 r1, .int .i64 r2, .int .i64 r3] 67)).heap.size := by simp
  generalize (w6.alloc (Obj.cells #[.int .i64 r1, .int .i64 r2, .int .i64 r3] 67)) = W7 at B7 O7 hx7 hn7 hz7 j0 j1 j2 ⊢
  have HX7 := hide hx7
  have HN9 := hide hn7
  clear hx7 hn7 O6 B6 HX6 HN8
  refine (eqWrong_same r1 r2 r3 W7).mono ?_
  rintro e w8 ⟨rfl, hb8⟩
  have B8 := below_then B7 B7.size hb8
  have O8 := O7.below hb8
  have bx := (hb8.block _ (by omega)).trans HX7.out
  have bn := (hb8.block _ (by omega)).trans HN9.out
  have k0 : w8.cell? ⟨w.heap.size, 0, none⟩ = some (.slice A1 D.roots.length c1) := blk_cell bx 0
  have k1 : w8.cell? ⟨w.heap.size, 1, none⟩ = some (.slice A2 D.mods.length c2) := blk_cell bx 1
  have k2 : w8.cell? ⟨w.heap.size, 2, none⟩ = some (.slice A3 D.faults.length c3) := blk_cell bx 2
  have l0 : w8.cell? ⟨w4.heap.size, 0, none⟩ = some (.slice D1 D.roots.length d1) := blk_cell bn 0
  have l1 : w8.cell? ⟨w4.heap.size, 1, none⟩ = some (.slice D2 D.mods.length d2) := blk_cell bn 1
  have l2 : w8.cell? ⟨w4.heap.size, 2, none⟩ = some (.slice D3 D.faults.length d3) := blk_cell bn 2
  clear hb8 HX7 HN9 bx bn O7 B7 j0 j1 j2
  go_wp2_with fail
  refine wp_region_held_drew (S := fun w' => Below w8.heap.size w8 w' ∧ (w'.cell? ⟨w.heap.size, 0, none⟩ = some (.slice A1 D.roots.length c1) ∧ w'.cell? ⟨w.heap.size, 1, none⟩ = some (.slice A2 D.mods.length c2) ∧ w'.cell? ⟨w.heap.size, 2, none⟩ = some (.slice A3 D.faults.length c3)) ∧ w'.cell? ⟨w4.heap.size, 0, none⟩ = some (.slice D1 D.roots.length d1) ∧ w'.cell? ⟨w4.heap.size, 1, none⟩ = some (.slice D2 D.mods.length d2) ∧ w'.cell? ⟨w4.heap.size, 2, none⟩ = some (.slice D3 D.faults.length d3)) (by kernel_rfl) ⟨Below.drew (Below.refl _ _), ⟨k0, k1, k2⟩, l0, l1, l2⟩ (fun hHeld => ?_)
  (refine wpAnyH_take (i := 0) (oi := ⟨some 23, _, _, _, _, _⟩) (v := .agg #[.slice D1 D.roots.length d1, .slice D2 D.mods.length d2, .slice D3 D.faults.length d3]) rfl (by kernel_rfl) (by kernel_rfl) (by kernel_rfl) (fun _ _ _ h => h) (Or.inl ⟨by rfl, ?_⟩) (by assumption) ?_; (focus (intro w hSw; (try dsimp only at hSw); go_simp; done)); try simp only [Act.put, List.setIfInBounds_toArray, List.set_cons_zero, List.set_cons_succ])
  (refine wpAnyH_take (i := 1) (oi := ⟨some 24, _, _, _, _, _⟩) (v := .agg #[.slice A1 D.roots.length c1, .slice A2 D.mods.length c2, .slice A3 D.faults.length c3]) rfl (by kernel_rfl) (by kernel_rfl) (by kernel_rfl) (fun _ _ _ h => h) (Or.inl ⟨by rfl, ?_⟩) (by assumption) ?_; (focus (intro w hSw; (try dsimp only at hSw); go_simp; done)); try simp only [Act.put, List.setIfInBounds_toArray, List.set_cons_zero, List.set_cons_succ])
  refine wpAnyH_ready (rs := [2]) (by kernel_rfl) (by simp) ?_
  refine AllReadyH.cons (o := ⟨some 25, _, _, _, _, _⟩) rfl (fun K hK => ?_) AllReadyH.nil
  go_simp
  have B8d := Below.drew B8
  refine (toWorld_calls D _ _ _ S w8.drew (h.below B8d) hr1 hm1 hf1 HLL.out).mono ?_
  rintro e w9 ⟨yR, yM, yF, rfl, O9, hb9⟩
  have B9 := below_then B8d B8d.size hb9
  have O8' := (show OwnWorld w8.drew W.heap.size _ _ _ D from ⟨O8.R, O8.M, O8.F⟩).below hb9
  have keep : ∀ {W1 W2 : World} {a : Addr} {v : Value}, W1.cell? a = some v → Below W1.heap.size W1 W2 → W2.cell? a = some v := fun h hb => (hb.cell (World.block_lt_of_cell? _ _ h)).trans h
  refine hK.out _ _ (by
    obtain ⟨u0, ⟨u1, u2, u3⟩, u4, u5, u6⟩ := hHeld
    exact ⟨below_then u0 u0.size hb9, ⟨keep u1 hb9, keep u2 hb9, keep u3 hb9⟩, keep u4 hb9, keep u5 hb9, keep u6 hb9⟩) (fun hHeld => ?_)
  clear hK K
  try simp only [Act.put, List.setIfInBounds_toArray, List.set_cons_zero, List.set_cons_succ]
  refine wpAnyH_ready (rs := [3]) (by kernel_rfl) (by simp) ?_
  refine AllReadyH.cons (o := ⟨some 26, _, _, _, _, _⟩) rfl (fun K hK => ?_) AllReadyH.nil
  go_simp
  refine (eqWorld_same D _ _ _ yR yM yF w9 _ _ O8'.wIn O9.wIn).mono ?_
  rintro e w10 ⟨rfl, hb10⟩
  have B10 := below_then B9 B9.size hb10
  refine hK.out _ _ (by
    obtain ⟨u0, ⟨u1, u2, u3⟩, u4, u5, u6⟩ := hHeld
    exact ⟨below_then u0 u0.size hb10, ⟨keep u1 hb10, keep u2 hb10, keep u3 hb10⟩, keep u4 hb10, keep u5 hb10, keep u6 hb10⟩) (fun hHeld => ?_)
  clear hK K
  try simp only [Act.put, List.setIfInBounds_toArray, List.set_cons_zero, List.set_cons_succ]
  (refine wpAnyH_take (i := 4) (oi := ⟨some 27, _, _, _, _, _⟩) (v := .bool false) rfl (by kernel_rfl) (by kernel_rfl) (by kernel_rfl) (fun _ _ _ h => h) (Or.inl ⟨by rfl, ?_⟩) (by assumption) ?_; (focus (intro w hSw; (try dsimp only at hSw); go_simp; done)); try simp only [Act.put, List.setIfInBounds_toArray, List.set_cons_zero, List.set_cons_succ])
  refine wpAnyH_done (by kernel_rfl) ?_ _
  go_wp2_with fail
  go_ret
  exact ⟨rfl, B10⟩
end Go.Proofs.YtkhlicmlnjccdaaDoor
