/-
  FnExactShortestRing: the walk.
-/
import Derived.Test.YtkhlicmlnjccdaaDoorKexactRing24
import Derived.Test.YtkhlicmlnjccdaaDoorKexactRing28
import Derived.Test.YtkhlicmlnjccdaaDoorKexactRing13
import Derived.Test.YtkhlicmlnjccdaaDoorKexactRing23
import Derived.Test.YtkhlicmlnjccdaaDoorKexactRing1
import Derived.Test.YtkhlicmlnjccdaaDoorKexactRing4
import Derived.Deep.RegionHeld3
import Derived.Deep.Cut
namespace Go.Proofs.YtkhlicmlnjccdaaDoor
open Go.RowKit Mem

theorem eqStrB (A B : Option Addr) (c d n : Nat) (xs : List Str) (w : World) (S T : Nat → Prop) (h1 : Sl kStr w S A xs) (h2 : Sl kStr w T B xs) (hn : xs.length = n) (hl : n ≤ maxLen) :
    Calls Tryd.prog 26 #[.slice A n c, .slice B n d] w fun e w' => e = .returned (.bool true) ∧ Below w.heap.size w w' :=
  (eqStringS_same A B c d n xs w S T h1 h2 hn hl).mono fun e w' ⟨he, m, hw⟩ => ⟨he, by rw [hw]; exact below_drewN (Below.refl _ _) _⟩
theorem markStrB (A : Option Addr) (c n base k : Nat) (xs : List Str) (w : World) (h : Own fStr w base 9 (.slice A n c) xs) (hn : xs.length = n) (hk : k + 1 * n ≤ 1099511627776) :
    Calls Tryd.prog 27 #[.slice A n c, .int .i64 k] w fun e w' => (∃ k' : Nat, k' = k + 1 * n ∧ e = .returned (.int .i64 k')) ∧ Own fStr w' base 9 (.slice A n c) (marks k n) ∧ w.grownBy w' (Value.slice A n c).ownBlock :=
  (markStringS_calls A c n base k xs w h hn (by omega)).mono fun e w' ⟨he, h2, h3⟩ => ⟨⟨k + n, by omega, he⟩, h2, h3⟩
theorem heldStrB (A : Option Addr) (c n k : Nat) (S : Nat → Prop) (w : World) (h : Sl kStr w S A (marks k n)) (hk : k + 1 * n ≤ 1099511627776) :
    Calls Tryd.prog 28 #[.slice A n c, .int .i64 k] w fun e w' => (∃ k' : Nat, k' = k + 1 * n ∧ e = .returned (.int .i64 k')) ∧ Below w.heap.size w w' :=
  (heldStringS_calls A c n k S w h (by omega)).mono fun e w' ⟨he, h2⟩ => ⟨⟨k + n, by omega, he⟩, h2⟩

set_option maxRecDepth 100000 in
set_option maxHeartbeats 4000000 in
theorem exactRing_calls (vR vM vF : Value) (D : WorldD) (S : Nat → Prop) (w : World) (h : WIn w S vR vM vF D) (hz : WMax D) (hm : ML w) :
    Calls Tryd.prog 14 #[.agg #[vR, vM, vF]] w fun e w' => e = .returned (.bool true) ∧ Below w.heap.size w w' := by
  have hs := h
  obtain ⟨⟨A1, c1, rfl, _, _, _⟩, ⟨A2, c2, rfl, _, _, _⟩, ⟨A3, c3, rfl, _, _, _⟩⟩ := hs
  have hb0 : Below w.heap.size w (w.alloc (Obj.cells #[.slice A1 D.roots.length c1, .slice A2 D.mods.length c2, .slice A3 D.faults.length c3] 64)) := by (repeat (first | with_reducible exact Below.refl _ _ | with_reducible assumption | with_reducible refine Below.alloc ?_ (by first | exact Nat.le_refl _ | exact Below.size (by assumption) | exact Nat.le_trans (Below.size (by assumption)) (by simp; done) | (simp; done) | (simp; omega) | omega) _ | with_reducible refine below_drewN ?_ _ | with_reducible refine Below.drew ?_ | with_reducible refine Below.setCell ?_ (by first | exact Nat.le_refl _ | (simp; done) | (simp; omega) | omega) _))
  have hblk0 := heap_alloc_new w (Obj.cells #[.slice A1 D.roots.length c1, .slice A2 D.mods.length c2, .slice A3 D.faults.length c3] 64)
  have hsz0 : w.heap.size < (w.alloc (Obj.cells #[.slice A1 D.roots.length c1, .slice A2 D.mods.length c2, .slice A3 D.faults.length c3] 64)).heap.size := by simp
  have hcz := szWorld_calls D _ _ _ S 1048576 _ (h.below hb0) hz (Nat.le_refl _)
  have HB0 := hide hblk0
  clear hblk0
  by_cases hbig : 1048576 < worldTot D
  · rw [left_no hbig] at hcz
    have HCZ := hide hcz
    clear hcz
    go_enter Tryd.func14, Tryd.ntmps14
    go_wp2_with fail
    refine (unhide HCZ).mono ?_
    rintro e w1 ⟨rfl, hb1⟩
    have HB := below_then hb0 hb0.size hb1
    clear hb1
    go_wp2_with fail
    go_ret
    exact ⟨rfl, HB⟩
  have HTOT := hide (Nat.le_of_not_lt hbig)
  rw [left_ok (Nat.le_of_not_lt hbig)] at hcz
  obtain ⟨HWS, hr1, hm1, hf1, hl1⟩ := worldTot_sz (Nat.le_of_not_lt hbig)
  have HCZ := hide hcz
  have HWZ := hide HWS
  have HLL := hide hl1
  generalize 1048576 - worldTot D = lf at HCZ
  have HSL := hide (fun (W : World) (vR vM vF : Value) (S : Nat → Prop) (hi : WIn W S vR vM vF D) => sShortestRing_calls D vR vM vF S W hi HWZ.out hm1)
  have HIL := hide (fun (W : World) (vR vM vF : Value) (S : Nat → Prop) (hi : WIn W S vR vM vF D) (hml : ML W) => iShortestRing_calls D vR vM vF S W hi HWZ.out hml)
  have hEl : (Gr.shortest D).length ≤ 3600 := Gr.shortest_len D
  generalize Gr.shortest D = E at HSL HIL hEl
  have hElm : E.length ≤ maxLen := by unfold maxLen; omega
  clear hcz hbig HWS hl1
  go_enter Tryd.func14, Tryd.ntmps14
  go_wp2_with fail
  refine (unhide HCZ).mono ?_
  rintro e w1 ⟨rfl, hb1⟩
  have k0 : w1.cell? ⟨w.heap.size, 0, none⟩ = some (.slice A1 D.roots.length c1) := blk_cell ((hb1.block _ hsz0).trans HB0.out) 0
  have k1 : w1.cell? ⟨w.heap.size, 1, none⟩ = some (.slice A2 D.mods.length c2) := blk_cell ((hb1.block _ hsz0).trans HB0.out) 1
  have k2 : w1.cell? ⟨w.heap.size, 2, none⟩ = some (.slice A3 D.faults.length c3) := blk_cell ((hb1.block _ hsz0).trans HB0.out) 2
  have HX := hide ((hb1.block _ hsz0).trans HB0.out)
  have hx1 : w.heap.size < w1.heap.size := Nat.lt_of_lt_of_le hsz0 hb1.size
  have B1 := below_then hb0 hb0.size hb1
  clear hb1 HB0 HCZ hb0 hsz0
  go_wp2_with fail
  refine (toWorld_calls D _ _ _ S w1 (h.below B1) hr1 hm1 hf1 HLL.out).mono ?_
  rintro e w2 ⟨uR, uM, uF, rfl, O2, hb2⟩
  have B2 := below_then B1 B1.size hb2
  clear k0 k1 k2
  go_wp2_with fail
  refine (HSL.out w2 uR uM uF _ O2.wIn).mono ?_
  rintro e w3 ⟨v3, rfl, hrep, hb3⟩
  obtain ⟨P1, p1, hp1, _, _, _⟩ := hrep.slV
  subst hp1
  have hx3 : w.heap.size < w3.heap.size := Nat.lt_of_lt_of_le (Nat.lt_of_lt_of_le hx1 hb2.size) hb3.size
  have HX3 := hide ((hb3.block _ (Nat.lt_of_lt_of_le hx1 hb2.size)).trans ((hb2.block _ hx1).trans HX.out))
  have B3 := below_then B2 B2.size hb3
  have HR0 : Sl kStr w3 (fun b => b < w3.heap.size) P1 E := (hrep.sl.old).more (fun b hb => hb.2)
  have k0 : w3.cell? ⟨w.heap.size, 0, none⟩ = some (.slice A1 D.roots.length c1) := blk_cell HX3.out 0
  have k1 : w3.cell? ⟨w.heap.size, 1, none⟩ = some (.slice A2 D.mods.length c2) := blk_cell HX3.out 1
  have k2 : w3.cell? ⟨w.heap.size, 2, none⟩ = some (.slice A3 D.faults.length c3) := blk_cell HX3.out 2
  clear hb2 hb3 O2 B1 B2 HX hx1 hrep
  go_wp2_with fail
  refine (toWorld_calls D _ _ _ S w3 (h.below B3) hr1 hm1 hf1 HLL.out).mono ?_
  rintro e w4 ⟨xR, xM, xF, rfl, O4, hb4⟩
  have B4 := below_then B3 B3.size hb4
  have z4 := hb4.size
  have HRW := O4.raw (Nat.le_refl _)
  have hX4 := (hb4.block _ (by omega)).trans HX3.out
  have HR4 := HR0.below hb4
  obtain ⟨D1, d1, hx1, _, _, _⟩ := O4.R.slV
  obtain ⟨D2, d2, hx2, _, _, _⟩ := O4.M.slV
  obtain ⟨D3, d3, hx3', _, _, _⟩ := O4.F.slV
  subst hx1 hx2 hx3'
  have hbB : Below w4.heap.size w4 (w4.alloc (Obj.cells #[.slice D1 D.roots.length d1, .slice D2 D.mods.length d2, .slice D3 D.faults.length d3] 46)) := by (repeat (first | with_reducible exact Below.refl _ _ | with_reducible assumption | with_reducible refine Below.alloc ?_ (by first | exact Nat.le_refl _ | exact Below.size (by assumption) | exact Nat.le_trans (Below.size (by assumption)) (by simp; done) | (simp; done) | (simp; omega) | omega) _ | with_reducible refine below_drewN ?_ _ | with_reducible refine Below.drew ?_ | with_reducible refine Below.setCell ?_ (by first | exact Nat.le_refl _ | (simp; done) | (simp; omega) | omega) _))
  have hN7 := heap_alloc_new w4 (Obj.cells #[.slice D1 D.roots.length d1, .slice D2 D.mods.length d2, .slice D3 D.faults.length d3] 46)
  have hzB : w4.heap.size < (w4.alloc (Obj.cells #[.slice D1 D.roots.length d1, .slice D2 D.mods.length d2, .slice D3 D.faults.length d3] 46)).heap.size := by simp
  clear hb4 HX3 HR0 k0 k1 k2 B3
  go_upto_region 7 with fail
  generalize w4.alloc (Obj.cells #[.slice D1 D.roots.length d1, .slice D2 D.mods.length d2, .slice D3 D.faults.length d3] 46) = W5 at hbB hN7 hzB ⊢
  have B5 := below_then B4 B4.size hbB
  have O5 := O4.below hbB
  have HRW5 := HRW.below hbB
  have HR5 := HR4.below hbB
  have hX5 := hide ((hbB.block _ (by omega)).trans hX4)
  have hN75 := hide hN7
  have l0 : W5.cell? ⟨w4.heap.size, 0, none⟩ = some (.slice D1 D.roots.length d1) := blk_cell hN7 0
  have l1 : W5.cell? ⟨w4.heap.size, 1, none⟩ = some (.slice D2 D.mods.length d2) := blk_cell hN7 1
  have l2 : W5.cell? ⟨w4.heap.size, 2, none⟩ = some (.slice D3 D.faults.length d3) := blk_cell hN7 2
  clear hbB hX4 hN7 HR4 HRW O4 B4
  go_wp2_with fail
  refine (HIL.out W5 _ _ _ _ O5.wIn (hm.below B5)).mono ?_
  rintro e W7 ⟨v7, rfl, HG7, hb6⟩
  obtain ⟨Q1, q1, hq1, _, _, _⟩ := HG7.slV
  subst hq1
  have z6 := hb6.size
  have B7 := below_then B5 B5.size hb6
  have O7 := O5.below hb6
  have HRW7 := HRW5.below hb6
  have HR7 := HR5.below hb6
  have hX7 := hide ((hb6.block _ (by omega)).trans hX5.out)
  have hN77 := hide ((hb6.block _ (by omega)).trans hN75.out)
  clear hb6 hX5 hN75 HR5 HRW5 O5 B5 l0 l1 l2
  go_wp2_with fail
  refine (eqStrB Q1 P1 q1 p1 E.length E W7 _ _ HG7.sl HR7 rfl hElm).mono ?_
  rintro e w8 ⟨rfl, hb8⟩
  have z8 := hb8.size
  have B8 := below_then B7 B7.size hb8
  have O8 := O7.below hb8
  have HRW8 := HRW7.below hb8
  have HR8 := HR7.below hb8
  have HG8 := HG7.below hb8
  have hX8 := hide ((hb8.block _ (by omega)).trans hX7.out)
  have hN78 := hide ((hb8.block _ (by omega)).trans hN77.out)
  have k0 : w8.cell? ⟨w.heap.size, 0, none⟩ = some (.slice A1 D.roots.length c1) := blk_cell hX8.out 0
  have k1 : w8.cell? ⟨w.heap.size, 1, none⟩ = some (.slice A2 D.mods.length c2) := blk_cell hX8.out 1
  have k2 : w8.cell? ⟨w.heap.size, 2, none⟩ = some (.slice A3 D.faults.length c3) := blk_cell hX8.out 2
  have l0 : w8.cell? ⟨w4.heap.size, 0, none⟩ = some (.slice D1 D.roots.length d1) := blk_cell hN78.out 0
  have l1 : w8.cell? ⟨w4.heap.size, 1, none⟩ = some (.slice D2 D.mods.length d2) := blk_cell hN78.out 1
  have l2 : w8.cell? ⟨w4.heap.size, 2, none⟩ = some (.slice D3 D.faults.length d3) := blk_cell hN78.out 2
  clear hb8 hX7 hN77 HR7 HRW7 O7 B7 HG7
  go_upto_region 10 with fail
  refine wp_region_held_drew (S := fun w' => Below w8.heap.size w8 w' ∧ (w'.cell? ⟨w.heap.size, 0, none⟩ = some (.slice A1 D.roots.length c1) ∧ w'.cell? ⟨w.heap.size, 1, none⟩ = some (.slice A2 D.mods.length c2) ∧ w'.cell? ⟨w.heap.size, 2, none⟩ = some (.slice A3 D.faults.length c3)) ∧ w'.cell? ⟨w4.heap.size, 0, none⟩ = some (.slice D1 D.roots.length d1) ∧ w'.cell? ⟨w4.heap.size, 1, none⟩ = some (.slice D2 D.mods.length d2) ∧ w'.cell? ⟨w4.heap.size, 2, none⟩ = some (.slice D3 D.faults.length d3)) (by kernel_rfl) ⟨Below.drew (Below.refl _ _), ⟨k0, k1, k2⟩, l0, l1, l2⟩ (fun hHeld => ?_)
  (refine wpAnyH_take (i := 0) (oi := ⟨some 27, _, _, _, _, _⟩) (v := .agg #[.slice D1 D.roots.length d1, .slice D2 D.mods.length d2, .slice D3 D.faults.length d3]) rfl (by kernel_rfl) (by kernel_rfl) (by kernel_rfl) (fun _ _ _ h => h) (Or.inl ⟨by rfl, ?_⟩) (by assumption) ?_; (focus (intro w hSw; (try dsimp only at hSw); go_simp; done)); try simp only [Act.put, List.setIfInBounds_toArray, List.set_cons_zero, List.set_cons_succ])
  (refine wpAnyH_take (i := 1) (oi := ⟨some 28, _, _, _, _, _⟩) (v := .agg #[.slice A1 D.roots.length c1, .slice A2 D.mods.length c2, .slice A3 D.faults.length c3]) rfl (by kernel_rfl) (by kernel_rfl) (by kernel_rfl) (fun _ _ _ h => h) (Or.inl ⟨by rfl, ?_⟩) (by assumption) ?_; (focus (intro w hSw; (try dsimp only at hSw); go_simp; done)); try simp only [Act.put, List.setIfInBounds_toArray, List.set_cons_zero, List.set_cons_succ])
  refine wpAnyH_ready (rs := [2]) (by kernel_rfl) (by simp) ?_
  refine AllReadyH.cons (o := ⟨some 29, _, _, _, _, _⟩) rfl (fun K hK => ?_) AllReadyH.nil
  go_simp
  have B8d := Below.drew B8
  refine (toWorld_calls D _ _ _ S w8.drew (h.below B8d) hr1 hm1 hf1 HLL.out).mono ?_
  rintro e w9 ⟨yR, yM, yF, rfl, O9, hb9⟩
  have B9 := below_then B8d B8d.size hb9
  have O8' := (show OwnWorld w8.drew w3.heap.size _ _ _ D from ⟨O8.R, O8.M, O8.F⟩).below hb9
  have hW9 : Below w8.heap.size w8 w9 := hHeld.1.trans hb9
  have keep : ∀ {W1 W2 : World} {a : Addr} {v : Value}, W1.cell? a = some v → Below W1.heap.size W1 W2 → W2.cell? a = some v := fun h hb => (hb.cell (World.block_lt_of_cell? _ _ h)).trans h
  refine hK.out _ _ (by
    obtain ⟨u0, ⟨u1, u2, u3⟩, u4, u5, u6⟩ := hHeld
    exact ⟨below_then u0 u0.size hb9, ⟨keep u1 hb9, keep u2 hb9, keep u3 hb9⟩, keep u4 hb9, keep u5 hb9, keep u6 hb9⟩) (fun hHeld => ?_)
  clear hK K
  try simp only [Act.put, List.setIfInBounds_toArray, List.set_cons_zero, List.set_cons_succ]
  refine wpAnyH_ready (rs := [3]) (by kernel_rfl) (by simp) ?_
  refine AllReadyH.cons (o := ⟨some 30, _, _, _, _, _⟩) rfl (fun K hK => ?_) AllReadyH.nil
  go_simp
  refine (eqWorld_same D _ _ _ yR yM yF w9 _ _ O8'.wIn O9.wIn).mono ?_
  rintro e w10 ⟨rfl, hb10⟩
  have B10 := below_then B9 B9.size hb10
  have hW10 : Below w8.heap.size w8 w10 := below_then hW9 hW9.size hb10
  refine hK.out _ _ (by
    obtain ⟨u0, ⟨u1, u2, u3⟩, u4, u5, u6⟩ := hHeld
    exact ⟨below_then u0 u0.size hb10, ⟨keep u1 hb10, keep u2 hb10, keep u3 hb10⟩, keep u4 hb10, keep u5 hb10, keep u6 hb10⟩) (fun hHeld => ?_)
  clear hK K
  try simp only [Act.put, List.setIfInBounds_toArray, List.set_cons_zero, List.set_cons_succ]
  (refine wpAnyH_take (i := 4) (oi := ⟨some 31, _, _, _, _, _⟩) (v := .bool false) rfl (by kernel_rfl) (by kernel_rfl) (by kernel_rfl) (fun _ _ _ h => h) (Or.inl ⟨by rfl, ?_⟩) (by assumption) ?_; (focus (intro w hSw; (try dsimp only at hSw); go_simp; done)); try simp only [Act.put, List.setIfInBounds_toArray, List.set_cons_zero, List.set_cons_succ])
  refine wpAnyH_done (by kernel_rfl) ?_ _
  have z10 := hW10.size
  have HRW10 := HRW8.below hW10
  have HR10 := HR8.below hW10
  have HG10 := HG8.below hW10
  have hX10 := hide ((hW10.block _ (by omega)).trans hX8.out)
  have hN710 := hide ((hW10.block _ (by omega)).trans hN78.out)
  have l0 : w10.cell? ⟨w4.heap.size, 0, none⟩ = some (.slice D1 D.roots.length d1) := blk_cell hN710.out 0
  have l1 : w10.cell? ⟨w4.heap.size, 1, none⟩ = some (.slice D2 D.mods.length d2) := blk_cell hN710.out 1
  have l2 : w10.cell? ⟨w4.heap.size, 2, none⟩ = some (.slice D3 D.faults.length d3) := blk_cell hN710.out 2
  clear hHeld hb9 hb10 hW9 hW10 O8' O9 B9 B8d B8 O8 HRW8 HR8 HG8 hX8 hN78 k0 k1 k2 keep
  go_upto_region 13 with fail
  have hmk := rawWorld_calls w3.heap.size w4.heap.size 1 _ _ _ D w10 HRW10 (by omega) (by have := mkOf_sum D.mods; have := HTOT.out; unfold worldTot at this; omega)
  go_wp2_with fail
  refine hmk.mono ?_
  rintro e w11 ⟨⟨kk, rfl⟩, hk11⟩
  have z11 := hk11.size
  have B11 : Below w.heap.size w w11 := B10.trans ((hk11.below (by omega)).mono (by omega))
  have HR11 := HR10.same (fun b (hb : b < w3.heap.size) => hk11.block b (by omega) (.inl (by omega)))
  have HG11 := HG10.same (fun b hb => hk11.block b (HG10.lt hb) (.inr (by have := HG10.le hb; omega)))
  have hX11 := hide ((hk11.block _ (by omega) (.inl (by omega))).trans hX10.out)
  clear hk11 hmk HR10 HG10 hX10 hN710 l0 l1 l2 HRW10 B10
  go_wp2_with fail
  refine (eqStrB Q1 P1 q1 p1 E.length E w11 _ _ HG11.sl HR11 rfl hElm).mono ?_
  rintro e w12 ⟨rfl, hb12⟩
  have z12 := hb12.size
  have B12 := below_then B11 B11.size hb12
  have HR12 := HR11.below hb12
  have HG12 := HG11.below hb12
  have hX12 := hide ((hb12.block _ (by omega)).trans hX11.out)
  clear hb12 HR11 HG11 hX11 B11
  go_wp2_with fail
  refine (markStrB Q1 q1 E.length W5.heap.size 1 E w12 HG12 rfl (by omega)).mono ?_
  rintro e w13 ⟨⟨k13, hk13, rfl⟩, HG13, hg13⟩
  have HK13 := hide hk13
  have z13 := hg13.size
  have hb13 : Below W5.heap.size w12 w13 := (Below.refl _ _).grown hg13 (by omega) (fun b hb => HG12.le hb)
  have B13 : Below w.heap.size w w13 := B12.trans (hb13.mono (by omega))
  have HR13 := HR12.same (fun b (hb : b < w3.heap.size) => hb13.block b (by omega))
  have hX13 := hide ((hb13.block _ (by omega)).trans hX12.out)
  clear hk13 hb13 hg13 HR12 HG12 hX12 B12
  go_wp2_with fail
  refine (heldStrB Q1 q1 E.length 1 _ w13 HG13.sl (by omega)).mono ?_
  rintro e w14 ⟨⟨k14, hk14, rfl⟩, hb14⟩
  obtain rfl : k14 = k13 := hk14.trans HK13.out.symm
  have z14 := hb14.size
  have B14 := below_then B13 B13.size hb14
  have HR14 := HR13.below hb14
  have HG14 := HG13.below hb14
  have hX14 := hide ((hb14.block _ (by omega)).trans hX13.out)
  have k0 : w14.cell? ⟨w.heap.size, 0, none⟩ = some (.slice A1 D.roots.length c1) := blk_cell hX14.out 0
  have k1 : w14.cell? ⟨w.heap.size, 1, none⟩ = some (.slice A2 D.mods.length c2) := blk_cell hX14.out 1
  have k2 : w14.cell? ⟨w.heap.size, 2, none⟩ = some (.slice A3 D.faults.length c3) := blk_cell hX14.out 2
  clear hk14 hb14 HR13 HG13 hX13 B13
  go_wp2_with fail
  refine (toWorld_calls D _ _ _ S w14 (h.below B14) hr1 hm1 hf1 HLL.out).mono ?_
  rintro e w15 ⟨zR, zM, zF, rfl, O15, hb15⟩
  have B15 := below_then B14 B14.size hb15
  have HR15 := HR14.below hb15
  have HG15 := HG14.below hb15
  clear hb15 HR14 HG14 hX14 B14 k0 k1 k2
  go_wp2_with fail
  refine (HIL.out w15 _ _ _ _ O15.wIn (hm.below B15)).mono ?_
  rintro e w16 ⟨v16, rfl, HH16, hb16⟩
  obtain ⟨R1, r1, hq1, _, _, _⟩ := HH16.slV
  subst hq1
  have B16 := below_then B15 B15.size hb16
  have HR16 := HR15.below hb16
  have HG16 := HG15.below hb16
  clear hb16 HR15 HG15 B15 O15
  go_wp2_with fail
  refine (eqStrB R1 P1 r1 p1 E.length E w16 _ _ HH16.sl HR16 rfl hElm).mono ?_
  rintro e w18 ⟨rfl, hb18⟩
  have B18 := below_then B16 B16.size hb18
  have HG18 := HG16.below hb18
  clear hb18 HR16 HG16 HH16
  go_wp2_with fail
  refine (heldStrB Q1 q1 E.length 1 _ w18 HG18.sl (by omega)).mono ?_
  rintro e w19 ⟨⟨k19, hk19, rfl⟩, hb19⟩
  obtain rfl : k19 = k14 := hk19.trans HK13.out.symm
  have B19 := below_then B18 B18.size hb19
  clear hk19 hb19 HG18
  go_wp2_with fail
  go_ret
  exact ⟨rfl, B19⟩
end Go.Proofs.YtkhlicmlnjccdaaDoor
