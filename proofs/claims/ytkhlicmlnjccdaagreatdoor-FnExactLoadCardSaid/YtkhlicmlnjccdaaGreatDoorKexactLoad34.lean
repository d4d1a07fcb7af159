/-
  FnExactLoad: the walk.
-/
import Derived.Test.YtkhlicmlnjccdaaGreatDoorKexactLoad26
import Derived.Test.YtkhlicmlnjccdaaGreatDoorKexactLoad16
import Derived.Test.YtkhlicmlnjccdaaGreatDoorKexactLoad14
import Derived.Test.YtkhlicmlnjccdaaGreatDoorKexactLoad33
import Derived.Test.YtkhlicmlnjccdaaGreatDoorKexactLoad12
import Derived.Deep.RegionHeld3
namespace Go.Proofs.YtkhlicmlnjccdaaGreatDoor
open Go.RowKit Mem

theorem repEnd_small {D : WorldD} {name : Str} (hm : (Wd.worldOk D).1 = 0 → D.mods.length ≤ 60 ∧ ∀ m ∈ D.mods, m.lines.length ≤ 60) : repEnd 1 (Ld.load D name).2 ≤ 1099511627776 := by
  obtain ⟨h1, h2, h3, h4⟩ := Ld.load_small D name hm
  have h5 : ∀ xs : List (List Str), (∀ x ∈ xs, x.length ≤ 40) → totS xs ≤ 40 * xs.length := fun xs => by
    induction xs with
    | nil => intro _; simp [totS, sumOf]
    | cons x r ih =>
      intro h
      have := ih (fun y hy => h y (by simp [hy]))
      have := h x (by simp)
      simp only [totS, sumOf, List.length_cons] at this ⊢
      unfold totS at *
      omega
  have := h5 _ h4
  unfold repEnd
  omega

set_option maxRecDepth 100000 in
set_option maxHeartbeats 4000000 in
theorem exactLoad_calls (vR vM vF : Value) (D : WorldD) (name : Str) (S : Nat → Prop) (w : World) (h : WIn w S vR vM vF D) (hz : WMax D) (hm : ML w) :
    Calls Tryz.prog 4 #[.agg #[vR, vM, vF], .string name] w fun e w' => e = .returned (.bool true) ∧ Below w.heap.size w w' := by
  have hs := h
  obtain ⟨⟨A1, c1, rfl, _, _, _⟩, ⟨A2, c2, rfl, _, _, _⟩, ⟨A3, c3, rfl, _, _, _⟩⟩ := hs
  have hb0 : Below w.heap.size w (w.alloc (Obj.cells #[.slice A1 D.roots.length c1, .slice A2 D.mods.length c2, .slice A3 D.faults.length c3] 43)) := by (repeat (first | with_reducible exact Below.refl _ _ | with_reducible assumption | with_reducible refine Below.alloc ?_ (by first | exact Nat.le_refl _ | exact Below.size (by assumption) | exact Nat.le_trans (Below.size (by assumption)) (by simp; done) | (simp; done) | (simp; omega) | omega) _ | with_reducible refine below_drewN ?_ _ | with_reducible refine Below.drew ?_ | with_reducible refine Below.setCell ?_ (by first | exact Nat.le_refl _ | (simp; done) | (simp; omega) | omega) _))
  have hblk0 := heap_alloc_new w (Obj.cells #[.slice A1 D.roots.length c1, .slice A2 D.mods.length c2, .slice A3 D.faults.length c3] 43)
  have hsz0 : w.heap.size < (w.alloc (Obj.cells #[.slice A1 D.roots.length c1, .slice A2 D.mods.length c2, .slice A3 D.faults.length c3] 43)).heap.size := by simp
  have hcz := szWorld_calls D _ _ _ S 1048576 _ (h.below hb0) hz (Nat.le_refl _)
  have HB0 := hide hblk0
  clear hblk0
  by_cases hnm : 1048576 < name.size
  · clear hcz
    go_enter Tryz.func4, Tryz.ntmps4
    go_wp2_with fail
    go_ret
    exact ⟨rfl, hb0⟩
  by_cases hbig : 1048576 < worldTot D
  · rw [left_no hbig] at hcz
    have HCZ := hide hcz
    clear hcz
    go_enter Tryz.func4, Tryz.ntmps4
    go_wp2_with fail
    refine (unhide HCZ).mono ?_
    rintro e w1 ⟨rfl, hb1⟩
    have HB := below_then hb0 hb0.size hb1
    clear hb1
    go_wp2_with fail
    go_ret
    exact ⟨rfl, HB⟩
  have HTOT := hide (Nat.le_of_not_lt hbig)
  rw [left_ok (Nat.le_of_not_lt hbig)] at hcz
  obtain ⟨HWS, hr1, hm1, hf1, hl1⟩ := worldTot_sz (Nat.le_of_not_lt hbig)
  have HCZ := hide hcz
  have HWZ := hide HWS
  have HLL := hide hl1
  have HEND := hide (repEnd_small (D := D) (name := name) (fun h0 => ⟨(Wd.wok_of h0).mods, (Wd.wok_of h0).lines⟩))
  generalize 1048576 - worldTot D = lf at HCZ
  have hnm' : name.size ≤ 1048576 := by omega
  have HSL := hide (fun (W : World) (vR vM vF : Value) (S : Nat → Prop) (hi : WIn W S vR vM vF D) => sLoad_calls D vR vM vF S W hi HWZ.out name hnm')
  have HIL := hide (fun (W : World) (vR vM vF : Value) (S : Nat → Prop) (hi : WIn W S vR vM vF D) (hml : ML W) => iLoad_calls D vR vM vF S W hi HWZ.out hml name hnm')
  obtain ⟨c, s, hq⟩ : ∃ c s, Ld.load D name = (c, s) := ⟨_, _, rfl⟩
  rw [hq] at HEND HSL HIL
  clear hcz hbig HWS hl1 hq
  go_enter Tryz.func4, Tryz.ntmps4
  go_wp2_with fail
  refine (unhide HCZ).mono ?_
  rintro e w1 ⟨rfl, hb1⟩
  have k0 : w1.cell? ⟨w.heap.size, 0, none⟩ = some (.slice A1 D.roots.length c1) := blk_cell ((hb1.block _ hsz0).trans HB0.out) 0
  have k1 : w1.cell? ⟨w.heap.size, 1, none⟩ = some (.slice A2 D.mods.length c2) := blk_cell ((hb1.block _ hsz0).trans HB0.out) 1
  have k2 : w1.cell? ⟨w.heap.size, 2, none⟩ = some (.slice A3 D.faults.length c3) := blk_cell ((hb1.block _ hsz0).trans HB0.out) 2
  have HX := hide ((hb1.block _ hsz0).trans HB0.out)
  have hx1 : w.heap.size < w1.heap.size := Nat.lt_of_lt_of_le hsz0 hb1.size
  have B1 := below_then hb0 hb0.size hb1
  clear hb1 HB0 HCZ hb0 hsz0
  go_wp2_with fail
  refine (toWorld_calls D _ _ _ S w1 (h.below B1) hr1 hm1 hf1 HLL.out).mono ?_
  rintro e w2 ⟨uR, uM, uF, rfl, O2, hb2⟩
  have B2 := below_then B1 B1.size hb2
  clear k0 k1 k2
  go_wp2_with fail
  refine (HSL.out w2 uR uM uF _ O2.wIn).mono ?_
  rintro e w3 ⟨vc, vs, vr, rfl, hrep, hb3⟩
  obtain ⟨P1, p1, P2, p2, P3, p3, hp1, hp2, hp3, _, _, _, _, _, _⟩ := hrep.form
  subst hp1 hp2 hp3
  have hx3 : w.heap.size < w3.heap.size := Nat.lt_of_lt_of_le (Nat.lt_of_lt_of_le hx1 hb2.size) hb3.size
  have HX3 := hide ((hb3.block _ (Nat.lt_of_lt_of_le hx1 hb2.size)).trans ((hb2.block _ hx1).trans HX.out))
  have B3 := below_then B2 B2.size hb3
  have HR0 := hrep.rd (Nat.le_refl _)
  clear hb2 hb3 O2 B1 B2 HX hx1 hrep
  dsimp only
  have hal := alloc_old w3 (Obj.cells #[.int .i64 c, .slice P1 s.recs.length p1, .slice P2 s.states.length p2, .int .i64 s.reads, .slice P3 s.rings.length p3] 34) hx3
  have hbA : Below w3.heap.size w3 (w3.alloc (Obj.cells #[.int .i64 c, .slice P1 s.recs.length p1, .slice P2 s.states.length p2, .int .i64 s.reads, .slice P3 s.rings.length p3] 34)) := by (repeat (first | with_reducible exact Below.refl _ _ | with_reducible assumption | with_reducible refine Below.alloc ?_ (by first | exact Nat.le_refl _ | exact Below.size (by assumption) | exact Nat.le_trans (Below.size (by assumption)) (by simp; done) | (simp; done) | (simp; omega) | omega) _ | with_reducible refine below_drewN ?_ _ | with_reducible refine Below.drew ?_ | with_reducible refine Below.setCell ?_ (by first | exact Nat.le_refl _ | (simp; done) | (simp; omega) | omega) _))
  have hHXA := hal.trans HX3.out
  have hHN6 := heap_alloc_new w3 (Obj.cells #[.int .i64 c, .slice P1 s.recs.length p1, .slice P2 s.states.length p2, .int .i64 s.reads, .slice P3 s.rings.length p3] 34)
  have hzA : w3.heap.size < (w3.alloc (Obj.cells #[.int .i64 c, .slice P1 s.recs.length p1, .slice P2 s.states.length p2, .int .i64 s.reads, .slice P3 s.rings.length p3] 34)).heap.size := by simp
  go_upto_region 8 with fail
  generalize w3.alloc (Obj.cells #[.int .i64 c, .slice P1 s.recs.length p1, .slice P2 s.states.length p2, .int .i64 s.reads, .slice P3 s.rings.length p3] 34) = WA at hbA hHXA hHN6 hzA ⊢
  have BA := below_then B3 B3.size hbA
  have HRA := HR0.below hbA
  have HXA := hide hHXA
  have HN6 := hide hHN6
  have k0 : WA.cell? ⟨w.heap.size, 0, none⟩ = some (.slice A1 D.roots.length c1) := blk_cell hHXA 0
  have k1 : WA.cell? ⟨w.heap.size, 1, none⟩ = some (.slice A2 D.mods.length c2) := blk_cell hHXA 1
  have k2 : WA.cell? ⟨w.heap.size, 2, none⟩ = some (.slice A3 D.faults.length c3) := blk_cell hHXA 2
  clear hal hbA hHXA hHN6 HX3 HR0 B3
  go_wp2_with fail
  refine (toWorld_calls D _ _ _ S WA (h.below BA) hr1 hm1 hf1 HLL.out).mono ?_
  rintro e w4 ⟨xR, xM, xF, rfl, O4, hb4⟩
  have B4 := below_then BA BA.size hb4
  have z4 := hb4.size
  have HRW := O4.raw (Nat.le_refl _)
  have hX4 := (hb4.block _ (by omega)).trans HXA.out
  have hN4 := (hb4.block _ hzA).trans HN6.out
  have HR4 := HRA.below hb4
  obtain ⟨D1, d1, hx1, _, _, _⟩ := O4.R.slV
  obtain ⟨D2, d2, hx2, _, _, _⟩ := O4.M.slV
  obtain ⟨D3, d3, hx3', _, _, _⟩ := O4.F.slV
  subst hx1 hx2 hx3'
  have hbB : Below w4.heap.size w4 (w4.alloc (Obj.cells #[.slice D1 D.roots.length d1, .slice D2 D.mods.length d2, .slice D3 D.faults.length d3] 27)) := by (repeat (first | with_reducible exact Below.refl _ _ | with_reducible assumption | with_reducible refine Below.alloc ?_ (by first | exact Nat.le_refl _ | exact Below.size (by assumption) | exact Nat.le_trans (Below.size (by assumption)) (by simp; done) | (simp; done) | (simp; omega) | omega) _ | with_reducible refine below_drewN ?_ _ | with_reducible refine Below.drew ?_ | with_reducible refine Below.setCell ?_ (by first | exact Nat.le_refl _ | (simp; done) | (simp; omega) | omega) _))
  have hN7 := heap_alloc_new w4 (Obj.cells #[.slice D1 D.roots.length d1, .slice D2 D.mods.length d2, .slice D3 D.faults.length d3] 27)
  have hzB : w4.heap.size < (w4.alloc (Obj.cells #[.slice D1 D.roots.length d1, .slice D2 D.mods.length d2, .slice D3 D.faults.length d3] 27)).heap.size := by simp
  clear hb4 HXA HN6 HRA k0 k1 k2 BA
  go_upto_region 9 with fail
  generalize w4.alloc (Obj.cells #[.slice D1 D.roots.length d1, .slice D2 D.mods.length d2, .slice D3 D.faults.length d3] 27) = W5 at hbB hN7 hzB ⊢
  have B5 := below_then B4 B4.size hbB
  have O5 := O4.below hbB
  have HRW5 := HRW.below hbB
  have HR5 := HR4.below hbB
  have hX5 := hide ((hbB.block _ (by omega)).trans hX4)
  have hN65 := hide ((hbB.block _ (by omega)).trans hN4)
  have hN75 := hide hN7
  have l0 : W5.cell? ⟨w4.heap.size, 0, none⟩ = some (.slice D1 D.roots.length d1) := blk_cell hN7 0
  have l1 : W5.cell? ⟨w4.heap.size, 1, none⟩ = some (.slice D2 D.mods.length d2) := blk_cell hN7 1
  have l2 : W5.cell? ⟨w4.heap.size, 2, none⟩ = some (.slice D3 D.faults.length d3) := blk_cell hN7 2
  clear hbB hX4 hN4 hN7 HR4 HRW O4 B4
  go_wp2_with fail
  refine (HIL.out W5 _ _ _ _ O5.wIn (hm.below B5)).mono ?_
  rintro e w6 ⟨gc, gs, gr, rfl, hrep, hb6⟩
  obtain ⟨Q1, q1, Q2, q2, Q3, q3, hq1, hq2, hq3, _, _, _, _, _, _⟩ := hrep.form
  subst hq1 hq2 hq3
  dsimp only
  have z6 := hb6.size
  have B6 := below_then B5 B5.size hb6
  have O6 := O5.below hb6
  have HRW6 := HRW5.below hb6
  have HR6 := HR5.below hb6
  have hX6 := (hb6.block _ (by omega)).trans hX5.out
  have hN66 := (hb6.block _ (by omega)).trans hN65.out
  have hN76 := (hb6.block _ (by omega)).trans hN75.out
  have hbC : Below w6.heap.size w6 (w6.alloc (Obj.cells #[.int .i64 c, .slice Q1 s.recs.length q1, .slice Q2 s.states.length q2, .int .i64 s.reads, .slice Q3 s.rings.length q3] 34)) := by (repeat (first | with_reducible exact Below.refl _ _ | with_reducible assumption | with_reducible refine Below.alloc ?_ (by first | exact Nat.le_refl _ | exact Below.size (by assumption) | exact Nat.le_trans (Below.size (by assumption)) (by simp; done) | (simp; done) | (simp; omega) | omega) _ | with_reducible refine below_drewN ?_ _ | with_reducible refine Below.drew ?_ | with_reducible refine Below.setCell ?_ (by first | exact Nat.le_refl _ | (simp; done) | (simp; omega) | omega) _))
  have hN8 := heap_alloc_new w6 (Obj.cells #[.int .i64 c, .slice Q1 s.recs.length q1, .slice Q2 s.states.length q2, .int .i64 s.reads, .slice Q3 s.rings.length q3] 34)
  have hzC : w6.heap.size < (w6.alloc (Obj.cells #[.int .i64 c, .slice Q1 s.recs.length q1, .slice Q2 s.states.length q2, .int .i64 s.reads, .slice Q3 s.rings.length q3] 34)).heap.size := by simp
  clear hb6 hX5 hN65 hN75 HR5 HRW5 O5 B5 l0 l1 l2
  go_upto_region 10 with fail
  generalize w6.alloc (Obj.cells #[.int .i64 c, .slice Q1 s.recs.length q1, .slice Q2 s.states.length q2, .int .i64 s.reads, .slice Q3 s.rings.length q3] 34) = W7 at hbC hN8 hzC ⊢
  have B7 := below_then B6 B6.size hbC
  have O7 := O6.below hbC
  have HRW7 := HRW6.below hbC
  have HR7 := HR6.below hbC
  have HG7 := hrep.below hbC
  have hX7 := hide ((hbC.block _ (by omega)).trans hX6)
  have hN67 := hide ((hbC.block _ (by omega)).trans hN66)
  have hN77 := hide ((hbC.block _ (by omega)).trans hN76)
  have hN87 := hide hN8
  have m0 : W7.cell? ⟨w3.heap.size, 0, none⟩ = some _ := blk_cell hN67.out 0
  have m1 : W7.cell? ⟨w3.heap.size, 1, none⟩ = some _ := blk_cell hN67.out 1
  have m2 : W7.cell? ⟨w3.heap.size, 2, none⟩ = some _ := blk_cell hN67.out 2
  have m3 : W7.cell? ⟨w3.heap.size, 3, none⟩ = some _ := blk_cell hN67.out 3
  have m4 : W7.cell? ⟨w3.heap.size, 4, none⟩ = some _ := blk_cell hN67.out 4
  have n0 : W7.cell? ⟨w6.heap.size, 0, none⟩ = some _ := blk_cell hN8 0
  have n1 : W7.cell? ⟨w6.heap.size, 1, none⟩ = some _ := blk_cell hN8 1
  have n2 : W7.cell? ⟨w6.heap.size, 2, none⟩ = some _ := blk_cell hN8 2
  have n3 : W7.cell? ⟨w6.heap.size, 3, none⟩ = some _ := blk_cell hN8 3
  have n4 : W7.cell? ⟨w6.heap.size, 4, none⟩ = some _ := blk_cell hN8 4
  clear hbC hX6 hN66 hN76 hN8 HR6 HRW6 O6 B6 hrep
  go_wp2_with fail
  refine (eqReport_same c s.reads s _ _ _ _ _ _ _ _ W7 (HG7.rd (Nat.le_refl _)) HR7).mono ?_
  rintro e w8 ⟨rfl, hb8⟩
  have z8 := hb8.size
  have B8 := below_then B7 B7.size hb8
  have O8 := O7.below hb8
  have HRW8 := HRW7.below hb8
  have HR8 := HR7.below hb8
  have HG8 := HG7.below hb8
  have hX8 := hide ((hb8.block _ (by omega)).trans hX7.out)
  have hN68 := hide ((hb8.block _ (by omega)).trans hN67.out)
  have hN78 := hide ((hb8.block _ (by omega)).trans hN77.out)
  have hN88 := hide ((hb8.block _ (by omega)).trans hN87.out)
  have k0 : w8.cell? ⟨w.heap.size, 0, none⟩ = some (.slice A1 D.roots.length c1) := blk_cell hX8.out 0
  have k1 : w8.cell? ⟨w.heap.size, 1, none⟩ = some (.slice A2 D.mods.length c2) := blk_cell hX8.out 1
  have k2 : w8.cell? ⟨w.heap.size, 2, none⟩ = some (.slice A3 D.faults.length c3) := blk_cell hX8.out 2
  have l0 : w8.cell? ⟨w4.heap.size, 0, none⟩ = some (.slice D1 D.roots.length d1) := blk_cell hN78.out 0
  have l1 : w8.cell? ⟨w4.heap.size, 1, none⟩ = some (.slice D2 D.mods.length d2) := blk_cell hN78.out 1
  have l2 : w8.cell? ⟨w4.heap.size, 2, none⟩ = some (.slice D3 D.faults.length d3) := blk_cell hN78.out 2
  clear hb8 hX7 hN67 hN77 hN87 HR7 HRW7 O7 B7 HG7 m0 m1 m2 m3 m4 n0 n1 n2 n3 n4
  go_upto_region 12 with fail
  refine wp_region_held_drew (S := fun w' => Below w8.heap.size w8 w' ∧ (w'.cell? ⟨w.heap.size, 0, none⟩ = some (.slice A1 D.roots.length c1) ∧ w'.cell? ⟨w.heap.size, 1, none⟩ = some (.slice A2 D.mods.length c2) ∧ w'.cell? ⟨w.heap.size, 2, none⟩ = some (.slice A3 D.faults.length c3)) ∧ w'.cell? ⟨w4.heap.size, 0, none⟩ = some (.slice D1 D.roots.length d1) ∧ w'.cell? ⟨w4.heap.size, 1, none⟩ = some (.slice D2 D.mods.length d2) ∧ w'.cell? ⟨w4.heap.size, 2, none⟩ = some (.slice D3 D.faults.length d3)) (by kernel_rfl) ⟨Below.drew (Below.refl _ _), ⟨k0, k1, k2⟩, l0, l1, l2⟩ (fun hHeld => ?_)
  (refine wpAnyH_take (i := 0) (oi := ⟨some 34, _, _, _, _, _⟩) (v := .agg #[.slice D1 D.roots.length d1, .slice D2 D.mods.length d2, .slice D3 D.faults.length d3]) rfl (by kernel_rfl) (by kernel_rfl) (by kernel_rfl) (fun _ _ _ h => h) (Or.inl ⟨by rfl, ?_⟩) (by assumption) ?_; (focus (intro w hSw; (try dsimp only at hSw); go_simp; done)); try simp only [Act.put, List.setIfInBounds_toArray, List.set_cons_zero, List.set_cons_succ])
  (refine wpAnyH_take (i := 1) (oi := ⟨some 35, _, _, _, _, _⟩) (v := .agg #[.slice A1 D.roots.length c1, .slice A2 D.mods.length c2, .slice A3 D.faults.length c3]) rfl (by kernel_rfl) (by kernel_rfl) (by kernel_rfl) (fun _ _ _ h => h) (Or.inl ⟨by rfl, ?_⟩) (by assumption) ?_; (focus (intro w hSw; (try dsimp only at hSw); go_simp; done)); try simp only [Act.put, List.setIfInBounds_toArray, List.set_cons_zero, List.set_cons_succ])
  refine wpAnyH_ready (rs := [2]) (by kernel_rfl) (by simp) ?_
  refine AllReadyH.cons (o := ⟨some 36, _, _, _, _, _⟩) rfl (fun K hK => ?_) AllReadyH.nil
  go_simp
  have B8d := Below.drew B8
  refine (toWorld_calls D _ _ _ S w8.drew (h.below B8d) hr1 hm1 hf1 HLL.out).mono ?_
  rintro e w9 ⟨yR, yM, yF, rfl, O9, hb9⟩
  have B9 := below_then B8d B8d.size hb9
  have O8' := (show OwnWorld w8.drew WA.heap.size _ _ _ D from ⟨O8.R, O8.M, O8.F⟩).below hb9
  have hW9 : Below w8.heap.size w8 w9 := hHeld.1.trans hb9
  have keep : ∀ {W1 W2 : World} {a : Addr} {v : Value}, W1.cell? a = some v → Below W1.heap.size W1 W2 → W2.cell? a = some v := fun h hb => (hb.cell (World.block_lt_of_cell? _ _ h)).trans h
  refine hK.out _ _ (by
    obtain ⟨u0, ⟨u1, u2, u3⟩, u4, u5, u6⟩ := hHeld
    exact ⟨below_then u0 u0.size hb9, ⟨keep u1 hb9, keep u2 hb9, keep u3 hb9⟩, keep u4 hb9, keep u5 hb9, keep u6 hb9⟩) (fun hHeld => ?_)
  clear hK K
  try simp only [Act.put, List.setIfInBounds_toArray, List.set_cons_zero, List.set_cons_succ]
  refine wpAnyH_ready (rs := [3]) (by kernel_rfl) (by simp) ?_
  refine AllReadyH.cons (o := ⟨some 37, _, _, _, _, _⟩) rfl (fun K hK => ?_) AllReadyH.nil
  go_simp
  refine (eqWorld_same D _ _ _ yR yM yF w9 _ _ O8'.wIn O9.wIn).mono ?_
  rintro e w10 ⟨rfl, hb10⟩
  have B10 := below_then B9 B9.size hb10
  have hW10 : Below w8.heap.size w8 w10 := below_then hW9 hW9.size hb10
  refine hK.out _ _ (by
    obtain ⟨u0, ⟨u1, u2, u3⟩, u4, u5, u6⟩ := hHeld
    exact ⟨below_then u0 u0.size hb10, ⟨keep u1 hb10, keep u2 hb10, keep u3 hb10⟩, keep u4 hb10, keep u5 hb10, keep u6 hb10⟩) (fun hHeld => ?_)
  clear hK K
  try simp only [Act.put, List.setIfInBounds_toArray, List.set_cons_zero, List.set_cons_succ]
  (refine wpAnyH_take (i := 4) (oi := ⟨some 38, _, _, _, _, _⟩) (v := .bool false) rfl (by kernel_rfl) (by kernel_rfl) (by kernel_rfl) (fun _ _ _ h => h) (Or.inl ⟨by rfl, ?_⟩) (by assumption) ?_; (focus (intro w hSw; (try dsimp only at hSw); go_simp; done)); try simp only [Act.put, List.setIfInBounds_toArray, List.set_cons_zero, List.set_cons_succ])
  refine wpAnyH_done (by kernel_rfl) ?_ _
  have z10 := hW10.size
  have HRW10 := HRW8.below hW10
  have HR10 := HR8.below hW10
  have HG10 := HG8.below hW10
  have hX10 := hide ((hW10.block _ (by omega)).trans hX8.out)
  have hN610 := hide ((hW10.block _ (by omega)).trans hN68.out)
  have hN710 := hide ((hW10.block _ (by omega)).trans hN78.out)
  have hN810 := hide ((hW10.block _ (by omega)).trans hN88.out)
  have l0 : w10.cell? ⟨w4.heap.size, 0, none⟩ = some (.slice D1 D.roots.length d1) := blk_cell hN710.out 0
  have l1 : w10.cell? ⟨w4.heap.size, 1, none⟩ = some (.slice D2 D.mods.length d2) := blk_cell hN710.out 1
  have l2 : w10.cell? ⟨w4.heap.size, 2, none⟩ = some (.slice D3 D.faults.length d3) := blk_cell hN710.out 2
  clear hHeld hb9 hb10 hW9 hW10 O8' O9 B9 B8d B8 O8 HRW8 HR8 HG8 hX8 hN68 hN78 hN88 k0 k1 k2 keep
  go_upto_region 15 with fail
  have hmk := rawWorld_calls WA.heap.size w4.heap.size 1 _ _ _ D w10 HRW10 (by omega) (by have := mkOf_sum D.mods; have := HTOT.out; unfold worldTot at this; omega)
  go_wp2_with fail
  refine hmk.mono ?_
  rintro e w11 ⟨⟨kk, rfl⟩, hk11⟩
  have z11 := hk11.size
  have B11 : Below w.heap.size w w11 := B10.trans ((hk11.below (by omega)).mono (by omega))
  have HR11 := HR10.same (fun b (hb : b < w3.heap.size) => hk11.block b (by omega) (.inl (by omega)))
  have HG11 := HG10.samelt (fun b hb hl => hk11.block b hl (.inr (by omega)))
  have hX11 := hide ((hk11.block _ (by omega) (.inl (by omega))).trans hX10.out)
  have hN611 := hide ((hk11.block _ (by omega) (.inl (by omega))).trans hN610.out)
  have hN811 := hide ((hk11.block _ (by omega) (.inr (by omega))).trans hN810.out)
  have m0 : w11.cell? ⟨w3.heap.size, 0, none⟩ = some _ := blk_cell hN611.out 0
  have m1 : w11.cell? ⟨w3.heap.size, 1, none⟩ = some _ := blk_cell hN611.out 1
  have m2 : w11.cell? ⟨w3.heap.size, 2, none⟩ = some _ := blk_cell hN611.out 2
  have m3 : w11.cell? ⟨w3.heap.size, 3, none⟩ = some _ := blk_cell hN611.out 3
  have m4 : w11.cell? ⟨w3.heap.size, 4, none⟩ = some _ := blk_cell hN611.out 4
  have n0 : w11.cell? ⟨w6.heap.size, 0, none⟩ = some _ := blk_cell hN811.out 0
  have n1 : w11.cell? ⟨w6.heap.size, 1, none⟩ = some _ := blk_cell hN811.out 1
  have n2 : w11.cell? ⟨w6.heap.size, 2, none⟩ = some _ := blk_cell hN811.out 2
  have n3 : w11.cell? ⟨w6.heap.size, 3, none⟩ = some _ := blk_cell hN811.out 3
  have n4 : w11.cell? ⟨w6.heap.size, 4, none⟩ = some _ := blk_cell hN811.out 4
  clear hk11 hmk HR10 HG10 hX10 hN610 hN710 hN810 l0 l1 l2 HRW10 B10
  go_wp2_with fail
  refine (eqReport_same c s.reads s _ _ _ _ _ _ _ _ w11 (HG11.rd (Nat.le_refl _)) HR11).mono ?_
  rintro e w12 ⟨rfl, hb12⟩
  have z12 := hb12.size
  have B12 := below_then B11 B11.size hb12
  have HR12 := HR11.below hb12
  have HG12 := HG11.below hb12
  have hX12 := hide ((hb12.block _ (by omega)).trans hX11.out)
  have hN612 := hide ((hb12.block _ (by omega)).trans hN611.out)
  have hN812 := hide ((hb12.block _ (by omega)).trans hN811.out)
  have n0 : w12.cell? ⟨w6.heap.size, 0, none⟩ = some _ := blk_cell hN812.out 0
  have n1 : w12.cell? ⟨w6.heap.size, 1, none⟩ = some _ := blk_cell hN812.out 1
  have n2 : w12.cell? ⟨w6.heap.size, 2, none⟩ = some _ := blk_cell hN812.out 2
  have n3 : w12.cell? ⟨w6.heap.size, 3, none⟩ = some _ := blk_cell hN812.out 3
  have n4 : w12.cell? ⟨w6.heap.size, 4, none⟩ = some _ := blk_cell hN812.out 4
  clear hb12 HR11 HG11 hX11 hN611 hN811 m0 m1 m2 m3 m4 B11
  go_wp2_with fail
  refine (markReport_calls 1 W5.heap.size c s.reads s _ _ _ w12 HG12 (by omega) HEND.out).mono ?_
  rintro e w13 ⟨⟨k13, hk13, rfl⟩, HG13, hb13, hkp13⟩
  have HK13 := hide hk13
  have z13 := hb13.size
  have B13 : Below w.heap.size w w13 := B12.trans (hb13.mono (by omega))
  have HR13 := HR12.same (fun b (hb : b < w3.heap.size) => hb13.block b (by omega))
  have hX13 := hide ((hb13.block _ (by omega)).trans hX12.out)
  have hN613 := hide ((hb13.block _ (by omega)).trans hN612.out)
  have hN813 := hide (hkp13 _ _ hN812.out)
  have n0 : w13.cell? ⟨w6.heap.size, 0, none⟩ = some _ := blk_cell hN813.out 0
  have n1 : w13.cell? ⟨w6.heap.size, 1, none⟩ = some _ := blk_cell hN813.out 1
  have n2 : w13.cell? ⟨w6.heap.size, 2, none⟩ = some _ := blk_cell hN813.out 2
  have n3 : w13.cell? ⟨w6.heap.size, 3, none⟩ = some _ := blk_cell hN813.out 3
  have n4 : w13.cell? ⟨w6.heap.size, 4, none⟩ = some _ := blk_cell hN813.out 4
  clear hk13 hb13 hkp13 HR12 HG12 hX12 hN612 hN812 B12
  go_wp2_with fail
  refine (heldReport_calls 1 W5.heap.size c s.reads s _ _ _ w13 HG13 HEND.out).mono ?_
  rintro e w14 ⟨⟨k14, hk14, rfl⟩, hb14⟩
  obtain rfl : k14 = k13 := hk14.trans HK13.out.symm
  have z14 := hb14.size
  have B14 := below_then B13 B13.size hb14
  have HR14 := HR13.below hb14
  have HG14 := HG13.below hb14
  have hX14 := hide ((hb14.block _ (by omega)).trans hX13.out)
  have hN614 := hide ((hb14.block _ (by omega)).trans hN613.out)
  have hN814 := hide ((hb14.block _ (by have := (Array.getElem?_eq_some_iff.1 hN813.out).1; omega)).trans hN813.out)
  have k0 : w14.cell? ⟨w.heap.size, 0, none⟩ = some (.slice A1 D.roots.length c1) := blk_cell hX14.out 0
  have k1 : w14.cell? ⟨w.heap.size, 1, none⟩ = some (.slice A2 D.mods.length c2) := blk_cell hX14.out 1
  have k2 : w14.cell? ⟨w.heap.size, 2, none⟩ = some (.slice A3 D.faults.length c3) := blk_cell hX14.out 2
  clear hk14 hb14 HR13 HG13 hX13 hN613 hN813 B13 n0 n1 n2 n3 n4
  go_wp2_with fail
  refine (toWorld_calls D _ _ _ S w14 (h.below B14) hr1 hm1 hf1 HLL.out).mono ?_
  rintro e w15 ⟨zR, zM, zF, rfl, O15, hb15⟩
  have z15 := hb15.size
  have B15 := below_then B14 B14.size hb15
  have HR15 := HR14.below hb15
  have HG15 := HG14.below hb15
  have hN615 := hide ((hb15.block _ (by omega)).trans hN614.out)
  have hN815 := hide ((hb15.block _ (by have := (Array.getElem?_eq_some_iff.1 hN814.out).1; omega)).trans hN814.out)
  clear hb15 HR14 HG14 hX14 hN614 hN814 B14 k0 k1 k2
  go_wp2_with fail
  refine (HIL.out w15 _ _ _ _ O15.wIn (hm.below B15)).mono ?_
  rintro e w16 ⟨gc, gs, gr, rfl, hrep, hb16⟩
  obtain ⟨R1, r1, R2, r2, R3, r3, hq1, hq2, hq3, _, _, _, _, _, _⟩ := hrep.form
  subst hq1 hq2 hq3
  dsimp only
  have z16 := hb16.size
  have B16 := below_then B15 B15.size hb16
  have HR16 := HR15.below hb16
  have HG16 := HG15.below hb16
  have hN616 := (hb16.block _ (by omega)).trans hN615.out
  have hN816 := (hb16.block _ (by have := (Array.getElem?_eq_some_iff.1 hN815.out).1; omega)).trans hN815.out
  have hlt8 := (Array.getElem?_eq_some_iff.1 hN816).1
  have hbC : Below w16.heap.size w16 (w16.alloc (Obj.cells #[.int .i64 c, .slice R1 s.recs.length r1, .slice R2 s.states.length r2, .int .i64 s.reads, .slice R3 s.rings.length r3] 34)) := by (repeat (first | with_reducible exact Below.refl _ _ | with_reducible assumption | with_reducible refine Below.alloc ?_ (by first | exact Nat.le_refl _ | exact Below.size (by assumption) | exact Nat.le_trans (Below.size (by assumption)) (by simp; done) | (simp; done) | (simp; omega) | omega) _ | with_reducible refine below_drewN ?_ _ | with_reducible refine Below.drew ?_ | with_reducible refine Below.setCell ?_ (by first | exact Nat.le_refl _ | (simp; done) | (simp; omega) | omega) _))
  have hN12 := heap_alloc_new w16 (Obj.cells #[.int .i64 c, .slice R1 s.recs.length r1, .slice R2 s.states.length r2, .int .i64 s.reads, .slice R3 s.rings.length r3] 34)
  clear hb16 HR15 HG15 hN615 hN815 B15 O15
  go_upto_region 27 with fail
  generalize w16.alloc (Obj.cells #[.int .i64 c, .slice R1 s.recs.length r1, .slice R2 s.states.length r2, .int .i64 s.reads, .slice R3 s.rings.length r3] 34) = W17 at hbC hN12 ⊢
  have z17 := hbC.size
  have B17 := below_then B16 B16.size hbC
  have HR17 := HR16.below hbC
  have HG17 := HG16.below hbC
  have HH17 := hrep.below hbC
  have hN617 := (hbC.block _ (by omega)).trans hN616
  have hN817 := hide ((hbC.block _ hlt8).trans hN816)
  have hlt8' : w6.heap.size < W17.heap.size := Nat.lt_of_lt_of_le hlt8 z17
  have m0 : W17.cell? ⟨w3.heap.size, 0, none⟩ = some _ := blk_cell hN617 0
  have m1 : W17.cell? ⟨w3.heap.size, 1, none⟩ = some _ := blk_cell hN617 1
  have m2 : W17.cell? ⟨w3.heap.size, 2, none⟩ = some _ := blk_cell hN617 2
  have m3 : W17.cell? ⟨w3.heap.size, 3, none⟩ = some _ := blk_cell hN617 3
  have m4 : W17.cell? ⟨w3.heap.size, 4, none⟩ = some _ := blk_cell hN617 4
  have n0 : W17.cell? ⟨w16.heap.size, 0, none⟩ = some _ := blk_cell hN12 0
  have n1 : W17.cell? ⟨w16.heap.size, 1, none⟩ = some _ := blk_cell hN12 1
  have n2 : W17.cell? ⟨w16.heap.size, 2, none⟩ = some _ := blk_cell hN12 2
  have n3 : W17.cell? ⟨w16.heap.size, 3, none⟩ = some _ := blk_cell hN12 3
  have n4 : W17.cell? ⟨w16.heap.size, 4, none⟩ = some _ := blk_cell hN12 4
  clear hbC HR16 HG16 hN616 hN816 hN12 hN617 hrep B16
  go_wp2_with fail
  refine (eqReport_same c s.reads s _ _ _ _ _ _ _ _ W17 (HH17.rd (Nat.le_refl _)) HR17).mono ?_
  rintro e w18 ⟨rfl, hb18⟩
  have B18 := below_then B17 B17.size hb18
  have HG18 := HG17.below hb18
  have hN818 := (hb18.block _ hlt8').trans hN817.out
  have n0 : w18.cell? ⟨w6.heap.size, 0, none⟩ = some _ := blk_cell hN818 0
  have n1 : w18.cell? ⟨w6.heap.size, 1, none⟩ = some _ := blk_cell hN818 1
  have n2 : w18.cell? ⟨w6.heap.size, 2, none⟩ = some _ := blk_cell hN818 2
  have n3 : w18.cell? ⟨w6.heap.size, 3, none⟩ = some _ := blk_cell hN818 3
  have n4 : w18.cell? ⟨w6.heap.size, 4, none⟩ = some _ := blk_cell hN818 4
  clear hb18 HR17 HG17 HH17 hN817 hN818 m0 m1 m2 m3 m4
  go_wp2_with fail
  refine (heldReport_calls 1 W5.heap.size c s.reads s _ _ _ w18 HG18 HEND.out).mono ?_
  rintro e w19 ⟨⟨k19, hk19, rfl⟩, hb19⟩
  obtain rfl : k19 = k14 := hk19.trans HK13.out.symm
  have B19 := below_then B18 B18.size hb19
  clear hk19 hb19 HG18
  go_wp2_with fail
  go_ret
  exact ⟨rfl, B19⟩
end Go.Proofs.YtkhlicmlnjccdaaGreatDoor
