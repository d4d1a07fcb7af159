/-
  FnSpoilt: the walk.
-/
import Derived.Test.YtkhlicmlnjccdaaGreatDoorKs36
import Derived.Test.YtkhlicmlnjccdaaGreatDoorKs43
import Derived.Test.YtkhlicmlnjccdaaGreatDoorKs41
import Derived.Test.YtkhlicmlnjccdaaGreatDoorKs46
import Derived.Test.YtkhlicmlnjccdaaGreatDoorKs47
import Derived.Test.YtkhlicmlnjccdaaGreatDoorKs25
import Derived.Deep.RegionHeld3
namespace Go.Proofs.YtkhlicmlnjccdaaGreatDoor
open Go.RowKit Mem
theorem wrong_same (a b c : Int) (w : World) : (binOp .neq 52 (.agg #[.int .i64 a, .int .i64 b, .int .i64 c]) (.agg #[.int .i64 a, .int .i64 b, .int .i64 c])).run Tryz.prog w = .ok (.bool false) w := by
  rw [run_neq_struct, run_equalIn_agg _ _ _ _ _ wrong_under wrong_stood]
  simp only [Program.fieldsOf, Tryz.underlying52]
  simp [Op.eqFields, part, go_sem, Tryz.underlying3]

theorem ret_bad {w w' : World} {e : Ending} (h : RetRep w (-1, Ld.St.start) e w') : ∃ P1 p1 P2 p2 P3 p3, e = .returned (.agg #[.int .i64 (-1), .slice P1 0 p1, .slice P2 0 p2, .int .i64 0, .slice P3 0 p3]) ∧ RepRg w' (fun b => b < w'.heap.size) (.slice P1 0 p1) (.slice P2 0 p2) (.slice P3 0 p3) Ld.St.start ∧ Below w.heap.size w w' := by
  obtain ⟨vc, vs, vr, rfl, hrep, hb⟩ := h
  have HRG := hrep.rg
  obtain ⟨⟨P1, p1, hp1, _, _, _⟩, ⟨P2, p2, hp2, _, _, _⟩, ⟨P3, p3, hp3, _, _, _⟩⟩ := hrep.rg
  subst hp1 hp2 hp3
  exact ⟨P1, p1, P2, p2, P3, p3, rfl, HRG, hb⟩

set_option maxRecDepth 100000 in
set_option maxHeartbeats 4000000 in
theorem spoilt_calls (A : Option Addr) (cp nn : Nat) (code : List Int) (S : Nat → Prop) (w : World) (h : Sl kU8 w S A code) (hn : code.length = nn) (hs : ∀ x ∈ code, 0 ≤ x ∧ x ≤ 255) (hl : nn ≤ maxLen) (hm : ML w) (htab : Tabs w) :
    Calls Tryz.prog 6 #[.slice A nn cp] w fun e w' => e = .returned (.bool true) ∧ Below w.heap.size w w' := by
  unfold maxLen at hl
  by_cases hbig : 1048576 < nn
  · go_enter Tryz.func6, Tryz.ntmps6
    go_wp2_with fail
    go_ret
    exact ⟨rfl, by (repeat (first | with_reducible exact Below.refl _ _ | with_reducible assumption | with_reducible refine Below.alloc ?_ (by first | exact Nat.le_refl _ | exact Below.size (by assumption) | exact Nat.le_trans (Below.size (by assumption)) (by simp; done) | (simp; done) | (simp; omega) | omega) _ | with_reducible refine below_drewN ?_ _ | with_reducible refine Below.drew ?_ | with_reducible refine Below.setCell ?_ (by first | exact Nat.le_refl _ | (simp; done) | (simp; omega) | omega) _))⟩
  have hdr := drawWorldOk_calls A cp nn code S w h hn hs (by omega)
  have HD := hide hdr
  have HM := hide hm
  have HTB := hide htab
  clear hdr h hn hs hm htab
  go_enter Tryz.func6, Tryz.ntmps6
  go_wp2_with fail
  refine HD.out.mono ?_
  rintro e w1 ⟨vR, vM, vF, D, rfl, hin1, hsz, hb1⟩
  clear HD
  obtain ⟨⟨A1, c1, hv1, _, _, _⟩, ⟨A2, c2, hv2, _, _, _⟩, ⟨A3, c3, hv3, _, _, _⟩⟩ := id hin1
  subst hv1 hv2 hv3
  have hbA : Below w1.heap.size w1 (w1.alloc (Obj.cells #[.slice A1 D.roots.length c1, .slice A2 D.mods.length c2, .slice A3 D.faults.length c3] 27)) := by (repeat (first | with_reducible exact Below.refl _ _ | with_reducible assumption | with_reducible refine Below.alloc ?_ (by first | exact Nat.le_refl _ | exact Below.size (by assumption) | exact Nat.le_trans (Below.size (by assumption)) (by simp; done) | (simp; done) | (simp; omega) | omega) _ | with_reducible refine below_drewN ?_ _ | with_reducible refine Below.drew ?_ | with_reducible refine Below.setCell ?_ (by first | exact Nat.le_refl _ | (simp; done) | (simp; omega) | omega) _))
  have hnA := heap_alloc_new w1 (Obj.cells #[.slice A1 D.roots.length c1, .slice A2 D.mods.length c2, .slice A3 D.faults.length c3] 27)
  have hzA : w1.heap.size < (w1.alloc (Obj.cells #[.slice A1 D.roots.length c1, .slice A2 D.mods.length c2, .slice A3 D.faults.length c3] 27)).heap.size := by simp
  dsimp only
  go_upto_region 4 with fail
  generalize w1.alloc (Obj.cells #[.slice A1 D.roots.length c1, .slice A2 D.mods.length c2, .slice A3 D.faults.length c3] 27) = W2 at hbA hnA hzA ⊢
  have B2 := below_then hb1 hb1.size hbA
  have hin2 := hin1.below hbA
  have HA := hide hnA
  have k0 : W2.cell? ⟨w1.heap.size, 0, none⟩ = some (.slice A1 D.roots.length c1) := blk_cell hnA 0
  have k1 : W2.cell? ⟨w1.heap.size, 1, none⟩ = some (.slice A2 D.mods.length c2) := blk_cell hnA 1
  have k2 : W2.cell? ⟨w1.heap.size, 2, none⟩ = some (.slice A3 D.faults.length c3) := blk_cell hnA 2
  have hiw := iWorldOk_calls D _ _ _ _ W2 hin2 hsz (HM.out.below B2)
  have hsw := fun (W : World) (hi : WIn W (fun b => w.heap.size ≤ b) (.slice A1 D.roots.length c1) (.slice A2 D.mods.length c2) (.slice A3 D.faults.length c3) D) => sWorldOk_calls D _ _ _ _ W hi hsz
  have hbad : (Wd.worldOk D).1 ≠ 0 → Ld.load D ⟨#[97]⟩ = (-1, Ld.St.start) ∧ Gr.edges D = [] ∧ Gr.order D ⟨#[97]⟩ = [] ∧ Ans.answer D ⟨#[97]⟩ = Nm.mk Ans.noWorld := fun h => by
    have h1 : Ld.load D ⟨#[97]⟩ = (-1, Ld.St.start) := by unfold Ld.load; rw [if_pos h]
    refine ⟨h1, by unfold Gr.edges; rw [if_pos h], by unfold Gr.order; rw [if_pos h], ?_⟩
    unfold Ans.answer Ans.text
    rw [h1, if_pos rfl]
  have hfb := Ans.fine_bad D ⟨#[97]⟩
  have hlz : ∀ (W : World), WIn W (fun b => w.heap.size ≤ b) (.slice A1 D.roots.length c1) (.slice A2 D.mods.length c2) (.slice A3 D.faults.length c3) D → ML W → Calls Tryz.prog 9 #[.agg #[.slice A1 D.roots.length c1, .slice A2 D.mods.length c2, .slice A3 D.faults.length c3], .string ⟨#[97]⟩] W (RetRep W (Ld.load D ⟨#[97]⟩)) := fun W hi hml => iLoad_calls D _ _ _ _ W hi hsz hml ⟨#[97]⟩ (by decide)
  have hslz : ∀ (W : World), WIn W (fun b => w.heap.size ≤ b) (.slice A1 D.roots.length c1) (.slice A2 D.mods.length c2) (.slice A3 D.faults.length c3) D → Calls Tryz.prog 8 #[.agg #[.slice A1 D.roots.length c1, .slice A2 D.mods.length c2, .slice A3 D.faults.length c3], .string ⟨#[97]⟩] W (RetRep W (Ld.load D ⟨#[97]⟩)) := fun W hi => sLoad_calls D _ _ _ _ W hi hsz ⟨#[97]⟩ (by decide)
  obtain ⟨f1, f2, f3, hq⟩ : ∃ f1 f2 f3, Wd.worldOk D = (f1, f2, f3) := ⟨_, _, _, rfl⟩
  rw [hq] at hiw hsw hbad hfb
  replace hbad : f1 ≠ 0 → Ld.load D ⟨#[97]⟩ = (-1, Ld.St.start) ∧ Gr.edges D = [] ∧ Gr.order D ⟨#[97]⟩ = [] ∧ Ans.answer D ⟨#[97]⟩ = Nm.mk Ans.noWorld := hbad
  replace hfb : f1 ≠ 0 → Ans.Fine (Ld.load D ⟨#[97]⟩) := hfb
  have HIW := hide hiw
  have HSW := hide hsw
  have HBAD := hide hbad
  have HFB := hide hfb
  have HLZ := hide hlz
  have HSLZ := hide hslz
  clear hiw hsw hq hbad hfb hlz hslz hin1 hb1 hbA hnA
  go_wp2_with fail
  refine HIW.out.mono ?_
  rintro e w3 ⟨rfl, hb3⟩
  have B3 := below_then B2 B2.size hb3
  have hin3 := hin2.below hb3
  have hA3 := (hb3.block _ hzA).trans HA.out
  clear HIW hin2 k0 k1 k2 HA
  dsimp only
  have hbF : Below w3.heap.size w3 (w3.alloc (Obj.cells #[.int .i64 f1, .int .i64 f2, .int .i64 f3] 52)) := by (repeat (first | with_reducible exact Below.refl _ _ | with_reducible assumption | with_reducible refine Below.alloc ?_ (by first | exact Nat.le_refl _ | exact Below.size (by assumption) | exact Nat.le_trans (Below.size (by assumption)) (by simp; done) | (simp; done) | (simp; omega) | omega) _ | with_reducible refine below_drewN ?_ _ | with_reducible refine Below.drew ?_ | with_reducible refine Below.setCell ?_ (by first | exact Nat.le_refl _ | (simp; done) | (simp; omega) | omega) _))
  have hnF := heap_alloc_new w3 (Obj.cells #[.int .i64 f1, .int .i64 f2, .int .i64 f3] 52)
  have hzF : w3.heap.size < (w3.alloc (Obj.cells #[.int .i64 f1, .int .i64 f2, .int .i64 f3] 52)).heap.size := by simp
  have hz3 := hb3.size
  go_upto_region 5 with fail
  generalize w3.alloc (Obj.cells #[.int .i64 f1, .int .i64 f2, .int .i64 f3] 52) = W4 at hbF hnF hzF ⊢
  have B4 := below_then B3 B3.size hbF
  have hin4 := hin3.below hbF
  have hA4 := (hbF.block _ (by omega)).trans hA3
  have k0 : W4.cell? ⟨w1.heap.size, 0, none⟩ = some (.slice A1 D.roots.length c1) := blk_cell hA4 0
  have k1 : W4.cell? ⟨w1.heap.size, 1, none⟩ = some (.slice A2 D.mods.length c2) := blk_cell hA4 1
  have k2 : W4.cell? ⟨w1.heap.size, 2, none⟩ = some (.slice A3 D.faults.length c3) := blk_cell hA4 2
  have m0 : W4.cell? ⟨w3.heap.size, 0, none⟩ = some (.int .i64 f1) := blk_cell hnF 0
  have m1 : W4.cell? ⟨w3.heap.size, 1, none⟩ = some (.int .i64 f2) := blk_cell hnF 1
  have m2 : W4.cell? ⟨w3.heap.size, 2, none⟩ = some (.int .i64 f3) := blk_cell hnF 2
  have HA4 := hide hA4
  have HF4 := hide hnF
  have hne := wrong_same f1 f2 f3
  have hz1W : w1.heap.size < W4.heap.size := by have := hbF.size; omega
  clear hin3 hA3 hA4 hbF hnF hb3
  refine wp_region_held_drew (S := fun w' => (w'.cell? ⟨w1.heap.size, 0, none⟩ = some (.slice A1 D.roots.length c1) ∧ w'.cell? ⟨w1.heap.size, 1, none⟩ = some (.slice A2 D.mods.length c2) ∧ w'.cell? ⟨w1.heap.size, 2, none⟩ = some (.slice A3 D.faults.length c3)) ∧ w'.cell? ⟨w3.heap.size, 0, none⟩ = some (.int .i64 f1) ∧ w'.cell? ⟨w3.heap.size, 1, none⟩ = some (.int .i64 f2) ∧ w'.cell? ⟨w3.heap.size, 2, none⟩ = some (.int .i64 f3)) (by kernel_rfl) ⟨⟨k0, k1, k2⟩, m0, m1, m2⟩ (fun hHeld => ?_)
  (refine wpAnyH_take (i := 0) (oi := ⟨some 13, _, _, _, _, _⟩) (v := .agg #[.int .i64 f1, .int .i64 f2, .int .i64 f3]) rfl (by kernel_rfl) (by kernel_rfl) (by kernel_rfl) (fun _ _ _ h => h) (Or.inl ⟨by rfl, ?_⟩) (by assumption) ?_; (focus (intro w hSw; (try dsimp only at hSw); go_simp; done)); try simp only [Act.put, List.setIfInBounds_toArray, List.set_cons_zero, List.set_cons_succ])
  (refine wpAnyH_take (i := 1) (oi := ⟨some 14, _, _, _, _, _⟩) (v := .agg #[.slice A1 D.roots.length c1, .slice A2 D.mods.length c2, .slice A3 D.faults.length c3]) rfl (by kernel_rfl) (by kernel_rfl) (by kernel_rfl) (fun _ _ _ h => h) (Or.inl ⟨by rfl, ?_⟩) (by assumption) ?_; (focus (intro w hSw; (try dsimp only at hSw); go_simp; done)); try simp only [Act.put, List.setIfInBounds_toArray, List.set_cons_zero, List.set_cons_succ])
  refine wpAnyH_ready (rs := [2]) (by kernel_rfl) (by simp) ?_
  refine AllReadyH.cons (o := ⟨some 15, _, _, _, _, _⟩) rfl (fun K hK => ?_) AllReadyH.nil
  go_simp
  refine (HSW.out W4.drew (hin4.below (Below.drew (Below.refl _ _)))).mono ?_
  rintro e w5 ⟨rfl, hb5⟩
  have hb45 : Below W4.heap.size W4 w5 := ⟨hb5.os, hb5.tape, hb5.output, hb5.size, hb5.block⟩
  have B5 := below_then B4 B4.size hb45
  have hin5 := hin4.below hb45
  have hA5 := hide ((hb45.block _ hz1W).trans HA4.out)
  have hF5 := hide ((hb45.block _ hzF).trans HF4.out)
  have hz5 := hb45.size
  refine hK.out _ _ ⟨⟨blk_cell hA5.out 0, blk_cell hA5.out 1, blk_cell hA5.out 2⟩, blk_cell hF5.out 0, blk_cell hF5.out 1, blk_cell hF5.out 2⟩ (fun hHeld => ?_)
  clear hK K
  try simp only [Act.put, List.setIfInBounds_toArray, List.set_cons_zero, List.set_cons_succ]
  (refine wpAnyH_take (i := 3) (oi := ⟨some 16, _, _, _, _, _⟩) (v := .bool false) rfl (by kernel_rfl) (by kernel_rfl) (by kernel_rfl) (fun _ _ _ h => h) (Or.inl ⟨by rfl, ?_⟩) (by assumption) ?_; (focus (intro w hSw; (try dsimp only at hSw); go_simp; done)); try simp only [Act.put, List.setIfInBounds_toArray, List.set_cons_zero, List.set_cons_succ])
  refine wpAnyH_done (by kernel_rfl) ?_ _
  clear hHeld hb5 hb45 hin4 HA4 HF4 k0 k1 k2 m0 m1 m2 hne HSW B4
  have k0 : w5.cell? ⟨w1.heap.size, 0, none⟩ = some (.slice A1 D.roots.length c1) := blk_cell hA5.out 0
  have k1 : w5.cell? ⟨w1.heap.size, 1, none⟩ = some (.slice A2 D.mods.length c2) := blk_cell hA5.out 1
  have k2 : w5.cell? ⟨w1.heap.size, 2, none⟩ = some (.slice A3 D.faults.length c3) := blk_cell hA5.out 2
  have hz1W5 : w1.heap.size < w5.heap.size := by omega
  have hzF5 : w3.heap.size < w5.heap.size := by omega
  go_wp2_with fail
  refine (HLZ.out w5 hin5 (HM.out.below B5)).mono ?_
  by_cases hf : f1 = 0
  · subst hf
    obtain ⟨c, s, hq⟩ : ∃ c s, Ld.load D ⟨#[97]⟩ = (c, s) := ⟨_, _, rfl⟩
    rw [hq] at HSLZ ⊢
    clear hq HBAD HFB HLZ
    rintro e w6 ⟨vc, vs, vr, rfl, hrep, hb6⟩
    have HRG := hrep.rg
    obtain ⟨⟨P1, p1, hp1, _, _, _⟩, ⟨P2, p2, hp2, _, _, _⟩, ⟨P3, p3, hp3, _, _, _⟩⟩ := hrep.rg
    subst hp1 hp2 hp3
    have B6 := below_then B5 B5.size hb6
    have hin6 := hin5.below hb6
    have hA6 := (hb6.block _ hz1W5).trans hA5.out
    have hF6 := (hb6.block _ hzF5).trans hF5.out
    have hz6 := hb6.size
    clear hrep hb6 hin5 hA5 hF5 k0 k1 k2
    dsimp only
    have hbG : Below w6.heap.size w6 (w6.alloc (Obj.cells #[.int .i64 c, .slice P1 s.recs.length p1, .slice P2 s.states.length p2, .int .i64 s.reads, .slice P3 s.rings.length p3] 34)) := by (repeat (first | with_reducible exact Below.refl _ _ | with_reducible assumption | with_reducible refine Below.alloc ?_ (by first | exact Nat.le_refl _ | exact Below.size (by assumption) | exact Nat.le_trans (Below.size (by assumption)) (by simp; done) | (simp; done) | (simp; omega) | omega) _ | with_reducible refine below_drewN ?_ _ | with_reducible refine Below.drew ?_ | with_reducible refine Below.setCell ?_ (by first | exact Nat.le_refl _ | (simp; done) | (simp; omega) | omega) _))
    have hnG := heap_alloc_new w6 (Obj.cells #[.int .i64 c, .slice P1 s.recs.length p1, .slice P2 s.states.length p2, .int .i64 s.reads, .slice P3 s.rings.length p3] 34)
    have hzG : w6.heap.size < (w6.alloc (Obj.cells #[.int .i64 c, .slice P1 s.recs.length p1, .slice P2 s.states.length p2, .int .i64 s.reads, .slice P3 s.rings.length p3] 34)).heap.size := by simp
    go_upto_region 8 with fail
    generalize w6.alloc (Obj.cells #[.int .i64 c, .slice P1 s.recs.length p1, .slice P2 s.states.length p2, .int .i64 s.reads, .slice P3 s.rings.length p3] 34) = W7 at hbG hnG hzG ⊢
    have B7 := below_then B6 B6.size hbG
    have hin7 := hin6.below hbG
    have HR7 := HRG.below hbG
    have hA7 := hide ((hbG.block _ (by omega)).trans hA6)
    have hF7 := (hbG.block _ (by omega)).trans hF6
    have m0 : W7.cell? ⟨w3.heap.size, 0, none⟩ = some (.int .i64 0) := blk_cell hF7 0
    have hG7 := hide hnG
    have hz7 := hbG.size
    have hz17 : w1.heap.size < W7.heap.size := by omega
    clear HRG hin6 hA6 hF6 hbG hnG hF7
    go_upto_region 9 with fail
    clear m0
    have k0 : W7.cell? ⟨w1.heap.size, 0, none⟩ = some (.slice A1 D.roots.length c1) := blk_cell hA7.out 0
    have k1 : W7.cell? ⟨w1.heap.size, 1, none⟩ = some (.slice A2 D.mods.length c2) := blk_cell hA7.out 1
    have k2 : W7.cell? ⟨w1.heap.size, 2, none⟩ = some (.slice A3 D.faults.length c3) := blk_cell hA7.out 2
    have n0 : W7.cell? ⟨w6.heap.size, 0, none⟩ = some _ := blk_cell hG7.out 0
    have n1 : W7.cell? ⟨w6.heap.size, 1, none⟩ = some _ := blk_cell hG7.out 1
    have n2 : W7.cell? ⟨w6.heap.size, 2, none⟩ = some _ := blk_cell hG7.out 2
    have n3 : W7.cell? ⟨w6.heap.size, 3, none⟩ = some _ := blk_cell hG7.out 3
    have n4 : W7.cell? ⟨w6.heap.size, 4, none⟩ = some _ := blk_cell hG7.out 4
    refine wp_region_held_drew (S := fun w' => (w'.cell? ⟨w1.heap.size, 0, none⟩ = some (.slice A1 D.roots.length c1) ∧ w'.cell? ⟨w1.heap.size, 1, none⟩ = some (.slice A2 D.mods.length c2) ∧ w'.cell? ⟨w1.heap.size, 2, none⟩ = some (.slice A3 D.faults.length c3)) ∧ w'.cell? ⟨w6.heap.size, 0, none⟩ = some (.int .i64 c) ∧ w'.cell? ⟨w6.heap.size, 1, none⟩ = some (.slice P1 s.recs.length p1) ∧ w'.cell? ⟨w6.heap.size, 2, none⟩ = some (.slice P2 s.states.length p2) ∧ w'.cell? ⟨w6.heap.size, 3, none⟩ = some (.int .i64 s.reads) ∧ w'.cell? ⟨w6.heap.size, 4, none⟩ = some (.slice P3 s.rings.length p3)) (by kernel_rfl) ⟨⟨k0, k1, k2⟩, n0, n1, n2, n3, n4⟩ (fun hHeld => ?_)
    (refine wpAnyH_take (i := 0) (oi := ⟨some 22, _, _, _, _, _⟩) (v := .agg #[.int .i64 c, .slice P1 s.recs.length p1, .slice P2 s.states.length p2, .int .i64 s.reads, .slice P3 s.rings.length p3]) rfl (by kernel_rfl) (by kernel_rfl) (by kernel_rfl) (fun _ _ _ h => h) (Or.inl ⟨by rfl, ?_⟩) (by assumption) ?_; (focus (intro w hSw; (try dsimp only at hSw); go_simp; done)); try simp only [Act.put, List.setIfInBounds_toArray, List.set_cons_zero, List.set_cons_succ])
    (refine wpAnyH_take (i := 1) (oi := ⟨some 23, _, _, _, _, _⟩) (v := .agg #[.slice A1 D.roots.length c1, .slice A2 D.mods.length c2, .slice A3 D.faults.length c3]) rfl (by kernel_rfl) (by kernel_rfl) (by kernel_rfl) (fun _ _ _ h => h) (Or.inl ⟨by rfl, ?_⟩) (by assumption) ?_; (focus (intro w hSw; (try dsimp only at hSw); go_simp; done)); try simp only [Act.put, List.setIfInBounds_toArray, List.set_cons_zero, List.set_cons_succ])
    refine wpAnyH_ready (rs := [2]) (by kernel_rfl) (by simp) ?_
    refine AllReadyH.cons (o := ⟨some 24, _, _, _, _, _⟩) rfl (fun K hK => ?_) AllReadyH.nil
    go_simp
    refine (HSLZ.out W7.drew (hin7.below (Below.drew (Below.refl _ _)))).mono ?_
    rintro e w8 ⟨uc, us, ur, rfl, hrep2, hb8⟩
    have hb78 : Below W7.heap.size W7 w8 := ⟨hb8.os, hb8.tape, hb8.output, hb8.size, hb8.block⟩
    have B8 := below_then B7 B7.size hb78
    have hA8 := hide ((hb78.block _ hz17).trans hA7.out)
    have hG8 := hide ((hb78.block _ hzG).trans hG7.out)
    have HR8 := HR7.below hb78
    have HS8 := hrep2.rg
    have hz8 := hb78.size
    clear hrep2 hb8 HSLZ
    refine hK.out _ _ ⟨⟨blk_cell hA8.out 0, blk_cell hA8.out 1, blk_cell hA8.out 2⟩, blk_cell hG8.out 0, blk_cell hG8.out 1, blk_cell hG8.out 2, blk_cell hG8.out 3, blk_cell hG8.out 4⟩ (fun hHeld => ?_)
    clear hK K
    try simp only [Act.put, List.setIfInBounds_toArray, List.set_cons_zero, List.set_cons_succ]
    refine wpAnyH_ready (rs := [3]) (by kernel_rfl) (by simp) ?_
    refine AllReadyH.cons (o := ⟨some 25, _, _, _, _, _⟩) rfl (fun K hK => ?_) AllReadyH.nil
    go_simp
    refine (wReport_same c s.reads s _ _ _ _ _ _ _ _ w8 HR8 HS8).mono ?_
    rintro e w9 ⟨rfl, hb9⟩
    have B9 := below_then B8 B8.size hb9
    have hA9 := hide ((hb9.block _ (by omega)).trans hA8.out)
    have hG9 := hide ((hb9.block _ (by omega)).trans hG8.out)
    refine hK.out _ _ ⟨⟨blk_cell hA9.out 0, blk_cell hA9.out 1, blk_cell hA9.out 2⟩, blk_cell hG9.out 0, blk_cell hG9.out 1, blk_cell hG9.out 2, blk_cell hG9.out 3, blk_cell hG9.out 4⟩ (fun hHeld => ?_)
    clear hK K
    try simp only [Act.put, List.setIfInBounds_toArray, List.set_cons_zero, List.set_cons_succ]
    (refine wpAnyH_take (i := 4) (oi := ⟨some 2, _, _, _, _, _⟩) (v := .bool true) rfl (by kernel_rfl) (by kernel_rfl) (by kernel_rfl) (fun _ _ _ h => h) (Or.inl ⟨by rfl, ?_⟩) (by assumption) ?_; (focus (intro w hSw; (try dsimp only at hSw); go_simp; done)); try simp only [Act.put, List.setIfInBounds_toArray, List.set_cons_zero, List.set_cons_succ])
    refine wpAnyH_done (by kernel_rfl) ?_ _
    clear hHeld
    go_wp2_with fail
    go_ret
    exact ⟨rfl, B9⟩
  · obtain ⟨hb1', hb2', hb3', hb4'⟩ := HBAD.out hf
    have hfine := HFB.out hf
    have hed : ∀ (W : World), WIn W (fun b => w.heap.size ≤ b) (.slice A1 D.roots.length c1) (.slice A2 D.mods.length c2) (.slice A3 D.faults.length c3) D → ML W → Calls Tryz.prog 23 #[.agg #[.slice A1 D.roots.length c1, .slice A2 D.mods.length c2, .slice A3 D.faults.length c3]] W (RetOwn fEdge W 111 (Gr.edges D)) := fun W hi hml => iEdges_calls D _ _ _ _ W hi hsz hml
    have hor : ∀ (W : World), WIn W (fun b => w.heap.size ≤ b) (.slice A1 D.roots.length c1) (.slice A2 D.mods.length c2) (.slice A3 D.faults.length c3) D → ML W → Calls Tryz.prog 24 #[.agg #[.slice A1 D.roots.length c1, .slice A2 D.mods.length c2, .slice A3 D.faults.length c3], .string ⟨#[97]⟩] W (RetOwn fStr W 9 (Gr.order D ⟨#[97]⟩)) := fun W hi hml => iOrder_calls D _ _ _ _ W hi hsz hml ⟨#[97]⟩ (by decide)
    have han : ∀ (W : World), WIn W (fun b => w.heap.size ≤ b) (.slice A1 D.roots.length c1) (.slice A2 D.mods.length c2) (.slice A3 D.faults.length c3) D → ML W → Tabs W → Calls Tryz.prog 11 #[.agg #[.slice A1 D.roots.length c1, .slice A2 D.mods.length c2, .slice A3 D.faults.length c3], .string ⟨#[97]⟩] W fun e w' => e = .returned (.string (Ans.answer D ⟨#[97]⟩)) ∧ Below W.heap.size W w' := fun W hi hml ht => iAnswer_calls D _ _ _ _ W hi hsz hml ht ⟨#[97]⟩ (by decide) hfine
    rw [hb2'] at hed
    rw [hb3'] at hor
    rw [hb4'] at han
    rw [hb1']
    have HED := hide hed
    have HOR := hide hor
    have HAN := hide han
    have hfb : (f1 == 0) = false := beq_eq_false_iff_ne.2 hf
    clear hb1' hb2' hb3' hb4' hed hor han hfine HBAD HFB HLZ HSLZ hf
    refine fun e w6 hret => ?_
    obtain ⟨P1, p1, P2, p2, P3, p3, rfl, HRG, hb6⟩ := ret_bad hret
    have B6 := below_then B5 B5.size hb6
    have hin6 := hin5.below hb6
    have hA6 := (hb6.block _ hz1W5).trans hA5.out
    have hF6 := (hb6.block _ hzF5).trans hF5.out
    have hz6 := hb6.size
    clear hret hb6 hin5 hA5 hF5 k0 k1 k2
    dsimp only
    have hbG : Below w6.heap.size w6 (w6.alloc (Obj.cells #[.int .i64 (-1), .slice P1 0 p1, .slice P2 0 p2, .int .i64 0, .slice P3 0 p3] 34)) := by (repeat (first | with_reducible exact Below.refl _ _ | with_reducible assumption | with_reducible refine Below.alloc ?_ (by first | exact Nat.le_refl _ | exact Below.size (by assumption) | exact Nat.le_trans (Below.size (by assumption)) (by simp; done) | (simp; done) | (simp; omega) | omega) _ | with_reducible refine below_drewN ?_ _ | with_reducible refine Below.drew ?_ | with_reducible refine Below.setCell ?_ (by first | exact Nat.le_refl _ | (simp; done) | (simp; omega) | omega) _))
    have hnG := heap_alloc_new w6 (Obj.cells #[.int .i64 (-1), .slice P1 0 p1, .slice P2 0 p2, .int .i64 0, .slice P3 0 p3] 34)
    have hzG : w6.heap.size < (w6.alloc (Obj.cells #[.int .i64 (-1), .slice P1 0 p1, .slice P2 0 p2, .int .i64 0, .slice P3 0 p3] 34)).heap.size := by simp
    go_upto_region 8 with fail
    generalize w6.alloc (Obj.cells #[.int .i64 (-1), .slice P1 0 p1, .slice P2 0 p2, .int .i64 0, .slice P3 0 p3] 34) = W7 at hbG hnG hzG ⊢
    have B7 := below_then B6 B6.size hbG
    have hin7 := hin6.below hbG
    have HR7 := HRG.below hbG
    have hA7 := hide ((hbG.block _ (by omega)).trans hA6)
    have hF7 := (hbG.block _ (by omega)).trans hF6
    have m0 : W7.cell? ⟨w3.heap.size, 0, none⟩ = some (.int .i64 f1) := blk_cell hF7 0
    have n0 : W7.cell? ⟨w6.heap.size, 0, none⟩ = some (.int .i64 (-1)) := blk_cell hnG 0
    have n1 : W7.cell? ⟨w6.heap.size, 1, none⟩ = some (.slice P1 0 p1) := blk_cell hnG 1
    have n2 : W7.cell? ⟨w6.heap.size, 2, none⟩ = some (.slice P2 0 p2) := blk_cell hnG 2
    have n3 : W7.cell? ⟨w6.heap.size, 3, none⟩ = some (.int .i64 0) := blk_cell hnG 3
    have n4 : W7.cell? ⟨w6.heap.size, 4, none⟩ = some (.slice P3 0 p3) := blk_cell hnG 4
    have hz7 := hbG.size
    have hz17 : w1.heap.size < W7.heap.size := by omega
    have hst : RepRg W7 (fun b => b < W7.heap.size) (.slice none 0 0) (.slice none 0 0) (.slice none 0 0) Ld.St.start := ⟨⟨none, 0, rfl, Nat.le_refl _, Nat.zero_le _, Sl.nil⟩, ⟨none, 0, rfl, Nat.le_refl _, Nat.zero_le _, Sl.nil⟩, ⟨none, 0, rfl, Nat.le_refl _, Nat.zero_le _, Sl.nil⟩⟩
    clear HRG hin6 hA6 hF6 hbG hnG hF7
    go_upto_region 10 with fail
    go_wp2_with fail
    refine (wReport_same (-1) 0 Ld.St.start _ _ _ _ _ _ _ _ W7 HR7 hst).mono ?_
    rintro e w8 ⟨rfl, hb8⟩
    have B8 := below_then B7 B7.size hb8
    have hin8 := hin7.below hb8
    have hA8 := hide ((hb8.block _ hz17).trans hA7.out)
    have hz18 : w1.heap.size < w8.heap.size := Nat.lt_of_lt_of_le hz17 hb8.size
    clear hst HR7 hin7 hb8 m0 n0 n1 n2 n3 n4 hA7
    have k0 : w8.cell? ⟨w1.heap.size, 0, none⟩ = some (.slice A1 D.roots.length c1) := blk_cell hA8.out 0
    have k1 : w8.cell? ⟨w1.heap.size, 1, none⟩ = some (.slice A2 D.mods.length c2) := blk_cell hA8.out 1
    have k2 : w8.cell? ⟨w1.heap.size, 2, none⟩ = some (.slice A3 D.faults.length c3) := blk_cell hA8.out 2
    go_wp2_with fail
    refine (HAN.out w8 hin8 (HM.out.below B8) (HTB.out.below B8)).mono ?_
    rintro e w9 ⟨rfl, hb9⟩
    have B9 := below_then B8 B8.size hb9
    have hin9 := hin8.below hb9
    have hA9 := hide ((hb9.block _ hz18).trans hA8.out)
    have hz19 : w1.heap.size < w9.heap.size := Nat.lt_of_lt_of_le hz18 hb9.size
    have hql : ((Nm.mk Ans.noWorld).toList == [110, 111, 32, 119, 111, 114, 108, 100, 10]) = true := tl_t (l := [110, 111, 32, 119, 111, 114, 108, 100, 10]) rfl
    clear hin8 hb9 hA8 k0 k1 k2
    have k0 : w9.cell? ⟨w1.heap.size, 0, none⟩ = some (.slice A1 D.roots.length c1) := blk_cell hA9.out 0
    have k1 : w9.cell? ⟨w1.heap.size, 1, none⟩ = some (.slice A2 D.mods.length c2) := blk_cell hA9.out 1
    have k2 : w9.cell? ⟨w1.heap.size, 2, none⟩ = some (.slice A3 D.faults.length c3) := blk_cell hA9.out 2
    generalize Nm.mk Ans.noWorld = nw at hql ⊢
    go_wp2_with fail
    refine (HED.out w9 hin9 (HM.out.below B9)).mono ?_
    rintro e w10 ⟨v10, rfl, ho10, hb10⟩
    obtain ⟨E1, e1, hv10, _, _, _⟩ := ho10.slV
    subst hv10
    have B10 := below_then B9 B9.size hb10
    have hin10 := hin9.below hb10
    have hA10 := hide ((hb10.block _ hz19).trans hA9.out)
    clear hin9 hb10 hA9 k0 k1 k2 ho10 hql
    have k0 : w10.cell? ⟨w1.heap.size, 0, none⟩ = some (.slice A1 D.roots.length c1) := blk_cell hA10.out 0
    have k1 : w10.cell? ⟨w1.heap.size, 1, none⟩ = some (.slice A2 D.mods.length c2) := blk_cell hA10.out 1
    have k2 : w10.cell? ⟨w1.heap.size, 2, none⟩ = some (.slice A3 D.faults.length c3) := blk_cell hA10.out 2
    simp only [List.length_nil]
    go_wp2_with fail
    refine (HOR.out w10 hin10 (HM.out.below B10)).mono ?_
    rintro e w11 ⟨v11, rfl, ho11, hb11⟩
    obtain ⟨O1, o1, hv11, _, _, _⟩ := ho11.slV
    subst hv11
    have B11 := below_then B10 B10.size hb11
    clear hb11 ho11 hA10 k0 k1 k2 hin10
    simp only [List.length_nil]
    go_wp2_with fail
    go_ret
    exact ⟨rfl, B11⟩
end Go.Proofs.YtkhlicmlnjccdaaGreatDoor
