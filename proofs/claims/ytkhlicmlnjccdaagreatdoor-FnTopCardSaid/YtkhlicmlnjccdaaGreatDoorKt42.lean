/-
  FnTop: the walk.
-/
import Derived.Test.YtkhlicmlnjccdaaGreatDoorKt34
import Derived.Test.YtkhlicmlnjccdaaGreatDoorKt41
import Derived.Test.YtkhlicmlnjccdaaGreatDoorKt40
import Derived.Test.YtkhlicmlnjccdaaGreatDoorKt39
import Derived.Test.YtkhlicmlnjccdaaGreatDoorKt18
import Derived.Deep.RegionHeld3
namespace Go.Proofs.YtkhlicmlnjccdaaGreatDoor
open Go.RowKit Mem
namespace Mem
/-- rows of another type have changed -/
theorem OwnR.apart2 {w w' : World} {B base sz n : Nat} {K : Nat → Prop} {v u : Value} {e : TypeId} {cs : List Value} {rings : List (List Str)} (h : OwnR w B K v rings) (hg : w.grownBy w' u.ownBlock) (ho : w.ownsRow base e sz u n cs) (h1 : 23 ≠ e) (h2 : 9 ≠ e) : OwnR w' B K v rings := by
  obtain ⟨hs, r1, r2, r3⟩ := h
  refine ⟨hs, r1.kept hg (apart_ty r1 ho h1), fun i x hi => ?_, r3⟩
  obtain ⟨a, ha, hoa, hk⟩ := r2 i x hi
  exact ⟨a, ha, hoa.kept hg (apart_ty hoa ho h2), hk⟩
/-- one record is written over -/
theorem rec_over {w : World} {B g c n : Nat} {xs : List RecD} (h : Own fRec w B 39 (.slice (some ⟨g, 0, none⟩) n c) xs) (hn : xs.length = n) (k : Nat) :
    ∃ ys : List RecD, ys.length = n ∧ Own fRec ((((w.setCell ⟨g, k * 4, none⟩ (.int .i64 77)).setCell ⟨g, k * 4 + 1, none⟩ (.string ⟨#[]⟩)).setCell ⟨g, k * 4 + 2, none⟩ (.int .i64 0)).setCell ⟨g, k * 4 + 3, none⟩ (.int .i64 0)) B 39 (.slice (some ⟨g, 0, none⟩) n c) ys := by
  rcases Nat.lt_or_ge k xs.length with hk | hk
  · have h0 := List.getElem?_eq_getElem hk
    generalize xs[k] = x at h0
    have a1 := h.store hn k 0 ⟨77, x.name, x.code, x.num⟩ (.int .i64 77) (by show 0 < 4; omega) (fun y hy => by rw [h0] at hy; obtain rfl := Option.some.inj hy; rfl)
    have l1 : (xs.set k ⟨77, x.name, x.code, x.num⟩).length = n := by rw [List.length_set, hn]
    have g1 : (xs.set k ⟨77, x.name, x.code, x.num⟩)[k]? = some ⟨77, x.name, x.code, x.num⟩ := List.getElem?_set_self hk
    have a2 := Own.store a1 l1 k 1 ⟨77, ⟨#[]⟩, x.code, x.num⟩ (.string ⟨#[]⟩) (by show 1 < 4; omega) (fun y hy => by rw [g1] at hy; obtain rfl := Option.some.inj hy; rfl)
    rw [List.set_set] at a2
    have l2 : (xs.set k ⟨77, ⟨#[]⟩, x.code, x.num⟩).length = n := by rw [List.length_set, hn]
    have g2 : (xs.set k ⟨77, ⟨#[]⟩, x.code, x.num⟩)[k]? = some ⟨77, ⟨#[]⟩, x.code, x.num⟩ := List.getElem?_set_self hk
    have a3 := Own.store a2 l2 k 2 ⟨77, ⟨#[]⟩, 0, x.num⟩ (.int .i64 0) (by show 2 < 4; omega) (fun y hy => by rw [g2] at hy; obtain rfl := Option.some.inj hy; rfl)
    rw [List.set_set] at a3
    have l3 : (xs.set k ⟨77, ⟨#[]⟩, 0, x.num⟩).length = n := by rw [List.length_set, hn]
    have g3 : (xs.set k ⟨77, ⟨#[]⟩, 0, x.num⟩)[k]? = some ⟨77, ⟨#[]⟩, 0, x.num⟩ := List.getElem?_set_self hk
    have a4 := Own.store a3 l3 k 3 ⟨77, ⟨#[]⟩, 0, 0⟩ (.int .i64 0) (by show 3 < 4; omega) (fun y hy => by rw [g3] at hy; obtain rfl := Option.some.inj hy; rfl)
    rw [List.set_set] at a4
    exact ⟨_, by rw [List.length_set, hn], a4⟩
  · have hx : ∀ (W : World) (ys : List RecD), Own fRec W B 39 (.slice (some ⟨g, 0, none⟩) n c) ys → ys.length = n → ∀ (j : Nat) (u : Value), j < 4 → Own fRec (W.setCell ⟨g, k * 4 + j, none⟩ u) B 39 (.slice (some ⟨g, 0, none⟩) n c) ys := fun W ys ho hl j u hj => by
      have := Own.store ho hl k j ⟨0, ⟨#[]⟩, 0, 0⟩ u hj (fun y hy => by rw [List.getElem?_eq_none (by omega)] at hy; cases hy)
      rwa [List.set_eq_of_length_le (by omega)] at this
    exact ⟨xs, hn, hx _ _ (hx _ _ (hx _ _ (hx _ _ h hn 0 _ (by omega)) hn 1 _ (by omega)) hn 2 _ (by omega)) hn 3 _ (by omega)⟩
theorem keep_cell {W1 W2 : World} {a : Addr} {v : Value} (h : W1.cell? a = some v) (hb : Below W1.heap.size W1 W2) : W2.cell? a = some v := (hb.cell (World.block_lt_of_cell? _ _ h)).trans h
theorem grown_four (w : World) (g a b c d : Nat) (u v x y : Value) : w.grownBy ((((w.setCell ⟨g, a, none⟩ u).setCell ⟨g, b, none⟩ v).setCell ⟨g, c, none⟩ x).setCell ⟨g, d, none⟩ y) (some g) :=
  World.grownBy.trans (World.grownBy.trans (World.grownBy.trans (grown_set w g a u) (grown_set _ g b v)) (grown_set _ g c x)) (grown_set _ g d y)
end Mem

set_option maxRecDepth 100000 in
set_option maxHeartbeats 4000000 in
theorem top_calls (A : Option Addr) (cp nn : Nat) (code : List Int) (S : Nat → Prop) (w : World) (h : Sl kU8 w S A code) (hn : code.length = nn) (hs : ∀ x ∈ code, 0 ≤ x ∧ x ≤ 255) (hl : nn ≤ maxLen) (hm : ML w) (htab : Tabs w) :
    Calls Tryz.prog 3 #[.slice A nn cp] w fun e w' => e = .returned (.bool true) ∧ Below w.heap.size w w' := by
  unfold maxLen at hl
  by_cases hbig : 1048576 < nn
  · go_enter Tryz.func3, Tryz.ntmps3
    go_wp2_with fail
    go_ret
    exact ⟨rfl, by (repeat (first | with_reducible exact Below.refl _ _ | with_reducible assumption | with_reducible refine Below.alloc ?_ (by first | exact Nat.le_refl _ | exact Below.size (by assumption) | exact Nat.le_trans (Below.size (by assumption)) (by simp; done) | (simp; done) | (simp; omega) | omega) _ | with_reducible refine below_drewN ?_ _ | with_reducible refine Below.drew ?_ | with_reducible refine Below.setCell ?_ (by first | exact Nat.le_refl _ | (simp; done) | (simp; omega) | omega) _))⟩
  have hdr := fun (W : World) (hW : Sl kU8 W S A code) => drawnE_calls A cp nn code S W hW hn hs (by omega)
  obtain ⟨D, nm, hq⟩ : ∃ D nm, DP.made code = (D, nm) := ⟨_, _, rfl⟩
  rw [hq] at hdr
  have HD := hide hdr
  have HM := hide hm
  have HTB := hide htab
  have HC := hide h
  clear hdr h hn hs hm htab hq
  go_enter Tryz.func3, Tryz.ntmps3
  go_wp2_with fail
  refine (HD.out w HC.out).mono ?_
  rintro e w1 ⟨vR, vM, vF, rfl, hin1, hsz, hnm, hnum, hb1⟩
  replace hin1 : WIn w1 (fun b => w.heap.size ≤ b) vR vM vF D := hin1
  replace hsz : WSz D := hsz
  replace hnm : nm.size ≤ 1048576 := hnm
  have hfine := Ans.fine_of D nm (fun m hm l hl => by
    have h1 : 0 ≤ l.num ∧ l.num ≤ 1000 := hnum m hm l hl
    exact ⟨by omega, by omega⟩)
  clear hnum
  obtain ⟨⟨A1, c1, hv1, _, _, _⟩, ⟨A2, c2, hv2, _, _, _⟩, ⟨A3, c3, hv3, _, _, _⟩⟩ := id hin1
  subst hv1 hv2 hv3
  have hbA : Below w1.heap.size w1 (w1.alloc (Obj.cells #[.slice A1 D.roots.length c1, .slice A2 D.mods.length c2, .slice A3 D.faults.length c3] 27)) := by (repeat (first | with_reducible exact Below.refl _ _ | with_reducible assumption | with_reducible refine Below.alloc ?_ (by first | exact Nat.le_refl _ | exact Below.size (by assumption) | exact Nat.le_trans (Below.size (by assumption)) (by simp; done) | (simp; done) | (simp; omega) | omega) _ | with_reducible refine below_drewN ?_ _ | with_reducible refine Below.drew ?_ | with_reducible refine Below.setCell ?_ (by first | exact Nat.le_refl _ | (simp; done) | (simp; omega) | omega) _))
  have hnA := heap_alloc_new w1 (Obj.cells #[.slice A1 D.roots.length c1, .slice A2 D.mods.length c2, .slice A3 D.faults.length c3] 27)
  dsimp only
  go_upto_region 4 with fail
  generalize w1.alloc (Obj.cells #[.slice A1 D.roots.length c1, .slice A2 D.mods.length c2, .slice A3 D.faults.length c3] 27) = W2 at hbA hnA ⊢
  obtain ⟨b3, hb3⟩ : ∃ b, b = w1.heap.size := ⟨_, rfl⟩
  rw [← hb3] at hnA ⊢
  have B2 := below_then hb1 hb1.size hbA
  have hin2 := hin1.below hbA
  clear hb3 hbA hin1 hb1
  go_wp2_with fail
  refine (HD.out W2 (HC.out.below B2)).mono ?_
  rintro e w3 ⟨uR, uM, uF, rfl, jin3, _, _, _, hb3⟩
  replace jin3 : WIn w3 (fun b => W2.heap.size ≤ b) uR uM uF D := jin3
  obtain ⟨⟨E1, e1, hu1, _, _, _⟩, ⟨E2, e2, hu2, _, _, _⟩, ⟨E3, e3, hu3, _, _, _⟩⟩ := id jin3
  subst hu1 hu2 hu3
  have hzb3 : b3 < W2.heap.size := (Array.getElem?_eq_some_iff.1 hnA).1
  have hA3 := (hb3.block _ hzb3).trans hnA
  have B3 := below_then B2 B2.size hb3
  have hin3 := hin2.below hb3
  have hzb33 : b3 < w3.heap.size := Nat.lt_of_lt_of_le hzb3 hb3.size
  clear hin2 hnA hb3 B2 HD
  have hbB : Below w3.heap.size w3 (w3.alloc (Obj.cells #[.slice E1 D.roots.length e1, .slice E2 D.mods.length e2, .slice E3 D.faults.length e3] 27)) := by (repeat (first | with_reducible exact Below.refl _ _ | with_reducible assumption | with_reducible refine Below.alloc ?_ (by first | exact Nat.le_refl _ | exact Below.size (by assumption) | exact Nat.le_trans (Below.size (by assumption)) (by simp; done) | (simp; done) | (simp; omega) | omega) _ | with_reducible refine below_drewN ?_ _ | with_reducible refine Below.drew ?_ | with_reducible refine Below.setCell ?_ (by first | exact Nat.le_refl _ | (simp; done) | (simp; omega) | omega) _))
  have hnB := heap_alloc_new w3 (Obj.cells #[.slice E1 D.roots.length e1, .slice E2 D.mods.length e2, .slice E3 D.faults.length e3] 27)
  dsimp only
  go_upto_region 5 with fail
  generalize w3.alloc (Obj.cells #[.slice E1 D.roots.length e1, .slice E2 D.mods.length e2, .slice E3 D.faults.length e3] 27) = W4 at hbB hnB ⊢
  obtain ⟨b5, hb5⟩ : ∃ b, b = w3.heap.size := ⟨_, rfl⟩
  rw [← hb5] at hnB ⊢
  have B4 := below_then B3 B3.size hbB
  have hin4 := hin3.below hbB
  have jin4 := jin3.below hbB
  have hA4 := (hbB.block _ hzb33).trans hA3
  have hzb4 : b3 < W4.heap.size := (Array.getElem?_eq_some_iff.1 hA4).1
  have hzb5 : b5 < W4.heap.size := (Array.getElem?_eq_some_iff.1 hnB).1
  clear hb5 hbB hin3 jin3 hA3 B3 hzb33 hzb3
  have hsl := sLoad_calls D _ _ _ _ W4 jin4 hsz nm hnm
  have hils := fun (W : World) (T : Nat → Prop) (hi : WIn W T (.slice A1 D.roots.length c1) (.slice A2 D.mods.length c2) (.slice A3 D.faults.length c3) D) (hml : ML W) => iLoad_calls D _ _ _ T W hi hsz hml nm hnm
  have hsa := fun (W : World) (T : Nat → Prop) (hi : WIn W T (.slice E1 D.roots.length e1) (.slice E2 D.mods.length e2) (.slice E3 D.faults.length e3) D) => sAnswer_calls D _ _ _ T W hi hsz nm hnm hfine
  have hia := fun (W : World) (T : Nat → Prop) (hi : WIn W T (.slice A1 D.roots.length c1) (.slice A2 D.mods.length c2) (.slice A3 D.faults.length c3) D) (hml : ML W) (ht : Tabs W) => iAnswer_calls D _ _ _ T W hi hsz hml ht nm hnm hfine
  generalize Ans.answer D nm = ans at hsa hia
  have hnr := hfine.nr
  have hng := hfine.ng
  have hnl := fun x hx => (hfine.rings x hx).2.1
  obtain ⟨c, s, hq⟩ : ∃ c s, Ld.load D nm = (c, s) := ⟨_, _, rfl⟩
  rw [hq] at hsl hils hnr hng hnl
  have HSL := hide hsl
  have HILS := hide hils
  have HSA := hide hsa
  have HIA := hide hia
  have HNL := hide hnl
  clear hsl hils hsa hia hq hfine hnl
  have k0 : W4.cell? ⟨b5, 0, none⟩ = some (.slice E1 D.roots.length e1) := blk_cell hnB 0
  have k1 : W4.cell? ⟨b5, 1, none⟩ = some (.slice E2 D.mods.length e2) := blk_cell hnB 1
  have k2 : W4.cell? ⟨b5, 2, none⟩ = some (.slice E3 D.faults.length e3) := blk_cell hnB 2
  go_wp2_with fail
  refine HSL.out.mono ?_
  rintro e w5 ⟨vc, vs, vr, rfl, hrep, hb5⟩
  have hwant := hrep.rg
  obtain ⟨⟨P1, p1, hp1, _, _, _⟩, ⟨P2, p2, hp2, _, _, _⟩, ⟨P3, p3, hp3, _, _, _⟩⟩ := hrep.rg
  subst hp1 hp2 hp3
  have B5 := below_then B4 B4.size hb5
  have hin5 := hin4.below hb5
  have jin5 := jin4.below hb5
  have hA5 := (hb5.block _ hzb4).trans hA4
  have hB5 := (hb5.block _ hzb5).trans hnB
  clear hrep hb5 hin4 jin4 hA4 hnB k0 k1 k2 HSL B4 hzb4 hzb5
  replace hwant : RepRg w5 (fun b => b < w5.heap.size) (.slice P1 s.recs.length p1) (.slice P2 s.states.length p2) (.slice P3 s.rings.length p3) s := hwant
  dsimp only
  have hbG : Below w5.heap.size w5 (w5.alloc (Obj.cells #[.int .i64 c, .slice P1 s.recs.length p1, .slice P2 s.states.length p2, .int .i64 s.reads, .slice P3 s.rings.length p3] 34)) := by (repeat (first | with_reducible exact Below.refl _ _ | with_reducible assumption | with_reducible refine Below.alloc ?_ (by first | exact Nat.le_refl _ | exact Below.size (by assumption) | exact Nat.le_trans (Below.size (by assumption)) (by simp; done) | (simp; done) | (simp; omega) | omega) _ | with_reducible refine below_drewN ?_ _ | with_reducible refine Below.drew ?_ | with_reducible refine Below.setCell ?_ (by first | exact Nat.le_refl _ | (simp; done) | (simp; omega) | omega) _))
  have hnG := heap_alloc_new w5 (Obj.cells #[.int .i64 c, .slice P1 s.recs.length p1, .slice P2 s.states.length p2, .int .i64 s.reads, .slice P3 s.rings.length p3] 34)
  go_upto_region 6 with fail
  generalize w5.alloc (Obj.cells #[.int .i64 c, .slice P1 s.recs.length p1, .slice P2 s.states.length p2, .int .i64 s.reads, .slice P3 s.rings.length p3] 34) = W7 at hbG hnG ⊢
  obtain ⟨b7, hb7⟩ : ∃ b, b = w5.heap.size := ⟨_, rfl⟩
  rw [← hb7] at hnG ⊢
  have B7 := below_then B5 B5.size hbG
  have hz3 : b3 < W7.heap.size := Nat.lt_of_lt_of_le (Array.getElem?_eq_some_iff.1 hA5).1 hbG.size
  have hz5 : b5 < W7.heap.size := Nat.lt_of_lt_of_le (Array.getElem?_eq_some_iff.1 hB5).1 hbG.size
  have hz7 : b7 < W7.heap.size := (Array.getElem?_eq_some_iff.1 hnG).1
  have HBW := hide B7
  have HIN := hide (hin5.below hbG)
  have JIN := hide (jin5.below hbG)
  have HW := hide (hwant.below hbG)
  have HA := hide ((hbG.block _ (Array.getElem?_eq_some_iff.1 hA5).1).trans hA5)
  have HB := hide ((hbG.block _ (Array.getElem?_eq_some_iff.1 hB5).1).trans hB5)
  have HG := hide hnG
  have HML := hide (HM.out.below B7)
  have HTT := hide (HTB.out.below B7)
  clear hin5 jin5 hwant hA5 hB5 hnG hbG hb7 B5 B7 HM HTB HC hsz hnm
  -- what every later world keeps
  have k0 : W7.cell? ⟨b3, 0, none⟩ = some (.slice A1 D.roots.length c1) := blk_cell HA.out 0
  have k1 : W7.cell? ⟨b3, 1, none⟩ = some (.slice A2 D.mods.length c2) := blk_cell HA.out 1
  have k2 : W7.cell? ⟨b3, 2, none⟩ = some (.slice A3 D.faults.length c3) := blk_cell HA.out 2
  go_wp2_with fail
  refine (HILS.out W7 _ HIN.out HML.out).mono ?_
  rintro e w8 ⟨gc, gs, gr, rfl, hrep, hb8⟩
  have hrg := hrep.rg
  obtain ⟨⟨Q1, q1, hq1, _, _, _⟩, ⟨Q2, q2, hq2, _, _, _⟩, ⟨Q3, q3, hq3, _, _, _⟩⟩ := hrep.rg
  subst hq1 hq2 hq3
  clear k0 k1 k2
  dsimp only
  have hbR : Below w8.heap.size w8 (w8.alloc (Obj.cells #[.int .i64 c, .slice Q1 s.recs.length q1, .slice Q2 s.states.length q2, .int .i64 s.reads, .slice Q3 s.rings.length q3] 34)) := by (repeat (first | with_reducible exact Below.refl _ _ | with_reducible assumption | with_reducible refine Below.alloc ?_ (by first | exact Nat.le_refl _ | exact Below.size (by assumption) | exact Nat.le_trans (Below.size (by assumption)) (by simp; done) | (simp; done) | (simp; omega) | omega) _ | with_reducible refine below_drewN ?_ _ | with_reducible refine Below.drew ?_ | with_reducible refine Below.setCell ?_ (by first | exact Nat.le_refl _ | (simp; done) | (simp; omega) | omega) _))
  have hnR := heap_alloc_new w8 (Obj.cells #[.int .i64 c, .slice Q1 s.recs.length q1, .slice Q2 s.states.length q2, .int .i64 s.reads, .slice Q3 s.rings.length q3] 34)
  go_upto_region 7 with fail
  generalize w8.alloc (Obj.cells #[.int .i64 c, .slice Q1 s.recs.length q1, .slice Q2 s.states.length q2, .int .i64 s.reads, .slice Q3 s.rings.length q3] 34) = W9 at hbR hnR ⊢
  obtain ⟨b8, hb8'⟩ : ∃ b, b = w8.heap.size := ⟨_, rfl⟩
  rw [← hb8'] at hnR ⊢
  have hz8 : W7.heap.size ≤ b8 := by rw [hb8']; exact hb8.size
  have B9 := below_then hb8 hb8.size hbR
  have HRG9 := hrg.below hbR
  have HRC := hide (hrep.recs.below hbR)
  obtain ⟨KR, hkr⟩ := hrep.rings
  have HRR := hide (hkr.below hbR)
  clear hb8 hbR hb8' hrg hrep hkr
  have hzR : b8 < W9.heap.size := (Array.getElem?_eq_some_iff.1 hnR).1
  have a0 : W9.cell? ⟨b3, 0, none⟩ = some (.slice A1 D.roots.length c1) := blk_cell ((B9.block _ hz3).trans HA.out) 0
  have a1 : W9.cell? ⟨b3, 1, none⟩ = some (.slice A2 D.mods.length c2) := blk_cell ((B9.block _ hz3).trans HA.out) 1
  have a2 : W9.cell? ⟨b3, 2, none⟩ = some (.slice A3 D.faults.length c3) := blk_cell ((B9.block _ hz3).trans HA.out) 2
  have d0 : W9.cell? ⟨b5, 0, none⟩ = some (.slice E1 D.roots.length e1) := blk_cell ((B9.block _ hz5).trans HB.out) 0
  have d1 : W9.cell? ⟨b5, 1, none⟩ = some (.slice E2 D.mods.length e2) := blk_cell ((B9.block _ hz5).trans HB.out) 1
  have d2 : W9.cell? ⟨b5, 2, none⟩ = some (.slice E3 D.faults.length e3) := blk_cell ((B9.block _ hz5).trans HB.out) 2
  have n0 : W9.cell? ⟨b7, 0, none⟩ = some (.int .i64 c) := blk_cell ((B9.block _ hz7).trans HG.out) 0
  have n1 : W9.cell? ⟨b7, 1, none⟩ = some (.slice P1 s.recs.length p1) := blk_cell ((B9.block _ hz7).trans HG.out) 1
  have n2 : W9.cell? ⟨b7, 2, none⟩ = some (.slice P2 s.states.length p2) := blk_cell ((B9.block _ hz7).trans HG.out) 2
  have n3 : W9.cell? ⟨b7, 3, none⟩ = some (.int .i64 s.reads) := blk_cell ((B9.block _ hz7).trans HG.out) 3
  have n4 : W9.cell? ⟨b7, 4, none⟩ = some (.slice P3 s.rings.length p3) := blk_cell ((B9.block _ hz7).trans HG.out) 4
  have m0 : W9.cell? ⟨b8, 0, none⟩ = some (.int .i64 c) := blk_cell hnR 0
  have m1 : W9.cell? ⟨b8, 1, none⟩ = some (.slice Q1 s.recs.length q1) := blk_cell hnR 1
  have m2 : W9.cell? ⟨b8, 2, none⟩ = some (.slice Q2 s.states.length q2) := blk_cell hnR 2
  have m3 : W9.cell? ⟨b8, 3, none⟩ = some (.int .i64 s.reads) := blk_cell hnR 3
  have m4 : W9.cell? ⟨b8, 4, none⟩ = some (.slice Q3 s.rings.length q3) := blk_cell hnR 4
  have HNR := hide hnR
  have HB9 := hide B9
  have hne : (!ans.toList == ans.toList) = false := nbeq_t rfl
  have step : ∀ (Wa Wb : World), ((Wa.cell? ⟨b3, 0, none⟩ = some (.slice A1 D.roots.length c1) ∧ Wa.cell? ⟨b3, 1, none⟩ = some (.slice A2 D.mods.length c2) ∧ Wa.cell? ⟨b3, 2, none⟩ = some (.slice A3 D.faults.length c3)) ∧ (Wa.cell? ⟨b5, 0, none⟩ = some (.slice E1 D.roots.length e1) ∧ Wa.cell? ⟨b5, 1, none⟩ = some (.slice E2 D.mods.length e2) ∧ Wa.cell? ⟨b5, 2, none⟩ = some (.slice E3 D.faults.length e3)) ∧ (Wa.cell? ⟨b7, 0, none⟩ = some (.int .i64 c) ∧ Wa.cell? ⟨b7, 1, none⟩ = some (.slice P1 s.recs.length p1) ∧ Wa.cell? ⟨b7, 2, none⟩ = some (.slice P2 s.states.length p2) ∧ Wa.cell? ⟨b7, 3, none⟩ = some (.int .i64 s.reads) ∧ Wa.cell? ⟨b7, 4, none⟩ = some (.slice P3 s.rings.length p3)) ∧ Wa.cell? ⟨b8, 0, none⟩ = some (.int .i64 c) ∧ Wa.cell? ⟨b8, 1, none⟩ = some (.slice Q1 s.recs.length q1) ∧ Wa.cell? ⟨b8, 2, none⟩ = some (.slice Q2 s.states.length q2) ∧ Wa.cell? ⟨b8, 3, none⟩ = some (.int .i64 s.reads) ∧ Wa.cell? ⟨b8, 4, none⟩ = some (.slice Q3 s.rings.length q3)) → Below Wa.heap.size Wa Wb → ((Wb.cell? ⟨b3, 0, none⟩ = some (.slice A1 D.roots.length c1) ∧ Wb.cell? ⟨b3, 1, none⟩ = some (.slice A2 D.mods.length c2) ∧ Wb.cell? ⟨b3, 2, none⟩ = some (.slice A3 D.faults.length c3)) ∧ (Wb.cell? ⟨b5, 0, none⟩ = some (.slice E1 D.roots.length e1) ∧ Wb.cell? ⟨b5, 1, none⟩ = some (.slice E2 D.mods.length e2) ∧ Wb.cell? ⟨b5, 2, none⟩ = some (.slice E3 D.faults.length e3)) ∧ (Wb.cell? ⟨b7, 0, none⟩ = some (.int .i64 c) ∧ Wb.cell? ⟨b7, 1, none⟩ = some (.slice P1 s.recs.length p1) ∧ Wb.cell? ⟨b7, 2, none⟩ = some (.slice P2 s.states.length p2) ∧ Wb.cell? ⟨b7, 3, none⟩ = some (.int .i64 s.reads) ∧ Wb.cell? ⟨b7, 4, none⟩ = some (.slice P3 s.rings.length p3)) ∧ Wb.cell? ⟨b8, 0, none⟩ = some (.int .i64 c) ∧ Wb.cell? ⟨b8, 1, none⟩ = some (.slice Q1 s.recs.length q1) ∧ Wb.cell? ⟨b8, 2, none⟩ = some (.slice Q2 s.states.length q2) ∧ Wb.cell? ⟨b8, 3, none⟩ = some (.int .i64 s.reads) ∧ Wb.cell? ⟨b8, 4, none⟩ = some (.slice Q3 s.rings.length q3)) := fun Wa Wb ⟨⟨x1, x2, x3⟩, ⟨x4, x5, x6⟩, ⟨x7, x8, x9, y1, y2⟩, y3, y4, y5, y6, y7⟩ hb => ⟨⟨keep_cell x1 hb, keep_cell x2 hb, keep_cell x3 hb⟩, ⟨keep_cell x4 hb, keep_cell x5 hb, keep_cell x6 hb⟩, ⟨keep_cell x7 hb, keep_cell x8 hb, keep_cell x9 hb, keep_cell y1 hb, keep_cell y2 hb⟩, keep_cell y3 hb, keep_cell y4 hb, keep_cell y5 hb, keep_cell y6 hb, keep_cell y7 hb⟩
  have STEP := hide step
  clear step hnR B9
  refine wp_region_held_drew (S := fun W1 => (W1.cell? ⟨b3, 0, none⟩ = some (.slice A1 D.roots.length c1) ∧ W1.cell? ⟨b3, 1, none⟩ = some (.slice A2 D.mods.length c2) ∧ W1.cell? ⟨b3, 2, none⟩ = some (.slice A3 D.faults.length c3)) ∧ (W1.cell? ⟨b5, 0, none⟩ = some (.slice E1 D.roots.length e1) ∧ W1.cell? ⟨b5, 1, none⟩ = some (.slice E2 D.mods.length e2) ∧ W1.cell? ⟨b5, 2, none⟩ = some (.slice E3 D.faults.length e3)) ∧ (W1.cell? ⟨b7, 0, none⟩ = some (.int .i64 c) ∧ W1.cell? ⟨b7, 1, none⟩ = some (.slice P1 s.recs.length p1) ∧ W1.cell? ⟨b7, 2, none⟩ = some (.slice P2 s.states.length p2) ∧ W1.cell? ⟨b7, 3, none⟩ = some (.int .i64 s.reads) ∧ W1.cell? ⟨b7, 4, none⟩ = some (.slice P3 s.rings.length p3)) ∧ W1.cell? ⟨b8, 0, none⟩ = some (.int .i64 c) ∧ W1.cell? ⟨b8, 1, none⟩ = some (.slice Q1 s.recs.length q1) ∧ W1.cell? ⟨b8, 2, none⟩ = some (.slice Q2 s.states.length q2) ∧ W1.cell? ⟨b8, 3, none⟩ = some (.int .i64 s.reads) ∧ W1.cell? ⟨b8, 4, none⟩ = some (.slice Q3 s.rings.length q3)) (by kernel_rfl) ⟨⟨a0, a1, a2⟩, ⟨d0, d1, d2⟩, ⟨n0, n1, n2, n3, n4⟩, m0, m1, m2, m3, m4⟩ (fun hHeld => ?_)
  clear a0 a1 a2 d0 d1 d2 n0 n1 n2 n3 n4 m0 m1 m2 m3 m4
  (refine wpAnyH_take (i := 0) (oi := ⟨some 31, _, _, _, _, _⟩) (v := .agg #[.int .i64 c, .slice Q1 s.recs.length q1, .slice Q2 s.states.length q2, .int .i64 s.reads, .slice Q3 s.rings.length q3]) rfl (by kernel_rfl) (by kernel_rfl) (by kernel_rfl) (fun _ _ _ h => h) (Or.inl ⟨by rfl, ?_⟩) (by assumption) ?_; (focus (intro w hSw; (try dsimp only at hSw); go_simp; done)); try simp only [Act.put, List.setIfInBounds_toArray, List.set_cons_zero, List.set_cons_succ])
  (refine wpAnyH_take (i := 1) (oi := ⟨some 32, _, _, _, _, _⟩) (v := .agg #[.int .i64 c, .slice P1 s.recs.length p1, .slice P2 s.states.length p2, .int .i64 s.reads, .slice P3 s.rings.length p3]) rfl (by kernel_rfl) (by kernel_rfl) (by kernel_rfl) (fun _ _ _ h => h) (Or.inl ⟨by rfl, ?_⟩) (by assumption) ?_; (focus (intro w hSw; (try dsimp only at hSw); go_simp; done)); try simp only [Act.put, List.setIfInBounds_toArray, List.set_cons_zero, List.set_cons_succ])
  refine wpAnyH_ready (rs := [2]) (by kernel_rfl) (by simp) ?_
  refine AllReadyH.cons (o := ⟨some 33, _, _, _, _, _⟩) rfl (fun K hK => ?_) AllReadyH.nil
  go_simp
  have b9d : Below W7.heap.size W7 W9.drew := Below.drew HB9.out
  have hrgd : RepRg W9.drew (fun b => b < w8.heap.size) (.slice Q1 s.recs.length q1) (.slice Q2 s.states.length q2) (.slice Q3 s.rings.length q3) s := ⟨HRG9.recs, HRG9.states, HRG9.rings⟩
  refine (wReport_same c s.reads s _ _ _ _ _ _ _ _ W9.drew hrgd (HW.out.below b9d)).mono ?_
  rintro e w10 ⟨rfl, hb10⟩
  have b10 := below_then b9d b9d.size hb10
  have b90 : Below W9.heap.size W9 w10 := ⟨hb10.os, hb10.tape, hb10.output, hb10.size, hb10.block⟩
  refine hK.out _ _ (STEP.out _ _ hHeld hb10) (fun hHeld => ?_)
  clear hK K b9d hrgd HRG9
  try simp only [Act.put, List.setIfInBounds_toArray, List.set_cons_zero, List.set_cons_succ]
  (refine wpAnyH_take (i := 3) (oi := ⟨some 34, _, _, _, _, _⟩) (v := .bool false) rfl (by kernel_rfl) (by kernel_rfl) (by kernel_rfl) (fun _ _ _ h => h) (Or.inl ⟨by rfl, ?_⟩) (by assumption) ?_; (focus (intro w hSw; (try dsimp only at hSw); go_simp; done)); try simp only [Act.put, List.setIfInBounds_toArray, List.set_cons_zero, List.set_cons_succ])
  (refine wpAnyH_take (i := 4) (oi := ⟨some 35, _, _, _, _, _⟩) (v := .bool false) rfl (by kernel_rfl) (by kernel_rfl) (by kernel_rfl) (fun _ _ _ h => h) (Or.inl ⟨by rfl, ?_⟩) (by assumption) ?_; (focus (intro w hSw; (try dsimp only at hSw); go_simp; done)); try simp only [Act.put, List.setIfInBounds_toArray, List.set_cons_zero, List.set_cons_succ])
  (refine wpAnyH_take (i := 5) (oi := ⟨some 36, _, _, _, _, _⟩) (v := .agg #[.slice A1 D.roots.length c1, .slice A2 D.mods.length c2, .slice A3 D.faults.length c3]) rfl (by kernel_rfl) (by kernel_rfl) (by kernel_rfl) (fun _ _ _ h => h) (Or.inl ⟨by rfl, ?_⟩) (by assumption) ?_; (focus (intro w hSw; (try dsimp only at hSw); go_simp; done)); try simp only [Act.put, List.setIfInBounds_toArray, List.set_cons_zero, List.set_cons_succ])
  (refine wpAnyH_take (i := 6) (oi := ⟨some 37, _, _, _, _, _⟩) (v := .string nm) rfl (by kernel_rfl) (by kernel_rfl) (by kernel_rfl) (fun _ _ _ h => h) (Or.inl ⟨by rfl, ?_⟩) (by assumption) ?_; (focus (intro w hSw; (try dsimp only at hSw); go_simp; done)); try simp only [Act.put, List.setIfInBounds_toArray, List.set_cons_zero, List.set_cons_succ])
  (refine wpAnyH_take (i := 8) (oi := ⟨some 39, _, _, _, _, _⟩) (v := .agg #[.slice E1 D.roots.length e1, .slice E2 D.mods.length e2, .slice E3 D.faults.length e3]) rfl (by kernel_rfl) (by kernel_rfl) (by kernel_rfl) (fun _ _ _ h => h) (Or.inl ⟨by rfl, ?_⟩) (by assumption) ?_; (focus (intro w hSw; (try dsimp only at hSw); go_simp; done)); try simp only [Act.put, List.setIfInBounds_toArray, List.set_cons_zero, List.set_cons_succ])
  (refine wpAnyH_take (i := 9) (oi := ⟨some 40, _, _, _, _, _⟩) (v := .string nm) rfl (by kernel_rfl) (by kernel_rfl) (by kernel_rfl) (fun _ _ _ h => h) (Or.inl ⟨by rfl, ?_⟩) (by assumption) ?_; (focus (intro w hSw; (try dsimp only at hSw); go_simp; done)); try simp only [Act.put, List.setIfInBounds_toArray, List.set_cons_zero, List.set_cons_succ])
  refine wpAnyH_ready (rs := [7]) (by kernel_rfl) (by simp) ?_
  refine AllReadyH.cons (o := ⟨some 38, _, _, _, _, _⟩) rfl (fun K hK => ?_) AllReadyH.nil
  go_simp
  refine (HIA.out w10 _ (HIN.out.below b10) (HML.out.below b10) (HTT.out.below b10)).mono ?_
  rintro e w11 ⟨rfl, hb11⟩
  have b11 := below_then b10 b10.size hb11
  have b91 := below_then b90 b90.size hb11
  refine hK.out _ _ (STEP.out _ _ hHeld hb11) (fun hHeld => ?_)
  clear hK K hb10
  try simp only [Act.put, List.setIfInBounds_toArray, List.set_cons_zero, List.set_cons_succ]
  refine wpAnyH_ready (rs := [10]) (by kernel_rfl) (by simp) ?_
  refine AllReadyH.cons (o := ⟨some 41, _, _, _, _, _⟩) rfl (fun K hK => ?_) AllReadyH.nil
  go_simp
  refine (HSA.out w11 _ (JIN.out.below b11)).mono ?_
  rintro e w12 ⟨rfl, hb12⟩
  have b12 := below_then b11 b11.size hb12
  have b92 := below_then b91 b91.size hb12
  refine hK.out _ _ (STEP.out _ _ hHeld hb12) (fun hHeld => ?_)
  clear hK K hb11
  try simp only [Act.put, List.setIfInBounds_toArray, List.set_cons_zero, List.set_cons_succ]
  (refine wpAnyH_take (i := 11) (oi := ⟨some 42, _, _, _, _, _⟩) (v := .bool false) rfl (by kernel_rfl) (by kernel_rfl) (by kernel_rfl) (fun _ _ _ h => h) (Or.inl ⟨by rfl, ?_⟩) (by assumption) ?_; (focus (intro w hSw; (try dsimp only at hSw); go_simp; done)); try simp only [Act.put, List.setIfInBounds_toArray, List.set_cons_zero, List.set_cons_succ])
  (refine wpAnyH_take (i := 12) (oi := ⟨some 43, _, _, _, _, _⟩) (v := .bool false) rfl (by kernel_rfl) (by kernel_rfl) (by kernel_rfl) (fun _ _ _ h => h) (Or.inl ⟨by rfl, ?_⟩) (by assumption) ?_; (focus (intro w hSw; (try dsimp only at hSw); go_simp; done)); try simp only [Act.put, List.setIfInBounds_toArray, List.set_cons_zero, List.set_cons_succ])
  refine wpAnyH_done (by kernel_rfl) ?_ _
  clear hHeld hb12 b10 b90 b11 b91 hne
  have HBX := (b92.block _ hzR).trans HNR.out
  have HRC12 := HRC.out.below b92
  have HRR12 := HRR.out.below b92
  clear HRC HRR HNR HB9 STEP b92 HIA HSA JIN
  obtain ⟨L1, hL1⟩ : ∃ L, s.recs.length = L := ⟨_, rfl⟩
  obtain ⟨L3, hL3⟩ : ∃ L, s.rings.length = L := ⟨_, rfl⟩
  have HBX0 := HBX
  rw [hL1, hL3] at HBX
  have HB0 : Own fRec w12 W7.heap.size 39 (.slice Q1 L1 q1) s.recs := by rw [← hL1]; exact HRC12
  have HR0 : OwnR w12 W7.heap.size KR (.slice Q3 L3 q3) s.rings := by rw [← hL3]; exact HRR12
  have hL9 : L1 ≤ 9000 := by rw [← hL1]; exact hnr
  have hL8 : L3 ≤ 9000 := by rw [← hL3]; exact hng
  have HL1 := hide hL1
  have HL3 := hide hL3
  clear hL1 hL3 HRC12 HRR12 HBX0 hnr hng
  have m1 : w12.cell? ⟨b8, 1, none⟩ = some (.slice Q1 L1 q1) := blk_cell HBX 1
  go_wp2_with fail
  clear m1
  go_loopw [9, 47] (fun _ v wr => ∃ (k : Nat) (ys : List RecD), v = .int .i64 k ∧ k ≤ L1 ∧ Hid (ys.length = L1) ∧ Own fRec wr W7.heap.size 39 (.slice Q1 L1 q1) ys ∧ OwnR wr W7.heap.size KR (.slice Q3 L3 q3) s.rings ∧ wr.heap[b8]? = some (Obj.cells #[.int .i64 c, .slice Q1 L1 q1, .slice Q2 s.states.length q2, .int .i64 s.reads, .slice Q3 L3 q3] 34 (0, 0)) ∧ Below W7.heap.size W7 wr) (fun _ v _ => L1 - (intOf v).toNat)
  case atStart => exact ⟨0, s.recs, rfl, Nat.zero_le _, HL1, HB0, HR0, HBX, b12⟩
  case round =>
    clear HB0 HR0 HBX b12
    obtain ⟨k, ys, rfl, hk, HYL, HO, HR, HBX, HBB⟩ := hrel
    by_cases hlt : k < L1
    · have hky : k < ys.length := by rw [HYL.out]; exact hlt
      obtain ⟨gR, c', hv, hge, hlg, _, _, _, _⟩ := HO.form (fun e => by rw [e] at hky; simp at hky)
      simp only [Value.slice.injEq] at hv
      obtain ⟨rfl, _, rfl⟩ := hv
      have hgt := List.getElem?_eq_getElem hky
      have c0 : wr.cell? ⟨gR, k * 4, none⟩ = some (.int .i64 ys[k].kind) := HO.cellAt (j := 0) hgt rfl
      have c1' : wr.cell? ⟨gR, k * 4 + 1, none⟩ = some (.string ys[k].name) := HO.cellAt (j := 1) hgt rfl
      have c2' : wr.cell? ⟨gR, k * 4 + 2, none⟩ = some (.int .i64 ys[k].code) := HO.cellAt (j := 2) hgt rfl
      have c3' : wr.cell? ⟨gR, k * 4 + 3, none⟩ = some (.int .i64 ys[k].num) := HO.cellAt (j := 3) hgt rfl
      have f0 : wr.frozen? ⟨gR, k * 4, none⟩ = false := HO.free _
      have f1 : wr.frozen? ⟨gR, k * 4 + 1, none⟩ = false := HO.free _
      have f2 : wr.frozen? ⟨gR, k * 4 + 2, none⟩ = false := HO.free _
      have f3 : wr.frozen? ⟨gR, k * 4 + 3, none⟩ = false := HO.free _
      generalize ys[k].kind = z0 at c0
      generalize ys[k].name = z1 at c1'
      generalize ys[k].code = z2 at c2'
      generalize ys[k].num = z3 at c3'
      have m1 : wr.cell? ⟨b8, 1, none⟩ = some (.slice (some ⟨gR, 0, none⟩) L1 q1) := blk_cell HBX 1
      obtain ⟨ys2, hl2, ho2⟩ := rec_over HO HYL.out k
      have hg4 := grown_four wr gR (k * 4) (k * 4 + 1) (k * 4 + 2) (k * 4 + 3) (.int .i64 77) (.string ⟨#[]⟩) (.int .i64 0) (.int .i64 0)
      have hr2 := OwnR.apart2 (u := .slice (some ⟨gR, 0, none⟩) L1 q1) HR hg4 HO (by decide) (by decide)
      have hx2 := (hg4.block b8 (Array.getElem?_eq_some_iff.1 HBX).1 (not_row (apart_blk HO HBX (by decide)))).trans HBX
      have hbb2 := HBB.grown hg4 (by omega) (fun b hb => by have := Option.some.inj hb; omega)
      have HO2 := hide ho2
      have HR2 := hide hr2
      have HX2 := hide hx2
      have HBB2 := hide hbb2
      clear HO HR HBX hg4 ho2 hr2 hx2 hbb2 hgt hky
      go_wp2_with fail
      go_roundw
      case rel => exact ⟨k + 1, ys2, by go_num, by omega, hide hl2, HO2.out, HR2.out, HX2.out, HBB2.out⟩
      case measure => first | (simp [intOf]; done) | (simp [intOf]; omega)
    · obtain rfl : k = L1 := by omega
      clear hlt hk HO
      have m4 : wr.cell? ⟨b8, 4, none⟩ = some (.slice Q3 L3 q3) := blk_cell HBX 4
      go_wp2_with fail
      clear m4
      obtain ⟨wk, rfl⟩ : ∃ wk : World, wk = wr := ⟨_, rfl⟩
      go_loopw [10, 59] (fun _ v wr => ∃ (i : Nat) (zs : List (List Str)), v = .int .i64 i ∧ i ≤ L3 ∧ Hid (zs.length = L3) ∧ OwnR wr W7.heap.size KR (.slice Q3 L3 q3) zs ∧ wr.heap[b8]? = some (Obj.cells #[.int .i64 c, .slice Q1 k q1, .slice Q2 s.states.length q2, .int .i64 s.reads, .slice Q3 L3 q3] 34 (0, 0)) ∧ Below W7.heap.size W7 wr ∧ Hid (∀ x ∈ zs, x.length ≤ 40)) (fun _ v _ => L3 - (intOf v).toNat)
      case atStart => exact ⟨0, s.rings, rfl, Nat.zero_le _, HL3, HR, HBX, HBB, HNL⟩
      case round =>
        clear HR HBX HBB
        obtain ⟨i, zs, rfl, hi, HZL, HR, HBX, HBB, HZS⟩ := hrel
        by_cases hlt : i < L3
        · have hiz : i < zs.length := by rw [HZL.out]; exact hlt
          obtain ⟨gZ, capZ, A4, c4, hv, hcell, hown, hset0⟩ := OwnR.at_ HR (List.getElem?_eq_getElem hiz)
          simp only [Value.slice.injEq] at hv
          obtain ⟨rfl, _, rfl⟩ := hv
          obtain ⟨M, hM⟩ : ∃ M, zs[i].length = M := ⟨_, rfl⟩
          have hM40 : M ≤ 40 := by rw [← hM]; exact HZS.out _ (List.getElem_mem hiz)
          rw [hM] at hcell
          have HMI := hide (show zs[i]?.map List.length = some M by rw [List.getElem?_eq_getElem hiz, Option.map_some, hM])
          clear hM hown hset0
          have m4 : wr.cell? ⟨b8, 4, none⟩ = some (.slice (some ⟨gZ, 0, none⟩) L3 q3) := blk_cell HBX 4
          clear hiz
          go_wp2_with fail
          clear m4 hcell
          obtain ⟨wo, rfl⟩ : ∃ wo : World, wo = wr := ⟨_, rfl⟩
          go_loopw [11, 68] (fun _ v wr => ∃ (j : Nat) (zs : List (List Str)), v = .int .i64 j ∧ j ≤ M ∧ Hid (zs.length = L3) ∧ Hid (zs[i]?.map List.length = some M) ∧ OwnR wr W7.heap.size KR (.slice (some ⟨gZ, 0, none⟩) L3 q3) zs ∧ wr.heap[b8]? = some (Obj.cells #[.int .i64 c, .slice Q1 k q1, .slice Q2 s.states.length q2, .int .i64 s.reads, .slice (some ⟨gZ, 0, none⟩) L3 q3] 34 (0, 0)) ∧ Below W7.heap.size W7 wr ∧ Hid (∀ x ∈ zs, x.length ≤ 40)) (fun _ v _ => M - (intOf v).toNat)
          case atStart => exact ⟨0, zs, rfl, Nat.zero_le _, HZL, HMI, HR, HBX, HBB, HZS⟩
          case round =>
            clear HR HBX HBB HZL HMI HZS
            obtain ⟨j, zs, rfl, hj, HZL, HMI, HR, HBX, HBB, HZS⟩ := hrel
            by_cases hjl : j < M
            · obtain ⟨y, hy, hyM⟩ := Option.map_eq_some_iff.1 HMI.out
              obtain ⟨g', cap', A5, c5, hv, hcell, hown, hset⟩ := OwnR.at_ HR hy
              simp only [Value.slice.injEq, Option.some.injEq, Addr.mk.injEq] at hv
              obtain ⟨⟨rfl, _, _⟩, _, rfl⟩ := hv
              rw [hyM] at hcell hown hset
              have hy0 : y ≠ [] := fun e => by rw [e] at hyM; simp at hyM; omega
              obtain ⟨gI, cI, hv2, hgeI, _, _, _, _, _⟩ := hown.form hy0
              simp only [Value.slice.injEq] at hv2
              obtain ⟨rfl, _, rfl⟩ := hv2
              have hjy : j < y.length := by rw [hyM]; exact hjl
              have q5 : wr.cell? ⟨gI, j, none⟩ = some (.string y[j]) := by
                have hq := hown.cellAt (j := 0) (List.getElem?_eq_getElem hjy) rfl
                rwa [show j * fStr.kind.size + 0 = j from Nat.mul_one j] at hq
              have g5 : wr.frozen? ⟨gI, j, none⟩ = false := hown.free _
              have m4 : wr.cell? ⟨b8, 4, none⟩ = some (.slice (some ⟨gZ, 0, none⟩) L3 q3) := blk_cell HBX 4
              have ho5 : Own fStr (wr.setCell ⟨gI, j, none⟩ (.string ⟨#[111, 118, 101, 114]⟩)) W7.heap.size 9 (.slice (some ⟨gI, 0, none⟩) M c5) (y.set j ⟨#[111, 118, 101, 114]⟩) := by
                have hq := hown.store hyM j 0 ⟨#[111, 118, 101, 114]⟩ (.string ⟨#[111, 118, 101, 114]⟩) (by show 0 < 1; omega) (fun x _ => rfl)
                rwa [show j * fStr.kind.size + 0 = j from Nat.mul_one j] at hq
              have hg5 := grown_set wr gI j (.string ⟨#[111, 118, 101, 114]⟩)
              have hr5 := hset _ (y.set j ⟨#[111, 118, 101, 114]⟩) (by rw [List.length_set, hyM]) ho5 hg5
              have hx5 := (hg5.block b8 (Array.getElem?_eq_some_iff.1 HBX).1 (not_row (apart_blk hown HBX (by decide)))).trans HBX
              have hzW := HBB.size
              have hbb5 := HBB.grown hg5 hzW (fun b hb => by have := Option.some.inj hb; omega)
              have hil : i < zs.length := (List.getElem?_eq_some_iff.1 hy).1
              have hmi5 : (zs.set i (y.set j ⟨#[111, 118, 101, 114]⟩))[i]?.map List.length = some M := by rw [List.getElem?_set_self hil, Option.map_some, List.length_set, hyM]
              have hzs5 : ∀ x ∈ zs.set i (y.set j ⟨#[111, 118, 101, 114]⟩), x.length ≤ 40 := fun x hx => by
                rcases List.mem_or_eq_of_mem_set hx with hx | rfl
                · exact HZS.out x hx
                · rw [List.length_set]; omega
              have HR5 := hide hr5
              have HX5 := hide hx5
              have HBB5 := hide hbb5
              have HMI5 := hide hmi5
              have HZS5 := hide hzs5
              generalize y[j] = yj at q5
              clear hr5 hx5 hbb5 hmi5 hzs5 ho5 hg5 hset hown HR HBX hy hyM hy0 hjy hil hzW
              go_wp2_with fail
              go_roundw
              case rel => exact ⟨j + 1, _, by go_num, by omega, hide ((List.length_set ..).trans HZL.out), HMI5, HR5.out, HX5.out, HBB5.out, HZS5⟩
              case measure => first | (simp [intOf]; done) | (simp [intOf]; omega)
            · obtain rfl : j = M := by omega
              go_wp2_with fail
              go_roundw
              case rel => exact ⟨i + 1, zs, by go_num, by omega, HZL, HR, HBX, HBB, HZS⟩
              case measure => first | (simp [intOf]; done) | (simp [intOf]; omega)
        · clear HR HBX HZS
          obtain ⟨wl, rfl⟩ : ∃ wl : World, wl = wr := ⟨_, rfl⟩
          have a0 : wl.cell? ⟨b3, 0, none⟩ = some (.slice A1 D.roots.length c1) := blk_cell ((HBB.block _ hz3).trans HA.out) 0
          have a1 : wl.cell? ⟨b3, 1, none⟩ = some (.slice A2 D.mods.length c2) := blk_cell ((HBB.block _ hz3).trans HA.out) 1
          have a2 : wl.cell? ⟨b3, 2, none⟩ = some (.slice A3 D.faults.length c3) := blk_cell ((HBB.block _ hz3).trans HA.out) 2
          have n0 : wl.cell? ⟨b7, 0, none⟩ = some (.int .i64 c) := blk_cell ((HBB.block _ hz7).trans HG.out) 0
          have n1 : wl.cell? ⟨b7, 1, none⟩ = some (.slice P1 s.recs.length p1) := blk_cell ((HBB.block _ hz7).trans HG.out) 1
          have n2 : wl.cell? ⟨b7, 2, none⟩ = some (.slice P2 s.states.length p2) := blk_cell ((HBB.block _ hz7).trans HG.out) 2
          have n3 : wl.cell? ⟨b7, 3, none⟩ = some (.int .i64 s.reads) := blk_cell ((HBB.block _ hz7).trans HG.out) 3
          have n4 : wl.cell? ⟨b7, 4, none⟩ = some (.slice P3 s.rings.length p3) := blk_cell ((HBB.block _ hz7).trans HG.out) 4
          have hieq : ((i : Int) < (L3 : Int)) = False := by simp; omega
          go_upto_region 23 with fail
          refine wp_region_held_drew (S := fun W1 => (W1.cell? ⟨b3, 0, none⟩ = some (.slice A1 D.roots.length c1) ∧ W1.cell? ⟨b3, 1, none⟩ = some (.slice A2 D.mods.length c2) ∧ W1.cell? ⟨b3, 2, none⟩ = some (.slice A3 D.faults.length c3)) ∧ W1.cell? ⟨b7, 0, none⟩ = some (.int .i64 c) ∧ W1.cell? ⟨b7, 1, none⟩ = some (.slice P1 s.recs.length p1) ∧ W1.cell? ⟨b7, 2, none⟩ = some (.slice P2 s.states.length p2) ∧ W1.cell? ⟨b7, 3, none⟩ = some (.int .i64 s.reads) ∧ W1.cell? ⟨b7, 4, none⟩ = some (.slice P3 s.rings.length p3)) (by kernel_rfl) ⟨⟨a0, a1, a2⟩, n0, n1, n2, n3, n4⟩ (fun hHeld => ?_)
          clear a0 a1 a2 n0 n1 n2 n3 n4
          (refine wpAnyH_take (i := 0) (oi := ⟨some 80, _, _, _, _, _⟩) (v := .agg #[.slice A1 D.roots.length c1, .slice A2 D.mods.length c2, .slice A3 D.faults.length c3]) rfl (by kernel_rfl) (by kernel_rfl) (by kernel_rfl) (fun _ _ _ h => h) (Or.inl ⟨by rfl, ?_⟩) (by assumption) ?_; (focus (intro w hSw; (try dsimp only at hSw); go_simp; done)); try simp only [Act.put, List.setIfInBounds_toArray, List.set_cons_zero, List.set_cons_succ])
          (refine wpAnyH_take (i := 1) (oi := ⟨some 81, _, _, _, _, _⟩) (v := .string nm) rfl (by kernel_rfl) (by kernel_rfl) (by kernel_rfl) (fun _ _ _ h => h) (Or.inl ⟨by rfl, ?_⟩) (by assumption) ?_; (focus (intro w hSw; (try dsimp only at hSw); go_simp; done)); try simp only [Act.put, List.setIfInBounds_toArray, List.set_cons_zero, List.set_cons_succ])
          (refine wpAnyH_take (i := 3) (oi := ⟨some 83, _, _, _, _, _⟩) (v := .agg #[.int .i64 c, .slice P1 s.recs.length p1, .slice P2 s.states.length p2, .int .i64 s.reads, .slice P3 s.rings.length p3]) rfl (by kernel_rfl) (by kernel_rfl) (by kernel_rfl) (fun _ _ _ h => h) (Or.inl ⟨by rfl, ?_⟩) (by assumption) ?_; (focus (intro w hSw; (try dsimp only at hSw); go_simp; done)); try simp only [Act.put, List.setIfInBounds_toArray, List.set_cons_zero, List.set_cons_succ])
          refine wpAnyH_ready (rs := [2]) (by kernel_rfl) (by simp) ?_
          refine AllReadyH.cons (o := ⟨some 82, _, _, _, _, _⟩) rfl (fun K hK => ?_) AllReadyH.nil
          go_simp
          have bd : Below W7.heap.size W7 wl.drew := Below.drew HBB
          refine (HILS.out wl.drew _ (HIN.out.below bd) (HML.out.below bd)).mono ?_
          rintro e w20 ⟨xc, xs, xr, rfl, hrep, hb20⟩
          have b20 := below_then bd bd.size hb20
          have hxg := hrep.rg
          obtain ⟨⟨x1, x2, x3⟩, y1, y2, y3, y4, y5⟩ := hHeld
          refine hK.out _ _ ⟨⟨keep_cell x1 hb20, keep_cell x2 hb20, keep_cell x3 hb20⟩, keep_cell y1 hb20, keep_cell y2 hb20, keep_cell y3 hb20, keep_cell y4 hb20, keep_cell y5 hb20⟩ (fun hHeld => ?_)
          clear hK K hrep hb20 x1 x2 x3 y1 y2 y3 y4 y5
          skip
          refine wpAnyH_ready (rs := [4]) (by kernel_rfl) (by simp) ?_
          refine AllReadyH.cons (o := ⟨some 84, _, _, _, _, _⟩) rfl (fun K hK => ?_) AllReadyH.nil
          go_simp
          refine (wReport_same c s.reads s _ _ _ _ _ _ _ _ w20 hxg (HW.out.below b20)).mono ?_
          rintro e w21 ⟨rfl, hb21⟩
          have b21 := below_then b20 b20.size hb21
          obtain ⟨⟨x1, x2, x3⟩, y1, y2, y3, y4, y5⟩ := hHeld
          refine hK.out _ _ ⟨⟨keep_cell x1 hb21, keep_cell x2 hb21, keep_cell x3 hb21⟩, keep_cell y1 hb21, keep_cell y2 hb21, keep_cell y3 hb21, keep_cell y4 hb21, keep_cell y5 hb21⟩ (fun hHeld => ?_)
          clear hK K
          try simp only [Act.put, List.setIfInBounds_toArray, List.set_cons_zero, List.set_cons_succ]
          (refine wpAnyH_take (i := 5) (oi := ⟨some 2, _, _, _, _, _⟩) (v := .bool true) rfl (by kernel_rfl) (by kernel_rfl) (by kernel_rfl) (fun _ _ _ h => h) (Or.inl ⟨by rfl, ?_⟩) (by assumption) ?_; (focus (intro w hSw; (try dsimp only at hSw); go_simp; done)); try simp only [Act.put, List.setIfInBounds_toArray, List.set_cons_zero, List.set_cons_succ])
          refine wpAnyH_done (by kernel_rfl) ?_ _
          clear hHeld
          go_wp2_with fail
          go_ret
          exact ⟨rfl, below_then HBW.out HBW.out.size b21⟩
end Go.Proofs.YtkhlicmlnjccdaaGreatDoor
