/-
  Walk: the reference's spoil.
-/
import Derived.Test.YtkhlicmlnjccdaaGreatDoorKs32
import Derived.Test.YtkhlicmlnjccdaaGreatDoorKs19
import Derived.Test.YtkhlicmlnjccdaaGreatDoorKs15
import Derived.Deep.DeepCutAuto
import Derived.Deep.RegionLaw
import Derived.Deep.CutBlock
import Derived.Deep.RegionHeld3
namespace Go.Proofs.YtkhlicmlnjccdaaGreatDoor
open Go.RowKit Mem
/-- what spoiling hands back -/
def RetSpoil (w : World) (B g : Nat) (A : Option Addr) (n cp : Nat) (code : List Int) (K N : Nat) (e : Ending) (w' : World) : Prop :=
  ∃ (vR vM vF : Value) (roots : List Str) (hs : List HdrD) (ms : List ModD) (fs : List Int), e = .returned (.agg #[vR, vM, vF]) ∧ OW w' B N vR vM vF roots hs ms fs ∧ CurIn w' g A n cp code K ∧ Below B w w' ∧ KeepW w w'
def spoilRoots : List Str := [⟨#[97, 47]⟩, ⟨#[46, 46]⟩, ⟨#[46, 47, 97]⟩, ⟨#[65]⟩, ⟨#[108, 105, 98]⟩]
theorem spoilRoots_at {w : World} {b : Nat} {t : TypeId} (h : w.heap[b]? = some (Obj.cells #[.string ⟨#[97, 47]⟩, .string ⟨#[46, 46]⟩, .string ⟨#[46, 47, 97]⟩, .string ⟨#[65]⟩, .string ⟨#[108, 105, 98]⟩] t (0, 0))) (r : Nat) (hr : r < 5) : ∃ s : Str, w.cell? ⟨b, r, none⟩ = some (.string s) ∧ s.size ≤ 3 := by
  rw [blk_cell h r]
  rcases r with _ | _ | _ | _ | _ | r
  all_goals first | exact ⟨_, rfl, by decide⟩ | omega
theorem info_int11 : (Tryz.prog.info? 3).map (fun i => (i.zero, i.size, i.bytes)) = some (some (.int .i64 0), 1, 8) := by kernel_rfl
theorem info_str11 : (Tryz.prog.info? 9).map (fun i => (i.zero, i.size, i.bytes)) = some (some (.string ByteArray.empty), 1, 16) := by kernel_rfl
theorem info_line11 : (Tryz.prog.info? 106).map (fun i => (i.zero, i.size, i.bytes)) = some (some (.agg #[.int .i64 0, .string ⟨#[]⟩, .int .i64 0, .int .i64 0]), 4, 40) := by kernel_rfl

set_option maxRecDepth 100000 in
set_option maxHeartbeats 4000000 in
theorem spoil_in (w : World) (B g n cp K N : Nat) (A : Option Addr) (code : List Int) (vR vM vF : Value) (roots : List Str) (hs : List HdrD) (ms : List ModD) (fs : List Int) (hc : CurIn w g A n cp code K) (hk : K ≤ 1000000) (hN : N ≤ 1000) (hBg : B ≤ g) (hcb : CodeBelow A code B) (ho : OW w B N vR vM vF roots hs ms fs) :
    Calls Tryz.prog 56 #[.pointer (some ⟨g, 0, none⟩), .agg #[vR, vM, vF]] w (RetSpoil w B g A n cp code (K + 1000) (N + 3)) := by
  have hgl := hc.lt
  obtain ⟨rA, rc, hrv, _, _, _⟩ := ho.R.slV
  obtain ⟨mA, mc, hmv, _, _, _⟩ := ho.M.slV
  obtain ⟨fA, fc, hfv, _, _, _⟩ := ho.F.slV
  subst hrv hmv hfv
  have hrl := ho.rz.1
  have hml := ho.mz.1
  have hfl := ho.fz
  have hlm := ho.M.len
  go_enter Tryz.func56, Tryz.ntmps56
  go_upto_region 1 with fail
  have hw0 : SpAt w ((w.alloc (Obj.cells #[.slice rA roots.length rc, .slice mA ms.length mc, .slice fA fs.length fc] 27)).alloc (Obj.cells #[.slice none 0 0, .slice none 0 0, .slice none 0 0] 27)) B w.heap.size (w.heap.size + 1) g A n cp code K N (.slice rA roots.length rc) (.slice mA ms.length mc) (.slice fA fs.length fc) roots hs ms fs := by
    have hb : Below w.heap.size w ((w.alloc (Obj.cells #[.slice rA roots.length rc, .slice mA ms.length mc, .slice fA fs.length fc] 27)).alloc (Obj.cells #[.slice none 0 0, .slice none 0 0, .slice none 0 0] 27)) := by (repeat (first | with_reducible exact Below.refl _ _ | with_reducible assumption | with_reducible refine Below.alloc ?_ (by first | exact Nat.le_refl _ | exact Below.size (by assumption) | exact Nat.le_trans (Below.size (by assumption)) (by simp; done) | (simp; done) | (simp; omega) | omega) _ | with_reducible refine below_drewN ?_ _ | with_reducible refine Below.drew ?_ | with_reducible refine Below.setCell ?_ (by first | exact Nat.le_refl _ | (simp; done) | (simp; omega) | omega) _))
    obtain ⟨a1, a2, a3⟩ := alloc_two w (Obj.cells #[.slice rA roots.length rc, .slice mA ms.length mc, .slice fA fs.length fc] 27) (Obj.cells #[.slice none 0 0, .slice none 0 0, .slice none 0 0] 27)
    exact ⟨a1, a2, by omega, by omega, by omega, hc.below hb, hBg, by omega, by omega, hcb, ho.below hb, hb.mono (by omega), (KeepW.refl w).below hb, by omega, by omega⟩
  generalize (w.alloc (Obj.cells #[.slice rA roots.length rc, .slice mA ms.length mc, .slice fA fs.length fc] 27)).alloc (Obj.cells #[.slice none 0 0, .slice none 0 0, .slice none 0 0] 27) = W1 at hw0 ⊢
  clear hc ho
  go_wp2_with fail
  refine (pick_in 8 hw0.cur (by omega) (by omega) (by omega)).mono ?_
  rintro e w1 ⟨r1, rfl, hr1, hc1, hg1⟩
  have hw1 := hw0.cur' hc1 hg1
  clear hw0 hc1 hg1
  have hcase : r1 = 0 ∨ r1 = 1 ∨ r1 = 2 ∨ r1 = 3 ∨ (((r1 : Int) == 0) = false ∧ ((r1 : Int) == 1) = false ∧ ((r1 : Int) == 2) = false ∧ ((r1 : Int) == 3) = false) := by
    by_cases h0 : r1 = 0
    · exact .inl h0
    by_cases h1 : r1 = 1
    · exact .inr (.inl h1)
    by_cases h2 : r1 = 2
    · exact .inr (.inr (.inl h2))
    by_cases h3 : r1 = 3
    · exact .inr (.inr (.inr (.inl h3)))
    exact .inr (.inr (.inr (.inr ⟨by simp; omega, by simp; omega, by simp; omega, by simp; omega⟩)))
  have x1' : w1.cell? ⟨w.heap.size, 1, none⟩ = some (.slice mA ms.length mc) := blk_cell hw1.box 1
  have hlb1 := hw1.ltb
  have hlB1 := hw1.ltB
  rcases hcase with rfl | rfl | rfl | rfl | ⟨hn0, hn1, hn2, hn3⟩
  · have q0 : w1.cell? ⟨w.heap.size, 0, none⟩ = some (.slice rA roots.length rc) := blk_cell hw1.box 0
    go_upto_region 3 with fail
    go_region_law (first
      | ((go_simp; refine (pick_in 5 (hw1.below (by (repeat (first | with_reducible exact Below.refl _ _ | with_reducible assumption | with_reducible refine Below.alloc ?_ (by first | exact Nat.le_refl _ | exact Below.size (by assumption) | exact Nat.le_trans (Below.size (by assumption)) (by simp; done) | (simp; done) | (simp; omega) | omega) _ | with_reducible refine below_drewN ?_ _ | with_reducible refine Below.drew ?_ | with_reducible refine Below.setCell ?_ (by first | exact Nat.le_refl _ | (simp; done) | (simp; omega) | omega) _)))).cur (by omega) (by omega) (by omega)).mono ?_; rintro e w7 ⟨r2, rfl, hr2, hc7, hg7⟩; have hr7 := SpAt.cur' (hw1.below (by (repeat (first | with_reducible exact Below.refl _ _ | with_reducible assumption | with_reducible refine Below.alloc ?_ (by first | exact Nat.le_refl _ | exact Below.size (by assumption) | exact Nat.le_trans (Below.size (by assumption)) (by simp; done) | (simp; done) | (simp; omega) | omega) _ | with_reducible refine below_drewN ?_ _ | with_reducible refine Below.drew ?_ | with_reducible refine Below.setCell ?_ (by first | exact Nat.le_refl _ | (simp; done) | (simp; omega) | omega) _)))) hc7 hg7; have hne5 : some w1.heap.size ≠ some g := (fun e => by have e2 := Option.some.inj e; omega); (first | (have hq1 := heap_alloc_new w1 (Obj.cells #[.string ⟨#[97, 47]⟩, .string ⟨#[46, 46]⟩, .string ⟨#[46, 47, 97]⟩, .string ⟨#[65]⟩, .string ⟨#[108, 105, 98]⟩] 9); obtain ⟨s5, hs5, hz5⟩ := spoilRoots_at ((hg7.block _ (Array.getElem?_eq_some_iff.1 hq1).1 hne5).trans hq1) r2 hr2; clear hq1) | (obtain ⟨s5, hs5, hz5⟩ := spoilRoots_at (w := w7.alloc (Obj.cells #[.string ⟨#[97, 47]⟩, .string ⟨#[46, 46]⟩, .string ⟨#[46, 47, 97]⟩, .string ⟨#[65]⟩, .string ⟨#[108, 105, 98]⟩] 9)) (b := w7.heap.size) (heap_alloc_new w7 (Obj.cells #[.string ⟨#[97, 47]⟩, .string ⟨#[46, 46]⟩, .string ⟨#[46, 47, 97]⟩, .string ⟨#[65]⟩, .string ⟨#[108, 105, 98]⟩] 9)) r2 hr2)); have hr25 : (r2 : Int) < 5 := (by omega); have q07 : w7.cell? ⟨w.heap.size, 0, none⟩ = some (.slice rA roots.length rc) := blk_cell hr7.box 0; have hl7 := hr7.ltb; have hlB7 := hr7.ltB; clear hc7 hg7))
      | ((refine step_own fStr B (by rfl) _ _ 23 9 (.string ByteArray.empty) 16 (by rfl) Tryz.underlying23 info_str11 rfl (by omega) (.slice rA roots.length rc) roots s5 #[.string s5] rfl (by rfl) w7.heap.size (by rfl) (by exact heap_alloc_new _ _) (hr7.ow.R.alloc _) (by simp; omega) (by omega) ?_; intro v8 w8 hown8 hgr8 hnew8; have hb8 := ((hr7.below (Below.alloc (Below.refl _ w7) (Nat.le_refl _) (Obj.cells #[.string s5] 9))).turn (hr7.ow.R.alloc _) (by decide) (by decide) hgr8).1; have q8 := blk_cell hb8 0; have f8 := blk_free hb8 0; obtain ⟨yA, yc, hv8, _, _, _⟩ := hown8.slV; subst hv8))
      | ((refine step_own fStr B (by rfl) _ _ 23 9 (.string ByteArray.empty) 16 (by rfl) Tryz.underlying23 info_str11 rfl (by omega) (.slice rA roots.length rc) roots s5 #[.string s5] rfl (by rfl) (w7.heap.size + 1) (by rfl) (by have hq := heap_alloc_new (w7.alloc (Obj.cells #[.string ⟨#[97, 47]⟩, .string ⟨#[46, 46]⟩, .string ⟨#[46, 47, 97]⟩, .string ⟨#[65]⟩, .string ⟨#[108, 105, 98]⟩] 9)) (Obj.cells #[.string s5] 9); simpa using hq) ((hr7.ow.R.alloc (Obj.cells #[.string ⟨#[97, 47]⟩, .string ⟨#[46, 46]⟩, .string ⟨#[46, 47, 97]⟩, .string ⟨#[65]⟩, .string ⟨#[108, 105, 98]⟩] 9)).alloc (Obj.cells #[.string s5] 9)) (by simp; omega) (by omega) ?_; intro v8 w8 hown8 hgr8 hnew8; have hb8 := (((hr7.below (Below.alloc (Below.refl _ w7) (Nat.le_refl _) (Obj.cells #[.string ⟨#[97, 47]⟩, .string ⟨#[46, 46]⟩, .string ⟨#[46, 47, 97]⟩, .string ⟨#[65]⟩, .string ⟨#[108, 105, 98]⟩] 9))).below (Below.alloc (Below.refl _ _) (Nat.le_refl _) (Obj.cells #[.string s5] 9))).turn ((hr7.ow.R.alloc (Obj.cells #[.string ⟨#[97, 47]⟩, .string ⟨#[46, 46]⟩, .string ⟨#[46, 47, 97]⟩, .string ⟨#[65]⟩, .string ⟨#[108, 105, 98]⟩] 9)).alloc (Obj.cells #[.string s5] 9)) (by decide) (by decide) hgr8).1; have q8 := blk_cell hb8 0; have f8 := blk_free hb8 0; obtain ⟨yA, yc, hv8, _, _, _⟩ := hown8.slV; subst hv8)))
    all_goals
      have hz9 : (roots ++ [s5]).length ≤ N + 1 ∧ ∀ x ∈ roots ++ [s5], x.size ≤ 200 := ⟨by simp; omega, fun x hx => by
        rcases List.mem_append.1 hx with hx | hx
        · exact hr7.ow.rz.2 x hx
        · rw [List.mem_singleton.1 hx]; omega⟩
      have hr9 : SpAt w (w8.setCell ⟨w.heap.size, 0, none⟩ (.slice yA (roots ++ [s5]).length yc)) B w.heap.size (w.heap.size + 1) g A n cp code (K + 2 + 2) (N + 1) (.slice yA (roots ++ [s5]).length yc) (.slice mA ms.length mc) (.slice fA fs.length fc) (roots ++ [s5]) hs ms fs := by
        first
          | exact (hr7.below (Below.alloc (Below.refl _ w7) (Nat.le_refl _) (Obj.cells #[.string s5] 9))).root hown8 hgr8 (Nat.le_succ N) hz9
          | exact ((hr7.below (Below.alloc (Below.refl _ w7) (Nat.le_refl _) (Obj.cells #[.string ⟨#[97, 47]⟩, .string ⟨#[46, 46]⟩, .string ⟨#[46, 47, 97]⟩, .string ⟨#[65]⟩, .string ⟨#[108, 105, 98]⟩] 9))).below (Below.alloc (Below.refl _ _) (Nat.le_refl _) (Obj.cells #[.string s5] 9))).root hown8 hgr8 (Nat.le_succ N) hz9
      rw [show (roots ++ [s5]).length = roots.length + 1 by simp] at hr9
      clear q0 hown8 hgr8 hnew8 hb8 q8 f8 hr7 q07 hl7 hw1 hs5 hz9
      generalize w8.setCell ⟨w.heap.size, 0, none⟩ (.slice yA (roots.length + 1) yc) = W9 at hr9 ⊢
      have x0 := blk_cell hr9.box 0
      have x1 := blk_cell hr9.box 1
      have x2 := blk_cell hr9.box 2
      have y0 := blk_cell hr9.res 0
      have y1 := blk_cell hr9.res 1
      have y2 := blk_cell hr9.res 2
      have z0 := blk_free hr9.res 0
      have z1 := blk_free hr9.res 1
      have z2 := blk_free hr9.res 2
      go_wp2_with fail
      refine bodyPost_ret (v := .agg #[.slice yA (roots.length + 1) yc, .slice mA ms.length mc, .slice fA fs.length fc]) (by simp [results, Tryz.results56, go_sem, y0, y1, y2]) rfl ⟨_, _, _, _, _, _, _, rfl, (hr9.ends _ _ _).1.more (by omega), (hr9.ends _ _ _).2.1.more (by omega), (hr9.ends _ _ _).2.2⟩
  · have q0 : w1.cell? ⟨w.heap.size, 2, none⟩ = some (.slice fA fs.length fc) := blk_cell hw1.box 2
    go_upto_region 6 with fail
    go_region_law (first
      | ((go_simp; refine (pick_in 9 (hw1.below (by (repeat (first | with_reducible exact Below.refl _ _ | with_reducible assumption | with_reducible refine Below.alloc ?_ (by first | exact Nat.le_refl _ | exact Below.size (by assumption) | exact Nat.le_trans (Below.size (by assumption)) (by simp; done) | (simp; done) | (simp; omega) | omega) _ | with_reducible refine below_drewN ?_ _ | with_reducible refine Below.drew ?_ | with_reducible refine Below.setCell ?_ (by first | exact Nat.le_refl _ | (simp; done) | (simp; omega) | omega) _)))).cur (by omega) (by omega) (by omega)).mono ?_; rintro e w7 ⟨r2, rfl, hr2, hc7, hg7⟩; have hr7 := SpAt.cur' (hw1.below (by (repeat (first | with_reducible exact Below.refl _ _ | with_reducible assumption | with_reducible refine Below.alloc ?_ (by first | exact Nat.le_refl _ | exact Below.size (by assumption) | exact Nat.le_trans (Below.size (by assumption)) (by simp; done) | (simp; done) | (simp; omega) | omega) _ | with_reducible refine below_drewN ?_ _ | with_reducible refine Below.drew ?_ | with_reducible refine Below.setCell ?_ (by first | exact Nat.le_refl _ | (simp; done) | (simp; omega) | omega) _)))) hc7 hg7; have q07 : w7.cell? ⟨w.heap.size, 2, none⟩ = some (.slice fA fs.length fc) := blk_cell hr7.box 2; have hl7 := hr7.ltb; have hlB7 := hr7.ltB; clear hc7 hg7))
      | ((refine step_own fInt B (by rfl) _ _ 25 3 (.int .i64 0) 8 (by rfl) Tryz.underlying25 info_int11 rfl (by omega) (.slice fA fs.length fc) fs (IntKind.i64.wrap ((r2 : Int) - 1)) #[.int .i64 (IntKind.i64.wrap ((r2 : Int) - 1))] rfl (by rfl) w7.heap.size (by rfl) (by exact heap_alloc_new _ _) (hr7.ow.F.alloc _) (by simp; omega) (by omega) ?_; intro v8 w8 hown8 hgr8 hnew8; have hb8 := ((hr7.below (Below.alloc (Below.refl _ w7) (Nat.le_refl _) (Obj.cells #[.int .i64 (IntKind.i64.wrap ((r2 : Int) - 1))] 3))).turn (hr7.ow.F.alloc _) (by decide) (by decide) hgr8).1; have q8 := blk_cell hb8 2; have f8 := blk_free hb8 2; obtain ⟨yA, yc, hv8, _, _, _⟩ := hown8.slV; subst hv8)))
    all_goals
      have hr9 := (hr7.below (Below.alloc (Below.refl _ w7) (Nat.le_refl _) (Obj.cells #[.int .i64 (IntKind.i64.wrap ((r2 : Int) - 1))] 3))).fault hown8 hgr8 (Nat.le_succ N) (by simp; omega)
      rw [show (fs ++ [(IntKind.i64.wrap ((r2 : Int) - 1) : Int)]).length = fs.length + 1 by simp] at hr9
      clear q0 hown8 hgr8 hnew8 hb8 q8 f8 hr7 q07 hl7 hw1
      generalize w8.setCell ⟨w.heap.size, 2, none⟩ (.slice yA (fs.length + 1) yc) = W9 at hr9 ⊢
      have x0 := blk_cell hr9.box 0
      have x1 := blk_cell hr9.box 1
      have x2 := blk_cell hr9.box 2
      have y0 := blk_cell hr9.res 0
      have y1 := blk_cell hr9.res 1
      have y2 := blk_cell hr9.res 2
      have z0 := blk_free hr9.res 0
      have z1 := blk_free hr9.res 1
      have z2 := blk_free hr9.res 2
      go_wp2_with fail
      refine bodyPost_ret (v := .agg #[.slice rA roots.length rc, .slice mA ms.length mc, .slice yA (fs.length + 1) yc]) (by simp [results, Tryz.results56, go_sem, y0, y1, y2]) rfl ⟨_, _, _, _, _, _, _, rfl, (hr9.ends _ _ _).1.more (by omega), (hr9.ends _ _ _).2.1.more (by omega), (hr9.ends _ _ _).2.2⟩
  · have q0 : w1.cell? ⟨w.heap.size, 2, none⟩ = some (.slice fA fs.length fc) := blk_cell hw1.box 2
    go_upto_region 9 with fail
    go_region_law (first
      | ((go_simp; refine (pick_in 2 (hw1.below (by (repeat (first | with_reducible exact Below.refl _ _ | with_reducible assumption | with_reducible refine Below.alloc ?_ (by first | exact Nat.le_refl _ | exact Below.size (by assumption) | exact Nat.le_trans (Below.size (by assumption)) (by simp; done) | (simp; done) | (simp; omega) | omega) _ | with_reducible refine below_drewN ?_ _ | with_reducible refine Below.drew ?_ | with_reducible refine Below.setCell ?_ (by first | exact Nat.le_refl _ | (simp; done) | (simp; omega) | omega) _)))).cur (by omega) (by omega) (by omega)).mono ?_; rintro e w7 ⟨r2, rfl, hr2, hc7, hg7⟩; have hr7 := SpAt.cur' (hw1.below (by (repeat (first | with_reducible exact Below.refl _ _ | with_reducible assumption | with_reducible refine Below.alloc ?_ (by first | exact Nat.le_refl _ | exact Below.size (by assumption) | exact Nat.le_trans (Below.size (by assumption)) (by simp; done) | (simp; done) | (simp; omega) | omega) _ | with_reducible refine below_drewN ?_ _ | with_reducible refine Below.drew ?_ | with_reducible refine Below.setCell ?_ (by first | exact Nat.le_refl _ | (simp; done) | (simp; omega) | omega) _)))) hc7 hg7; have q07 : w7.cell? ⟨w.heap.size, 2, none⟩ = some (.slice fA fs.length fc) := blk_cell hr7.box 2; have hl7 := hr7.ltb; have hlB7 := hr7.ltB; clear hc7 hg7))
      | ((refine step_own fInt B (by rfl) _ _ 25 3 (.int .i64 0) 8 (by rfl) Tryz.underlying25 info_int11 rfl (by omega) (.slice fA fs.length fc) fs (IntKind.i64.wrap (400 - (r2 : Int))) #[.int .i64 (IntKind.i64.wrap (400 - (r2 : Int)))] rfl (by rfl) w7.heap.size (by rfl) (by exact heap_alloc_new _ _) (hr7.ow.F.alloc _) (by simp; omega) (by omega) ?_; intro v8 w8 hown8 hgr8 hnew8; have hb8 := ((hr7.below (Below.alloc (Below.refl _ w7) (Nat.le_refl _) (Obj.cells #[.int .i64 (IntKind.i64.wrap (400 - (r2 : Int)))] 3))).turn (hr7.ow.F.alloc _) (by decide) (by decide) hgr8).1; have q8 := blk_cell hb8 2; have f8 := blk_free hb8 2; obtain ⟨yA, yc, hv8, _, _, _⟩ := hown8.slV; subst hv8)))
    all_goals
      have hr9 := (hr7.below (Below.alloc (Below.refl _ w7) (Nat.le_refl _) (Obj.cells #[.int .i64 (IntKind.i64.wrap (400 - (r2 : Int)))] 3))).fault hown8 hgr8 (Nat.le_succ N) (by simp; omega)
      rw [show (fs ++ [(IntKind.i64.wrap (400 - (r2 : Int)) : Int)]).length = fs.length + 1 by simp] at hr9
      clear q0 hown8 hgr8 hnew8 hb8 q8 f8 hr7 q07 hl7 hw1
      generalize w8.setCell ⟨w.heap.size, 2, none⟩ (.slice yA (fs.length + 1) yc) = W9 at hr9 ⊢
      have x0 := blk_cell hr9.box 0
      have x1 := blk_cell hr9.box 1
      have x2 := blk_cell hr9.box 2
      have y0 := blk_cell hr9.res 0
      have y1 := blk_cell hr9.res 1
      have y2 := blk_cell hr9.res 2
      have z0 := blk_free hr9.res 0
      have z1 := blk_free hr9.res 1
      have z2 := blk_free hr9.res 2
      go_wp2_with fail
      refine bodyPost_ret (v := .agg #[.slice rA roots.length rc, .slice mA ms.length mc, .slice yA (fs.length + 1) yc]) (by simp [results, Tryz.results56, go_sem, y0, y1, y2]) rfl ⟨_, _, _, _, _, _, _, rfl, (hr9.ends _ _ _).1.more (by omega), (hr9.ends _ _ _).2.1.more (by omega), (hr9.ends _ _ _).2.2⟩
  · have q0 : w1.cell? ⟨w.heap.size, 1, none⟩ = some (.slice mA ms.length mc) := x1'
    go_upto_region 12 with fail
    go_region_law (first
      | ((go_simp; refine (ask_in (hw1.below (by (repeat (first | with_reducible exact Below.refl _ _ | with_reducible assumption | with_reducible refine Below.alloc ?_ (by first | exact Nat.le_refl _ | exact Below.size (by assumption) | exact Nat.le_trans (Below.size (by assumption)) (by simp; done) | (simp; done) | (simp; omega) | omega) _ | with_reducible refine below_drewN ?_ _ | with_reducible refine Below.drew ?_ | with_reducible refine Below.setCell ?_ (by first | exact Nat.le_refl _ | (simp; done) | (simp; omega) | omega) _)))).cur (by omega)).mono ?_; rintro e w7 ⟨s, rfl, hs7, hc7, hg7⟩; have hr7 := SpAt.cur' (hw1.below (by (repeat (first | with_reducible exact Below.refl _ _ | with_reducible assumption | with_reducible refine Below.alloc ?_ (by first | exact Nat.le_refl _ | exact Below.size (by assumption) | exact Nat.le_trans (Below.size (by assumption)) (by simp; done) | (simp; done) | (simp; omega) | omega) _ | with_reducible refine below_drewN ?_ _ | with_reducible refine Below.drew ?_ | with_reducible refine Below.setCell ?_ (by first | exact Nat.le_refl _ | (simp; done) | (simp; omega) | omega) _)))) hc7 hg7; have q07 : w7.cell? ⟨w.heap.size, 1, none⟩ = some (.slice mA ms.length mc) := blk_cell hr7.box 1; have hl7 := hr7.ltb; have hlB7 := hr7.ltB; clear hc7 hg7))
      | ((refine step_own fHdr B (by rfl) _ _ 24 75 (.agg #[.string ⟨#[]⟩, .slice none 0 0]) 40 (by rfl) Tryz.underlying24 info_mod rfl (by omega) (.slice mA ms.length mc) hs ⟨s, none, 0, 0⟩ #[.string s, .slice none 0 0] rfl (by rfl) w7.heap.size (by rfl) (by exact heap_alloc_new _ _) (hr7.ow.M.row.alloc _) (by simp; omega) (by omega) ?_; intro v8 w8 hown8 hgr8 hnew8; have hb8 := ((hr7.below (Below.alloc (Below.refl _ w7) (Nat.le_refl _) (Obj.cells #[.string s, .slice none 0 0] 75))).turn (hr7.ow.M.row.alloc _) (by decide) (by decide) hgr8).1; have q8 := blk_cell hb8 1; have f8 := blk_free hb8 1; obtain ⟨yA, yc, hv8, _, _, _⟩ := hown8.slV; subst hv8)))
    all_goals
      have hr9 := (hr7.below (Below.alloc (Below.refl _ w7) (Nat.le_refl _) (Obj.cells #[.string s, .slice none 0 0] 75))).snoc hown8 hgr8 (by omega)
      rw [show (hs ++ [(⟨s, none, 0, 0⟩ : HdrD)]).length = ms.length + 1 by simp [hlm]] at hr9
      clear q0 hown8 hgr8 hnew8 hb8 q8 f8 hr7 q07 hl7 hw1 x1'
      generalize w8.setCell ⟨w.heap.size, 1, none⟩ (.slice yA (ms.length + 1) yc) = W9 at hr9 ⊢
      have x0 := blk_cell hr9.box 0
      have x1 := blk_cell hr9.box 1
      have x2 := blk_cell hr9.box 2
      have y0 := blk_cell hr9.res 0
      have y1 := blk_cell hr9.res 1
      have y2 := blk_cell hr9.res 2
      have z0 := blk_free hr9.res 0
      have z1 := blk_free hr9.res 1
      have z2 := blk_free hr9.res 2
      go_wp2_with fail
      refine bodyPost_ret (v := .agg #[.slice rA roots.length rc, .slice yA (ms.length + 1) yc, .slice fA fs.length fc]) (by simp [results, Tryz.results56, go_sem, y0, y1, y2]) rfl ⟨_, _, _, _, _, _, _, rfl, (hr9.ends _ _ _).1.more (by omega), (hr9.ends _ _ _).2.1.more (by omega), (hr9.ends _ _ _).2.2⟩
  · by_cases hm0 : ms.length = 0
    · have hm0b : ((ms.length : Int) == 0) = true := by rw [hm0]; rfl
      clear hm0
      go_upto_region 15 with fail
      have x0 := blk_cell hw1.box 0
      have x1 := blk_cell hw1.box 1
      have x2 := blk_cell hw1.box 2
      have y0 := blk_cell hw1.res 0
      have y1 := blk_cell hw1.res 1
      have y2 := blk_cell hw1.res 2
      have z0 := blk_free hw1.res 0
      have z1 := blk_free hw1.res 1
      have z2 := blk_free hw1.res 2
      go_wp2_with fail
      refine bodyPost_ret (v := .agg #[.slice rA roots.length rc, .slice mA ms.length mc, .slice fA fs.length fc]) (by simp [results, Tryz.results56, go_sem, y0, y1, y2]) rfl ⟨_, _, _, _, _, _, _, rfl, (hw1.ends _ _ _).1.more (by omega), (hw1.ends _ _ _).2.1.more (by omega), (hw1.ends _ _ _).2.2⟩
    have hm0b : ((ms.length : Int) == 0) = false := beq_eq_false_iff_ne.2 (by omega)
    have hmp : 0 < ms.length := by omega
    clear hm0
    obtain ⟨gM, mc', hmv, _, _, _, _, _, _⟩ := hw1.ow.M.row.form (fun e => by rw [e] at hlm; simp at hlm; omega)
    injection hmv with hA hA2 hA3
    clear hA2 hA3
    subst hA
    go_upto_region 16 with fail
    refine wp_region_held_drew (S := fun w' => w'.cell? ⟨w.heap.size, 1, none⟩ = some (.slice (some ⟨gM, 0, none⟩) ms.length mc)) (by kernel_rfl) x1' (fun hHeld => ?_)
    (refine wpAnyH_take (i := 0) (oi := ⟨some 60, _, _, _, _, _⟩) (v := .pointer (some ⟨w.heap.size, 1, none⟩)) rfl (by kernel_rfl) (by kernel_rfl) (by kernel_rfl) (fun _ _ _ h => h) (Or.inl ⟨by rfl, ?_⟩) (by assumption) ?_; (focus (intro w hSw; (try dsimp only at hSw); go_simp; done)); try simp only [Act.put, List.setIfInBounds_toArray, List.set_cons_zero, List.set_cons_succ])
    (refine wpAnyH_take (i := 1) (oi := ⟨some 61, _, _, _, _, _⟩) (v := .slice (some ⟨gM, 0, none⟩) ms.length mc) rfl (by kernel_rfl) (by kernel_rfl) (by kernel_rfl) (fun _ _ _ h => h) (Or.inl ⟨by rfl, ?_⟩) (by assumption) ?_; (focus (intro w hSw; (try dsimp only at hSw); go_simp; done)); try simp only [Act.put, List.setIfInBounds_toArray, List.set_cons_zero, List.set_cons_succ])
    (refine wpAnyH_take (i := 2) (oi := ⟨some 62, _, _, _, _, _⟩) (v := .pointer (some ⟨g, 0, none⟩)) rfl (by kernel_rfl) (by kernel_rfl) (by kernel_rfl) (fun _ _ _ h => h) (Or.inl ⟨by rfl, ?_⟩) (by assumption) ?_; (focus (intro w hSw; (try dsimp only at hSw); go_simp; done)); try simp only [Act.put, List.setIfInBounds_toArray, List.set_cons_zero, List.set_cons_succ])
    (refine wpAnyH_take (i := 3) (oi := ⟨some 63, _, _, _, _, _⟩) (v := .pointer (some ⟨w.heap.size, 1, none⟩)) rfl (by kernel_rfl) (by kernel_rfl) (by kernel_rfl) (fun _ _ _ h => h) (Or.inl ⟨by rfl, ?_⟩) (by assumption) ?_; (focus (intro w hSw; (try dsimp only at hSw); go_simp; done)); try simp only [Act.put, List.setIfInBounds_toArray, List.set_cons_zero, List.set_cons_succ])
    (refine wpAnyH_take (i := 4) (oi := ⟨some 64, _, _, _, _, _⟩) (v := .slice (some ⟨gM, 0, none⟩) ms.length mc) rfl (by kernel_rfl) (by kernel_rfl) (by kernel_rfl) (fun _ _ _ h => h) (Or.inl ⟨by rfl, ?_⟩) (by assumption) ?_; (focus (intro w hSw; (try dsimp only at hSw); go_simp; done)); try simp only [Act.put, List.setIfInBounds_toArray, List.set_cons_zero, List.set_cons_succ])
    (refine wpAnyH_take (i := 5) (oi := ⟨some 65, _, _, _, _, _⟩) (v := .int .i64 ms.length) rfl (by kernel_rfl) (by kernel_rfl) (by kernel_rfl) (fun _ _ _ h => h) (Or.inl ⟨by rfl, ?_⟩) (by assumption) ?_; (focus (intro w hSw; (try dsimp only at hSw); go_simp; done)); try simp only [Act.put, List.setIfInBounds_toArray, List.set_cons_zero, List.set_cons_succ])
    refine wpAnyH_ready (rs := [6]) (by kernel_rfl) (by simp) ?_
    refine AllReadyH.cons (o := ⟨some 66, _, _, _, _, _⟩) rfl (fun K hK => ?_) AllReadyH.nil
    go_simp
    have hw1d := hw1.below (Below.drew (Below.refl w1.heap.size w1))
    refine (pick_in ms.length hw1d.cur (by omega) (by omega) (by omega)).mono ?_
    rintro e w2 ⟨r2, rfl, hr2, hc2, hg2⟩
    have hw2 := hw1d.cur' hc2 hg2
    refine hK.out _ _ (blk_cell hw2.box 1) (fun hHeld => ?_)
    clear hK K hc2 hg2 hw1 hw1d x1'
    try simp only [Act.put, List.setIfInBounds_toArray, List.set_cons_zero, List.set_cons_succ]
    (refine wpAnyH_take (i := 7) (oi := ⟨some 67, _, _, _, _, _⟩) (v := .pointer (some ⟨gM, r2 * 2, none⟩)) rfl (by kernel_rfl) (by kernel_rfl) (by kernel_rfl) (fun _ _ _ h => h) (Or.inl ⟨by rfl, ?_⟩) (by assumption) ?_; (focus (intro w hSw; (try dsimp only at hSw); go_simp; done)); try simp only [Act.put, List.setIfInBounds_toArray, List.set_cons_zero, List.set_cons_succ])
    (refine wpAnyH_take (i := 8) (oi := ⟨some 5, _, _, _, _, _⟩) (v := .pointer (some ⟨gM, r2 * 2, none⟩)) rfl (by kernel_rfl) (by kernel_rfl) (by kernel_rfl) (fun _ _ _ h => h) (Or.inl ⟨by rfl, ?_⟩) (by assumption) ?_; (focus (intro w hSw; (try dsimp only at hSw); go_simp; done)); try simp only [Act.put, List.setIfInBounds_toArray, List.set_cons_zero, List.set_cons_succ])
    refine wpAnyH_done (by kernel_rfl) ?_ _
    clear hHeld
    obtain ⟨hd, hdi, hdo⟩ := hw2.ow.hd (List.getElem?_eq_getElem hr2)
    have qd : w2.cell? ⟨gM, r2 * 2 + 1, none⟩ = some (.slice hd.A hd.n hd.c) := hw2.ow.M.row.cellAt (j := 1) hdi rfl
    have qf : w2.frozen? ⟨gM, r2 * 2 + 1, none⟩ = false := hw2.ow.M.row.free _
    have hmi := List.getElem?_eq_getElem hr2
    have hmz := hw2.ow.mz.2 _ (List.getElem_mem hr2)
    generalize ms[r2] = m at hdo hmi hmz
    obtain ⟨nm, ls⟩ := m
    obtain ⟨hdn, hdA, hdl, hdc⟩ := hd
    obtain rfl : hdl = ls.length := hdo.n
    obtain rfl : hdn = nm := hdo.name
    replace qd : w2.cell? ⟨gM, r2 * 2 + 1, none⟩ = some (.slice hdA ls.length hdc) := qd
    have hll : ls.length ≤ N := hmz.2.1
    have HDI := hide hdi
    have HMI := hide hmi
    clear hdi hmi hmz
    by_cases hl0 : ls.length = 0
    · obtain rfl := List.eq_nil_of_length_eq_zero hl0
      go_wp2_with fail
      refine (pick_in 3 hw2.cur (by omega) (by omega) (by omega)).mono ?_
      rintro e w3 ⟨q, rfl, hq, hc3, hg3⟩
      have hw3 := hw2.cur' hc3 hg3
      have qf3 : w3.frozen? ⟨gM, r2 * 2 + 1, none⟩ = false := hw3.ow.M.row.free _
      have q3 : w3.cell? ⟨gM, r2 * 2 + 1, none⟩ = some (.slice hdA 0 hdc) := hw3.ow.M.row.cellAt (j := 1) HDI.out rfl
      have hgM : gM < w3.heap.size := hw3.ow.M.row.lt rfl
      have hmk := fun W : World => run_make_st (P := Tryz.prog) 73 106 (.agg #[.int .i64 0, .string ⟨#[]⟩, .int .i64 0, .int .i64 0]) 4 40 Tryz.underlying73 info_line11 q (by omega) (by omega) W
      have hw4 := (hw3.more (Nat.le_refl _) (Nat.le_add_right N 3)).made (q := q) HDI.out HMI.out (by omega) (by simp only [maxLen]; omega)
      generalize hcs : madeCells (Value.agg #[.int .i64 0, .string ⟨#[]⟩, .int .i64 0, .int .i64 0]).cells (q * 4) = cs0 at hmk
      rw [show (#[.int .i64 0, .string ⟨#[]⟩, .int .i64 0, .int .i64 0] : Array Value) = (Value.agg #[.int .i64 0, .string ⟨#[]⟩, .int .i64 0, .int .i64 0]).cells by rfl, hcs] at hw4
      clear qd qf hw2 hc3 hg3 hcs
      rw [World.setCell_alloc_past _ _ _ _ hgM] at hw4
      have HW4 := hide hw4
      clear hw4 hw3
      go_upto_region 19 with fail
      have hr9 := HW4.out
      clear HW4 hmk qf3 q3
      generalize (w3.setCell ⟨gM, r2 * 2 + 1, none⟩ (.slice (some ⟨w3.heap.size, 0, none⟩) q q)).alloc (Obj.cells cs0 106) = W9 at hr9 ⊢
      have x0 := blk_cell hr9.box 0
      have x1 := blk_cell hr9.box 1
      have x2 := blk_cell hr9.box 2
      have y0 := blk_cell hr9.res 0
      have y1 := blk_cell hr9.res 1
      have y2 := blk_cell hr9.res 2
      have z0 := blk_free hr9.res 0
      have z1 := blk_free hr9.res 1
      have z2 := blk_free hr9.res 2
      go_wp2_with fail
      refine bodyPost_ret (v := .agg #[.slice rA roots.length rc, .slice (some ⟨gM, 0, none⟩) ms.length mc, .slice fA fs.length fc]) (by simp [results, Tryz.results56, go_sem, y0, y1, y2]) rfl ⟨_, _, _, _, _, _, _, rfl, (hr9.ends _ _ _).1.more (by omega), (hr9.ends _ _ _).2.1.more (by omega), (hr9.ends _ _ _).2.2⟩
    · have hl0b : ((ls.length : Int) == 0) = false := beq_eq_false_iff_ne.2 (by omega)
      have hlp : 0 < ls.length := by omega
      have hol : Own fLine w2 B 106 (.slice hdA ls.length hdc) ls := hdo.own
      obtain ⟨gL, lc, hlv, _, _, _, _, _, _⟩ := hol.form (fun e => by rw [e] at hlp; simp at hlp)
      injection hlv with hA hA2 hA3
      clear hA2 hA3 hl0 hdo
      subst hA
      go_upto_region 20 with fail
      refine wp_region_held_drew (S := fun w' => w'.cell? ⟨gM, r2 * 2 + 1, none⟩ = some (.slice (some ⟨gL, 0, none⟩) ls.length hdc)) (by kernel_rfl) qd (fun hHeld => ?_)
      (refine wpAnyH_take (i := 0) (oi := ⟨some 81, _, _, _, _, _⟩) (v := .pointer (some ⟨gM, r2 * 2, none⟩)) rfl (by kernel_rfl) (by kernel_rfl) (by kernel_rfl) (fun _ _ _ h => h) (Or.inl ⟨by rfl, ?_⟩) (by assumption) ?_; (focus (intro w hSw; (try dsimp only at hSw); go_simp; done)); try simp only [Act.put, List.setIfInBounds_toArray, List.set_cons_zero, List.set_cons_succ])
      (refine wpAnyH_take (i := 1) (oi := ⟨some 82, _, _, _, _, _⟩) (v := .pointer (some ⟨gM, r2 * 2, none⟩)) rfl (by kernel_rfl) (by kernel_rfl) (by kernel_rfl) (fun _ _ _ h => h) (Or.inl ⟨by rfl, ?_⟩) (by assumption) ?_; (focus (intro w hSw; (try dsimp only at hSw); go_simp; done)); try simp only [Act.put, List.setIfInBounds_toArray, List.set_cons_zero, List.set_cons_succ])
      (refine wpAnyH_take (i := 2) (oi := ⟨some 83, _, _, _, _, _⟩) (v := .pointer (some ⟨gM, r2 * 2 + 1, none⟩)) rfl (by kernel_rfl) (by kernel_rfl) (by kernel_rfl) (fun _ _ _ h => h) (Or.inl ⟨by rfl, ?_⟩) (by assumption) ?_; (focus (intro w hSw; (try dsimp only at hSw); go_simp; done)); try simp only [Act.put, List.setIfInBounds_toArray, List.set_cons_zero, List.set_cons_succ])
      (refine wpAnyH_take (i := 3) (oi := ⟨some 84, _, _, _, _, _⟩) (v := .slice (some ⟨gL, 0, none⟩) ls.length hdc) rfl (by kernel_rfl) (by kernel_rfl) (by kernel_rfl) (fun _ _ _ h => h) (Or.inl ⟨by rfl, ?_⟩) (by assumption) ?_; (focus (intro w hSw; (try dsimp only at hSw); go_simp; done)); try simp only [Act.put, List.setIfInBounds_toArray, List.set_cons_zero, List.set_cons_succ])
      (refine wpAnyH_take (i := 4) (oi := ⟨some 85, _, _, _, _, _⟩) (v := .pointer (some ⟨g, 0, none⟩)) rfl (by kernel_rfl) (by kernel_rfl) (by kernel_rfl) (fun _ _ _ h => h) (Or.inl ⟨by rfl, ?_⟩) (by assumption) ?_; (focus (intro w hSw; (try dsimp only at hSw); go_simp; done)); try simp only [Act.put, List.setIfInBounds_toArray, List.set_cons_zero, List.set_cons_succ])
      (refine wpAnyH_take (i := 5) (oi := ⟨some 86, _, _, _, _, _⟩) (v := .pointer (some ⟨gM, r2 * 2, none⟩)) rfl (by kernel_rfl) (by kernel_rfl) (by kernel_rfl) (fun _ _ _ h => h) (Or.inl ⟨by rfl, ?_⟩) (by assumption) ?_; (focus (intro w hSw; (try dsimp only at hSw); go_simp; done)); try simp only [Act.put, List.setIfInBounds_toArray, List.set_cons_zero, List.set_cons_succ])
      (refine wpAnyH_take (i := 6) (oi := ⟨some 87, _, _, _, _, _⟩) (v := .pointer (some ⟨gM, r2 * 2, none⟩)) rfl (by kernel_rfl) (by kernel_rfl) (by kernel_rfl) (fun _ _ _ h => h) (Or.inl ⟨by rfl, ?_⟩) (by assumption) ?_; (focus (intro w hSw; (try dsimp only at hSw); go_simp; done)); try simp only [Act.put, List.setIfInBounds_toArray, List.set_cons_zero, List.set_cons_succ])
      (refine wpAnyH_take (i := 7) (oi := ⟨some 88, _, _, _, _, _⟩) (v := .pointer (some ⟨gM, r2 * 2 + 1, none⟩)) rfl (by kernel_rfl) (by kernel_rfl) (by kernel_rfl) (fun _ _ _ h => h) (Or.inl ⟨by rfl, ?_⟩) (by assumption) ?_; (focus (intro w hSw; (try dsimp only at hSw); go_simp; done)); try simp only [Act.put, List.setIfInBounds_toArray, List.set_cons_zero, List.set_cons_succ])
      (refine wpAnyH_take (i := 8) (oi := ⟨some 89, _, _, _, _, _⟩) (v := .slice (some ⟨gL, 0, none⟩) ls.length hdc) rfl (by kernel_rfl) (by kernel_rfl) (by kernel_rfl) (fun _ _ _ h => h) (Or.inl ⟨by rfl, ?_⟩) (by assumption) ?_; (focus (intro w hSw; (try dsimp only at hSw); go_simp; done)); try simp only [Act.put, List.setIfInBounds_toArray, List.set_cons_zero, List.set_cons_succ])
      (refine wpAnyH_take (i := 9) (oi := ⟨some 90, _, _, _, _, _⟩) (v := .int .i64 ls.length) rfl (by kernel_rfl) (by kernel_rfl) (by kernel_rfl) (fun _ _ _ h => h) (Or.inl ⟨by rfl, ?_⟩) (by assumption) ?_; (focus (intro w hSw; (try dsimp only at hSw); go_simp; done)); try simp only [Act.put, List.setIfInBounds_toArray, List.set_cons_zero, List.set_cons_succ])
      refine wpAnyH_ready (rs := [10]) (by kernel_rfl) (by simp) ?_
      refine AllReadyH.cons (o := ⟨some 91, _, _, _, _, _⟩) rfl (fun K hK => ?_) AllReadyH.nil
      go_simp
      have hw2d := hw2.below (Below.drew (Below.refl w2.heap.size w2))
      refine (pick_in ls.length hw2d.cur (by omega) (by omega) (by omega)).mono ?_
      rintro e w3 ⟨r3, rfl, hr3, hc3, hg3⟩
      have hw3 := hw2d.cur' hc3 hg3
      refine hK.out _ _ (hw3.ow.M.row.cellAt (j := 1) HDI.out rfl) (fun hHeld => ?_)
      clear hK K hc3 hg3 hw2 hw2d qd qf hol
      try simp only [Act.put, List.setIfInBounds_toArray, List.set_cons_zero, List.set_cons_succ]
      (refine wpAnyH_take (i := 11) (oi := ⟨some 92, _, _, _, _, _⟩) (v := .pointer (some ⟨gL, r3 * 4, none⟩)) rfl (by kernel_rfl) (by kernel_rfl) (by kernel_rfl) (fun _ _ _ h => h) (Or.inl ⟨by rfl, ?_⟩) (by assumption) ?_; (focus (intro w hSw; (try dsimp only at hSw); go_simp; done)); try simp only [Act.put, List.setIfInBounds_toArray, List.set_cons_zero, List.set_cons_succ])
      (refine wpAnyH_take (i := 12) (oi := ⟨some 6, _, _, _, _, _⟩) (v := .pointer (some ⟨gL, r3 * 4, none⟩)) rfl (by kernel_rfl) (by kernel_rfl) (by kernel_rfl) (fun _ _ _ h => h) (Or.inl ⟨by rfl, ?_⟩) (by assumption) ?_; (focus (intro w hSw; (try dsimp only at hSw); go_simp; done)); try simp only [Act.put, List.setIfInBounds_toArray, List.set_cons_zero, List.set_cons_succ])
      refine wpAnyH_done (by kernel_rfl) ?_ _
      clear hHeld
      have hlg := List.getElem?_eq_getElem hr3
      generalize ls[r3] = l at hlg
      obtain ⟨lo, ln, lm, lk⟩ := l
      have HLG := hide hlg
      clear hlg
      go_wp2_with fail
      refine (pick_in 4 hw3.cur (by omega) (by omega) (by omega)).mono ?_
      rintro e w4 ⟨r4, rfl, hr4, hc4, hg4⟩
      have hw4 := hw3.cur' hc4 hg4
      clear hw3 hc4 hg4
      have hln : ln.size ≤ 200 := ((hw4.ow.mz.2 _ (List.mem_of_getElem? HMI.out)).2.2 _ (List.mem_of_getElem? HLG.out))
      have hcase : r4 = 0 ∨ r4 = 1 ∨ r4 = 2 ∨ (((r4 : Int) == 0) = false ∧ ((r4 : Int) == 1) = false ∧ ((r4 : Int) == 2) = false) := by
        by_cases h0 : r4 = 0
        · exact .inl h0
        by_cases h1 : r4 = 1
        · exact .inr (.inl h1)
        by_cases h2 : r4 = 2
        · exact .inr (.inr (.inl h2))
        exact .inr (.inr (.inr ⟨by simp; omega, by simp; omega, by simp; omega⟩))
      rcases hcase with rfl | rfl | rfl | ⟨hm1, hm2, hm3⟩
      · go_wp2_with fail
        refine (pick_in 9 hw4.cur (by omega) (by omega) (by omega)).mono ?_
        rintro e w5 ⟨r5, rfl, hr5, hc5, hg5⟩
        have hw5 := hw4.cur' hc5 hg5
        clear hw4 hc5 hg5
        have hol5 : Own fLine w5 B 106 (.slice (some ⟨gL, 0, none⟩) ls.length hdc) ls := (hw5.ow.M.each r2 _ _ HDI.out HMI.out).own
        have c5 : w5.cell? ⟨gL, r3 * 4, none⟩ = some (.int .i64 lo) := hol5.cellAt (j := 0) HLG.out rfl
        have f5 : w5.frozen? ⟨gL, r3 * 4, none⟩ = false := hol5.free _
        have hr9 : SpAt w (w5.setCell ⟨gL, r3 * 4, none⟩ (.int .i64 r5)) B w.heap.size (w.heap.size + 1) g A n cp code _ N (.slice rA roots.length rc) (.slice (some ⟨gM, 0, none⟩) ms.length mc) (.slice fA fs.length fc) roots hs (ms.set r2 ⟨hdn, ls.set r3 ⟨r5, ln, lm, lk⟩⟩) fs := hw5.line (f := 0) (c := hdc) HDI.out rfl HMI.out (by omega) (fun x hx => by
          rw [HLG.out] at hx
          obtain rfl := Option.some.inj hx
          rfl) hln
        have HR9 := hide hr9
        clear hw5 hr9 hol5
        go_upto_region 32 with fail
        have hr9 := HR9.out
        clear c5 f5 HR9
        generalize w5.setCell ⟨gL, r3 * 4, none⟩ (.int .i64 r5) = W9 at hr9 ⊢
        have x0 := blk_cell hr9.box 0
        have x1 := blk_cell hr9.box 1
        have x2 := blk_cell hr9.box 2
        have y0 := blk_cell hr9.res 0
        have y1 := blk_cell hr9.res 1
        have y2 := blk_cell hr9.res 2
        have z0 := blk_free hr9.res 0
        have z1 := blk_free hr9.res 1
        have z2 := blk_free hr9.res 2
        go_wp2_with fail
        refine bodyPost_ret (v := .agg #[.slice rA roots.length rc, .slice (some ⟨gM, 0, none⟩) ms.length mc, .slice fA fs.length fc]) (by simp [results, Tryz.results56, go_sem, y0, y1, y2]) rfl ⟨_, _, _, _, _, _, _, rfl, (hr9.ends _ _ _).1.more (by omega), (hr9.ends _ _ _).2.1.more (by omega), (hr9.ends _ _ _).2.2⟩
      · have hw5 := hw4
        obtain ⟨w5, rfl⟩ : ∃ w5 : World, w5 = w4 := ⟨_, rfl⟩
        have hol5 : Own fLine w5 B 106 (.slice (some ⟨gL, 0, none⟩) ls.length hdc) ls := (hw5.ow.M.each r2 _ _ HDI.out HMI.out).own
        have c5 : w5.cell? ⟨gL, r3 * 4 + 2, none⟩ = some (.int .i64 lm) := hol5.cellAt (j := 2) HLG.out rfl
        have f5 : w5.frozen? ⟨gL, r3 * 4 + 2, none⟩ = false := hol5.free _
        have hr9 : SpAt w (w5.setCell ⟨gL, r3 * 4 + 2, none⟩ (.int .i64 3)) B w.heap.size (w.heap.size + 1) g A n cp code _ N (.slice rA roots.length rc) (.slice (some ⟨gM, 0, none⟩) ms.length mc) (.slice fA fs.length fc) roots hs (ms.set r2 ⟨hdn, ls.set r3 ⟨lo, ln, 3, lk⟩⟩) fs := hw5.line (f := 2) (c := hdc) HDI.out rfl HMI.out (by omega) (fun x hx => by
          rw [HLG.out] at hx
          obtain rfl := Option.some.inj hx
          rfl) hln
        have HR9 := hide hr9
        clear hw5 hr9 hol5
        go_upto_region 32 with fail
        have hr9 := HR9.out
        clear c5 f5 HR9
        generalize w5.setCell ⟨gL, r3 * 4 + 2, none⟩ (.int .i64 3) = W9 at hr9 ⊢
        have x0 := blk_cell hr9.box 0
        have x1 := blk_cell hr9.box 1
        have x2 := blk_cell hr9.box 2
        have y0 := blk_cell hr9.res 0
        have y1 := blk_cell hr9.res 1
        have y2 := blk_cell hr9.res 2
        have z0 := blk_free hr9.res 0
        have z1 := blk_free hr9.res 1
        have z2 := blk_free hr9.res 2
        go_wp2_with fail
        refine bodyPost_ret (v := .agg #[.slice rA roots.length rc, .slice (some ⟨gM, 0, none⟩) ms.length mc, .slice fA fs.length fc]) (by simp [results, Tryz.results56, go_sem, y0, y1, y2]) rfl ⟨_, _, _, _, _, _, _, rfl, (hr9.ends _ _ _).1.more (by omega), (hr9.ends _ _ _).2.1.more (by omega), (hr9.ends _ _ _).2.2⟩
      · go_wp2_with fail
        refine (pick_in 6 hw4.cur (by omega) (by omega) (by omega)).mono ?_
        rintro e w5 ⟨r5, rfl, hr5, hc5, hg5⟩
        have hw5 := hw4.cur' hc5 hg5
        clear hw4 hc5 hg5
        have hol5 : Own fLine w5 B 106 (.slice (some ⟨gL, 0, none⟩) ls.length hdc) ls := (hw5.ow.M.each r2 _ _ HDI.out HMI.out).own
        have c5 : w5.cell? ⟨gL, r3 * 4 + 3, none⟩ = some (.int .i64 lk) := hol5.cellAt (j := 3) HLG.out rfl
        have f5 : w5.frozen? ⟨gL, r3 * 4 + 3, none⟩ = false := hol5.free _
        have hr9 : SpAt w (w5.setCell ⟨gL, r3 * 4 + 3, none⟩ (.int .i64 ((r5 : Int) - 1))) B w.heap.size (w.heap.size + 1) g A n cp code _ N (.slice rA roots.length rc) (.slice (some ⟨gM, 0, none⟩) ms.length mc) (.slice fA fs.length fc) roots hs (ms.set r2 ⟨hdn, ls.set r3 ⟨lo, ln, lm, (r5 : Int) - 1⟩⟩) fs := hw5.line (f := 3) (c := hdc) HDI.out rfl HMI.out (by omega) (fun x hx => by
          rw [HLG.out] at hx
          obtain rfl := Option.some.inj hx
          rfl) hln
        have HR9 := hide hr9
        clear hw5 hr9 hol5
        go_upto_region 32 with fail
        have hr9 := HR9.out
        clear c5 f5 HR9
        generalize w5.setCell ⟨gL, r3 * 4 + 3, none⟩ (.int .i64 ((r5 : Int) - 1)) = W9 at hr9 ⊢
        have x0 := blk_cell hr9.box 0
        have x1 := blk_cell hr9.box 1
        have x2 := blk_cell hr9.box 2
        have y0 := blk_cell hr9.res 0
        have y1 := blk_cell hr9.res 1
        have y2 := blk_cell hr9.res 2
        have z0 := blk_free hr9.res 0
        have z1 := blk_free hr9.res 1
        have z2 := blk_free hr9.res 2
        go_wp2_with fail
        refine bodyPost_ret (v := .agg #[.slice rA roots.length rc, .slice (some ⟨gM, 0, none⟩) ms.length mc, .slice fA fs.length fc]) (by simp [results, Tryz.results56, go_sem, y0, y1, y2]) rfl ⟨_, _, _, _, _, _, _, rfl, (hr9.ends _ _ _).1.more (by omega), (hr9.ends _ _ _).2.1.more (by omega), (hr9.ends _ _ _).2.2⟩
      · go_wp2_with fail
        refine (ask_in hw4.cur (by omega)).mono ?_
        rintro e w5 ⟨s, rfl, hs5, hc5, hg5⟩
        have hw5 := hw4.cur' hc5 hg5
        clear hw4 hc5 hg5
        have hol5 : Own fLine w5 B 106 (.slice (some ⟨gL, 0, none⟩) ls.length hdc) ls := (hw5.ow.M.each r2 _ _ HDI.out HMI.out).own
        have c5 : w5.cell? ⟨gL, r3 * 4 + 1, none⟩ = some (.string ln) := hol5.cellAt (j := 1) HLG.out rfl
        have f5 : w5.frozen? ⟨gL, r3 * 4 + 1, none⟩ = false := hol5.free _
        have hr9 : SpAt w (w5.setCell ⟨gL, r3 * 4 + 1, none⟩ (.string s)) B w.heap.size (w.heap.size + 1) g A n cp code _ N (.slice rA roots.length rc) (.slice (some ⟨gM, 0, none⟩) ms.length mc) (.slice fA fs.length fc) roots hs (ms.set r2 ⟨hdn, ls.set r3 ⟨lo, s, lm, lk⟩⟩) fs := hw5.line (f := 1) (c := hdc) HDI.out rfl HMI.out (by omega) (fun x hx => by
          rw [HLG.out] at hx
          obtain rfl := Option.some.inj hx
          rfl) (by show s.size ≤ 200; omega)
        have HR9 := hide hr9
        clear hw5 hr9 hol5
        go_upto_region 23 with fail
        have hr9 := HR9.out
        clear c5 f5 HR9
        generalize w5.setCell ⟨gL, r3 * 4 + 1, none⟩ (.string s) = W6 at hr9 ⊢
        go_wp2_with fail
        refine (pick_in 3 hr9.cur (by omega) (by omega) (by omega)).mono ?_
        rintro e w7 ⟨r6, rfl, hr6, hc7, hg7⟩
        have hw7 := hr9.cur' hc7 hg7
        clear hr9 hc7 hg7
        by_cases hr60 : r6 = 0
        · subst hr60
          go_wp2_with fail
          go_loopw [] (fun wr => ∃ s' : Str, s'.size ≤ 122 ∧ SpAt w wr B w.heap.size (w.heap.size + 1) g A n cp code (K + 100 + 2 * s'.size) N (.slice rA roots.length rc) (.slice (some ⟨gM, 0, none⟩) ms.length mc) (.slice fA fs.length fc) roots hs (ms.set r2 ⟨hdn, ls.set r3 ⟨lo, s', lm, lk⟩⟩) fs) (fun wr => match wr.cell? ⟨gL, r3 * 4 + 1, none⟩ with | some (.string t) => 200 - t.size | _ => 0)
          case atStart => exact ⟨s, by omega, hw7.more (by omega) (Nat.le_refl _)⟩
          case round =>
            clear hw7
            obtain ⟨s', hs', HR⟩ := hrel
            have hol6 : Own fLine wr B 106 (.slice (some ⟨gL, 0, none⟩) ls.length hdc) (ls.set r3 ⟨lo, s', lm, lk⟩) := (HR.ow.M.each r2 _ _ HDI.out (List.getElem?_set_self hr2)).own
            have c6 : wr.cell? ⟨gL, r3 * 4 + 1, none⟩ = some (.string s') := hol6.cellAt (j := 1) (List.getElem?_set_self hr3) rfl
            clear hol6
            go_upto_region 24 with fail
            refine wp_region_held_drew (S := fun w' => w'.cell? ⟨gL, r3 * 4 + 1, none⟩ = some (.string s')) (by kernel_rfl) c6 (fun hHeld => ?_)
            (refine wpAnyH_take (i := 0) (oi := ⟨some 103, _, _, _, _, _⟩) (v := .pointer (some ⟨gL, r3 * 4, none⟩)) rfl (by kernel_rfl) (by kernel_rfl) (by kernel_rfl) (fun _ _ _ h => h) (Or.inl ⟨by rfl, ?_⟩) (by assumption) ?_; (focus (intro w hSw; (try dsimp only at hSw); go_simp; done)); try simp only [Act.put, List.setIfInBounds_toArray, List.set_cons_zero, List.set_cons_succ])
            (refine wpAnyH_take (i := 1) (oi := ⟨some 104, _, _, _, _, _⟩) (v := .pointer (some ⟨gL, r3 * 4, none⟩)) rfl (by kernel_rfl) (by kernel_rfl) (by kernel_rfl) (fun _ _ _ h => h) (Or.inl ⟨by rfl, ?_⟩) (by assumption) ?_; (focus (intro w hSw; (try dsimp only at hSw); go_simp; done)); try simp only [Act.put, List.setIfInBounds_toArray, List.set_cons_zero, List.set_cons_succ])
            (refine wpAnyH_take (i := 2) (oi := ⟨some 105, _, _, _, _, _⟩) (v := .pointer (some ⟨gL, r3 * 4 + 1, none⟩)) rfl (by kernel_rfl) (by kernel_rfl) (by kernel_rfl) (fun _ _ _ h => h) (Or.inl ⟨by rfl, ?_⟩) (by assumption) ?_; (focus (intro w hSw; (try dsimp only at hSw); go_simp; done)); try simp only [Act.put, List.setIfInBounds_toArray, List.set_cons_zero, List.set_cons_succ])
            (refine wpAnyH_take (i := 3) (oi := ⟨some 106, _, _, _, _, _⟩) (v := .string s') rfl (by kernel_rfl) (by kernel_rfl) (by kernel_rfl) (fun _ _ _ h => h) (Or.inl ⟨by rfl, ?_⟩) (by assumption) ?_; (focus (intro w hSw; (try dsimp only at hSw); go_simp; done)); try simp only [Act.put, List.setIfInBounds_toArray, List.set_cons_zero, List.set_cons_succ])
            (refine wpAnyH_take (i := 4) (oi := ⟨some 107, _, _, _, _, _⟩) (v := .int .i64 s'.size) rfl (by kernel_rfl) (by kernel_rfl) (by kernel_rfl) (fun _ _ _ h => h) (Or.inl ⟨by rfl, ?_⟩) (by assumption) ?_; (focus (intro w hSw; (try dsimp only at hSw); go_simp; done)); try simp only [Act.put, List.setIfInBounds_toArray, List.set_cons_zero, List.set_cons_succ])
            (refine wpAnyH_take (i := 5) (oi := ⟨some 108, _, _, _, _, _⟩) (v := .pointer (some ⟨g, 0, none⟩)) rfl (by kernel_rfl) (by kernel_rfl) (by kernel_rfl) (fun _ _ _ h => h) (Or.inl ⟨by rfl, ?_⟩) (by assumption) ?_; (focus (intro w hSw; (try dsimp only at hSw); go_simp; done)); try simp only [Act.put, List.setIfInBounds_toArray, List.set_cons_zero, List.set_cons_succ])
            refine wpAnyH_ready (rs := [6]) (by kernel_rfl) (by simp) ?_
            refine AllReadyH.cons (o := ⟨some 109, _, _, _, _, _⟩) rfl (fun K hK => ?_) AllReadyH.nil
            go_simp
            have HRd := HR.below (Below.drew (Below.refl wr.heap.size wr))
            refine (pick_in 3 HRd.cur (by omega) (by omega) (by omega)).mono ?_
            rintro e w8 ⟨r7, rfl, hr7, hc8, hg8⟩
            have hw8 := HRd.cur' hc8 hg8
            have hol8 : Own fLine w8 B 106 (.slice (some ⟨gL, 0, none⟩) ls.length hdc) (ls.set r3 ⟨lo, s', lm, lk⟩) := (hw8.ow.M.each r2 _ _ HDI.out (List.getElem?_set_self hr2)).own
            have c8 : w8.cell? ⟨gL, r3 * 4 + 1, none⟩ = some (.string s') := hol8.cellAt (j := 1) (List.getElem?_set_self hr3) rfl
            have f8 : w8.frozen? ⟨gL, r3 * 4 + 1, none⟩ = false := hol8.free _
            have hwr7 : IntKind.i64.wrap (119 + (r7 : Int)) = 119 + (r7 : Int) := by rw [IntKind.wrap_i64]; omega
            refine hK.out _ _ c8 (fun hHeld => ?_)
            clear hK K hc8 hg8 HR HRd hol8
            try simp only [Act.put, List.setIfInBounds_toArray, List.set_cons_zero, List.set_cons_succ]
            (refine wpAnyH_take (i := 7) (oi := ⟨some 110, _, _, _, _, _⟩) (v := .int .i64 (119 + (r7 : Int))) rfl (by kernel_rfl) (by kernel_rfl) (by kernel_rfl) (fun _ _ _ h => h) (Or.inl ⟨by rfl, ?_⟩) (by assumption) ?_; (focus (intro w hSw; (try dsimp only at hSw); go_simp; done)); try simp only [Act.put, List.setIfInBounds_toArray, List.set_cons_zero, List.set_cons_succ])
            (refine wpAnyH_take (i := 8) (oi := ⟨some 111, _, _, _, _, _⟩) (v := .bool (decide ((s'.size : Int) < 119 + (r7 : Int)))) rfl (by kernel_rfl) (by kernel_rfl) (by kernel_rfl) (fun _ _ _ h => h) (Or.inl ⟨by rfl, ?_⟩) (by assumption) ?_; (focus (intro w hSw; (try dsimp only at hSw); go_simp; done)); try simp only [Act.put, List.setIfInBounds_toArray, List.set_cons_zero, List.set_cons_succ])
            refine wpAnyH_done (by kernel_rfl) ?_ _
            clear hHeld
            by_cases hlt : (s'.size : Int) < 119 + (r7 : Int)
            · have hdt : decide ((s'.size : Int) < 119 + (r7 : Int)) = true := decide_eq_true hlt
              have hadd := fun W : World => run_string_add_sum (P := Tryz.prog) (w := W) s' ⟨#[98]⟩ (by show _ + 1 ≤ _; omega)
              have hsz : (s' ++ (⟨#[98]⟩ : Str)).size = s'.size + 1 := by rw [ByteArray.size_append]; rfl
              have hr10 : SpAt w (w8.setCell ⟨gL, r3 * 4 + 1, none⟩ (.string (s' ++ (⟨#[98]⟩ : Str)))) B w.heap.size (w.heap.size + 1) g A n cp code _ N (.slice rA roots.length rc) (.slice (some ⟨gM, 0, none⟩) ms.length mc) (.slice fA fs.length fc) roots hs ((ms.set r2 ⟨hdn, ls.set r3 ⟨lo, s', lm, lk⟩⟩).set r2 ⟨hdn, (ls.set r3 ⟨lo, s', lm, lk⟩).set r3 ⟨lo, s' ++ (⟨#[98]⟩ : Str), lm, lk⟩⟩) fs := hw8.line (f := 1) (c := hdc) HDI.out (by show Value.slice _ _ _ = _; rw [List.length_set]) (List.getElem?_set_self hr2) (by omega) (fun x hx => by
                rw [List.getElem?_set_self hr3] at hx
                obtain rfl := Option.some.inj hx
                rfl) (by show (s' ++ (⟨#[98]⟩ : Str)).size ≤ 200; omega)
              rw [List.set_set, List.set_set] at hr10
              have HR10 := hide hr10
              clear hr10 hw8
              go_wp2_with fail
              go_roundw
              case rel => exact ⟨_, by rw [hsz]; omega, HR10.out.more (by rw [hsz]; omega) (Nat.le_refl _)⟩
              case measure =>
                have c9 : (w8.setCell ⟨gL, r3 * 4 + 1, none⟩ (.string (s' ++ (⟨#[98]⟩ : Str)))).cell? ⟨gL, r3 * 4 + 1, none⟩ = some (.string (s' ++ (⟨#[98]⟩ : Str))) := (HR10.out.ow.M.each r2 _ _ HDI.out (List.getElem?_set_self hr2)).own.cellAt (j := 1) (List.getElem?_set_self hr3) rfl
                rw [c9, c6]
                show 200 - (s' ++ (⟨#[98]⟩ : Str)).size < 200 - s'.size
                omega
            · have hdt : decide ((s'.size : Int) < 119 + (r7 : Int)) = false := decide_eq_false hlt
              have hr9 := hw8
              clear c8 f8
              go_upto_region 32 with fail
              have x0 := blk_cell hr9.box 0
              have x1 := blk_cell hr9.box 1
              have x2 := blk_cell hr9.box 2
              have y0 := blk_cell hr9.res 0
              have y1 := blk_cell hr9.res 1
              have y2 := blk_cell hr9.res 2
              have z0 := blk_free hr9.res 0
              have z1 := blk_free hr9.res 1
              have z2 := blk_free hr9.res 2
              go_wp2_with fail
              refine bodyPost_ret (v := .agg #[.slice rA roots.length rc, .slice (some ⟨gM, 0, none⟩) ms.length mc, .slice fA fs.length fc]) (by simp [results, Tryz.results56, go_sem, y0, y1, y2]) rfl ⟨_, _, _, _, _, _, _, rfl, (hr9.ends _ _ _).1.more (by omega), (hr9.ends _ _ _).2.1.more (by omega), (hr9.ends _ _ _).2.2⟩
        · have hr6b : ((r6 : Int) == 0) = false := beq_eq_false_iff_ne.2 (by omega)
          have hr9 := hw7
          go_upto_region 32 with fail
          have x0 := blk_cell hr9.box 0
          have x1 := blk_cell hr9.box 1
          have x2 := blk_cell hr9.box 2
          have y0 := blk_cell hr9.res 0
          have y1 := blk_cell hr9.res 1
          have y2 := blk_cell hr9.res 2
          have z0 := blk_free hr9.res 0
          have z1 := blk_free hr9.res 1
          have z2 := blk_free hr9.res 2
          go_wp2_with fail
          refine bodyPost_ret (v := .agg #[.slice rA roots.length rc, .slice (some ⟨gM, 0, none⟩) ms.length mc, .slice fA fs.length fc]) (by simp [results, Tryz.results56, go_sem, y0, y1, y2]) rfl ⟨_, _, _, _, _, _, _, rfl, (hr9.ends _ _ _).1.more (by omega), (hr9.ends _ _ _).2.1.more (by omega), (hr9.ends _ _ _).2.2⟩
end Go.Proofs.YtkhlicmlnjccdaaGreatDoor
