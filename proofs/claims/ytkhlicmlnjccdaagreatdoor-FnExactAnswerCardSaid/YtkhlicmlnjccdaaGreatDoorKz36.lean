/-
Walks: the laws' comparisons, of two things that read alike.
FnExactAnswer: the walk.
-/
import Derived.Test.YtkhlicmlnjccdaaGreatDoorKz1
import Derived.Test.YtkhlicmlnjccdaaGreatDoorKz35
import Derived.Test.YtkhlicmlnjccdaaGreatDoorKz13
import Derived.StillTailTactics
import Derived.Test.YtkhlicmlnjccdaaGreatDoorKz34
import Derived.Test.YtkhlicmlnjccdaaGreatDoorKz33
import Derived.Deep.RegionHeld3
namespace Go.Proofs.YtkhlicmlnjccdaaGreatDoor
open Go.RowKit Mem

set_option maxHeartbeats 400000 in
theorem eqLine_same (x : LineD) (w : World) :
    Calls Tryz.prog 124 #[.agg #[.int .i64 x.op, .string x.name, .int .i64 x.num, .int .i64 x.skip], .agg #[.int .i64 x.op, .string x.name, .int .i64 x.num, .int .i64 x.skip]] w fun e w' => e = .returned (.bool true) ∧ Below w.heap.size w w' := by
  go_enter Tryz.func124, Tryz.ntmps124
  go_wp2_with fail
  go_ret
  exact ⟨rfl, by (repeat (first | with_reducible exact Below.refl _ _ | with_reducible assumption | with_reducible refine Below.alloc ?_ (by first | exact Nat.le_refl _ | exact Below.size (by assumption) | exact Nat.le_trans (Below.size (by assumption)) (by simp; done) | (simp; done) | (simp; omega) | omega) _ | with_reducible refine below_drewN ?_ _ | with_reducible refine Below.drew ?_ | with_reducible refine Below.setCell ?_ (by first | exact Nat.le_refl _ | (simp; done) | (simp; omega) | omega) _))⟩

set_option maxRecDepth 100000 in
set_option maxHeartbeats 1000000 in
theorem eqLineS_same (A B : Option Addr) (c d n : Nat) (xs : List LineD) (w : World) (S T : Nat → Prop) (h1 : Sl kLine w S A xs) (h2 : Sl kLine w T B xs) (hn : xs.length = n) (hl : n ≤ maxLen) :
    Calls Tryz.prog 106 #[.slice A n c, .slice B n d] w fun e w' => e = .returned (.bool true) ∧ Below w.heap.size w w' := by
  subst hn
  replace hl := mem_maxLen _ hl
  go_enter Tryz.func106, Tryz.ntmps106
  go_wp2_with fail
  go_loopw [5] (fun i wr => ∃ k : Nat, i = .int .i64 k ∧ k ≤ xs.length ∧ Below w.heap.size w wr) (fun i _ => xs.length - (intOf i).toNat)
  case atStart => exact ⟨0, rfl, by omega, Below.refl _ _⟩
  case round =>
    obtain ⟨k, rfl, hk, HB⟩ := hrel
    by_cases hlt : k < xs.length
    · obtain ⟨ad, hA, l0, l1, l2, l3⟩ := (h1.below HB).get hlt
      subst hA
      obtain ⟨bd, hA, m0, m1, m2, m3⟩ := (h2.below HB).get hlt
      subst hA
      have e0 : wr.cell? (ad.add (k * 4)) = some (.int .i64 xs[k].op) := l0.2
      have e1 : wr.cell? ⟨(ad.add (k * 4)).block, (ad.add (k * 4)).off + 1, none⟩ = some (.string xs[k].name) := by have := l1.2; rwa [add_pos _ _ (by omega)] at this
      have e2 : wr.cell? ⟨(ad.add (k * 4)).block, (ad.add (k * 4)).off + 2, none⟩ = some (.int .i64 xs[k].num) := by have := l2.2; rwa [add_pos _ _ (by omega)] at this
      have e3 : wr.cell? ⟨(ad.add (k * 4)).block, (ad.add (k * 4)).off + 3, none⟩ = some (.int .i64 xs[k].skip) := by have := l3.2; rwa [add_pos _ _ (by omega)] at this
      have d0 : wr.cell? (bd.add (k * 4)) = some (.int .i64 xs[k].op) := m0.2
      have d1 : wr.cell? ⟨(bd.add (k * 4)).block, (bd.add (k * 4)).off + 1, none⟩ = some (.string xs[k].name) := by have := m1.2; rwa [add_pos _ _ (by omega)] at this
      have d2 : wr.cell? ⟨(bd.add (k * 4)).block, (bd.add (k * 4)).off + 2, none⟩ = some (.int .i64 xs[k].num) := by have := m2.2; rwa [add_pos _ _ (by omega)] at this
      have d3 : wr.cell? ⟨(bd.add (k * 4)).block, (bd.add (k * 4)).off + 3, none⟩ = some (.int .i64 xs[k].skip) := by have := m3.2; rwa [add_pos _ _ (by omega)] at this
      clear l0 l1 l2 l3 m0 m1 m2 m3 h1 h2
      generalize xs[k] = x at e0 e1 e2 e3 d0 d1 d2 d3
      go_wp2_with fail
      go_still_tail 8, (by kernel_rfl)
      change wpList _ _ _ _ _ wr.drew
      go_wp2_with fail
      refine (eqLine_same x _).mono ?_
      rintro e w1 ⟨rfl, hb1⟩
      have HB1 := below_then (Below.drew HB) (show w.heap.size ≤ wr.drew.heap.size from HB.size) hb1
      clear e0 e1 e2 e3 d0 d1 d2 d3 hb1
      go_wp2_with fail
      go_roundw
      case rel => exact ⟨k + 1, by go_num, by omega, HB1⟩
      case measure => simp [intOf]; omega
    · obtain rfl : k = xs.length := by omega
      go_wp2_with fail
      go_ret
      exact ⟨rfl, HB⟩

set_option maxRecDepth 100000 in
set_option maxHeartbeats 400000 in
theorem eqModule_same (A B : Option Addr) (c d : Nat) (x : ModD) (w : World) (S T : Nat → Prop) (h1 : Sl kLine w S A x.lines) (h2 : Sl kLine w T B x.lines) (hl : x.lines.length ≤ maxLen) :
    Calls Tryz.prog 83 #[.agg #[.string x.name, .slice A x.lines.length c], .agg #[.string x.name, .slice B x.lines.length d]] w fun e w' => e = .returned (.bool true) ∧ Below w.heap.size w w' := by
  obtain ⟨nm, ls⟩ := x
  have hb0 := nbeq_t (rfl : nm = nm)
  have hbW : Below w.heap.size w ((w.alloc (Obj.cells #[.string nm, .slice A ls.length c] 75)).alloc (Obj.cells #[.string nm, .slice B ls.length d] 75)) := by (repeat (first | with_reducible exact Below.refl _ _ | with_reducible assumption | with_reducible refine Below.alloc ?_ (by first | exact Nat.le_refl _ | exact Below.size (by assumption) | exact Nat.le_trans (Below.size (by assumption)) (by simp; done) | (simp; done) | (simp; omega) | omega) _ | with_reducible refine below_drewN ?_ _ | with_reducible refine Below.drew ?_ | with_reducible refine Below.setCell ?_ (by first | exact Nat.le_refl _ | (simp; done) | (simp; omega) | omega) _))
  go_enter Tryz.func83, Tryz.ntmps83
  go_wp2_with fail
  refine (eqLineS_same A B c d ls.length ls _ S T (h1.below hbW) (h2.below hbW) rfl hl).mono ?_
  rintro e w1 ⟨rfl, hb1⟩
  have HB := below_then hbW hbW.size hb1
  clear hb1
  go_wp2_with fail
  go_ret
  exact ⟨rfl, HB⟩

set_option maxRecDepth 100000 in
set_option maxHeartbeats 1000000 in
theorem eqModuleS_same (A B : Option Addr) (c d n : Nat) (xs : List ModD) (w : World) (S T : Nat → Prop) (h1 : Sl kMod w S A xs) (h2 : Sl kMod w T B xs) (hn : xs.length = n) (hl : n ≤ maxLen) :
    Calls Tryz.prog 43 #[.slice A n c, .slice B n d] w fun e w' => e = .returned (.bool true) ∧ Below w.heap.size w w' := by
  subst hn
  replace hl := mem_maxLen _ hl
  go_enter Tryz.func43, Tryz.ntmps43
  go_wp2_with fail
  go_loopw [5] (fun i wr => ∃ k : Nat, i = .int .i64 k ∧ k ≤ xs.length ∧ Below w.heap.size w wr) (fun i _ => xs.length - (intOf i).toNat)
  case atStart => exact ⟨0, rfl, by omega, Below.refl _ _⟩
  case round =>
    obtain ⟨k, rfl, hk, HB⟩ := hrel
    by_cases hlt : k < xs.length
    · obtain ⟨ad, hA, hc0, A4, c4, hc4, hl4, hm4, hs4⟩ := (h1.below HB).get hlt
      subst hA
      obtain ⟨bd, hA, hd0, A5, c5, hc5, hl5, hm5, hs5⟩ := (h2.below HB).get hlt
      subst hA
      have e0 : wr.cell? (ad.add (k * 2)) = some (.string xs[k].name) := hc0.2
      have e1 : wr.cell? ⟨(ad.add (k * 2)).block, (ad.add (k * 2)).off + 1, none⟩ = some (.slice A4 xs[k].lines.length c4) := by have := hc4.2; rwa [add_pos _ _ (by omega)] at this
      have d0 : wr.cell? (bd.add (k * 2)) = some (.string xs[k].name) := hd0.2
      have d1 : wr.cell? ⟨(bd.add (k * 2)).block, (bd.add (k * 2)).off + 1, none⟩ = some (.slice A5 xs[k].lines.length c5) := by have := hc5.2; rwa [add_pos _ _ (by omega)] at this
      clear hc0 hc4 hd0 hc5 h1 h2
      generalize xs[k] = x at e0 e1 d0 d1 hs4 hs5 hl4 hl5
      go_wp2_with fail
      go_still_tail 8, (by kernel_rfl)
      change wpList _ _ _ _ _ wr.drew
      go_wp2_with fail
      refine (eqModule_same A4 A5 c4 c5 x _ S T (hs4.below (Below.drew (Below.refl _ _))) (hs5.below (Below.drew (Below.refl _ _))) (by omega)).mono ?_
      rintro e w1 ⟨rfl, hb1⟩
      have HB1 := below_then (Below.drew HB) (show w.heap.size ≤ wr.drew.heap.size from HB.size) hb1
      clear e0 e1 d0 d1 hb1 hs4 hs5
      go_wp2_with fail
      go_roundw
      case rel => exact ⟨k + 1, by go_num, by omega, HB1⟩
      case measure => simp [intOf]; omega
    · obtain rfl : k = xs.length := by omega
      go_wp2_with fail
      go_ret
      exact ⟨rfl, HB⟩

set_option maxHeartbeats 400000 in
theorem eqIntS_same (A B : Option Addr) (c d n : Nat) (xs : List Int) (w : World) (S T : Nat → Prop) (h1 : Sl kInt w S A xs) (h2 : Sl kInt w T B xs) (hn : xs.length = n) (hl : n ≤ maxLen) :
    Calls Tryz.prog 44 #[.slice A n c, .slice B n d] w fun e w' => e = .returned (.bool true) ∧ Below w.heap.size w w' := by
  subst hn
  replace hl := mem_maxLen _ hl
  go_enter Tryz.func44, Tryz.ntmps44
  go_wp2_with fail
  go_loopw [5] (fun i wr => ∃ k m : Nat, i = .int .i64 k ∧ k ≤ xs.length ∧ wr = w.drewN m) (fun i _ => xs.length - (intOf i).toNat)
  case atStart => exact ⟨0, 0, rfl, by omega, rfl⟩
  case round =>
    obtain ⟨k, m, rfl, hk, rfl⟩ := hrel
    by_cases hlt : k < xs.length
    · obtain ⟨ad, hA, l0⟩ := h1.get hlt
      subst hA
      obtain ⟨bd, hA, m0⟩ := h2.get hlt
      subst hA
      have e0 : w.cell? (ad.add k) = some (.int .i64 xs[k]) := by simpa [kInt] using l0.2
      have d0 : w.cell? (bd.add k) = some (.int .i64 xs[k]) := by simpa [kInt] using m0.2
      clear l0 m0 h1 h2
      generalize xs[k] = x at e0 d0
      go_wp2_with fail
      go_quiet (fail)
      go_wp2_with fail
      go_roundw
      case rel => exact ⟨k + 1, _, by go_num, by omega, by first | rfl | exact World.drewN_drewN ..⟩
      case measure => simp [intOf]; omega
    · obtain rfl : k = xs.length := by omega
      go_wp2_with fail
      go_ret
      exact ⟨rfl, below_drewN (Below.refl _ _) _⟩

set_option maxRecDepth 100000 in
set_option maxHeartbeats 1000000 in
theorem eqWorld_same (D : WorldD) (vR vM vF uR uM uF : Value) (w : World) (S T : Nat → Prop) (h1 : WIn w S vR vM vF D) (h2 : WIn w T uR uM uF D) :
    Calls Tryz.prog 16 #[.agg #[vR, vM, vF], .agg #[uR, uM, uF]] w fun e w' => e = .returned (.bool true) ∧ Below w.heap.size w w' := by
  have hlen := hide h1.lens
  obtain ⟨⟨A1, c1, rfl, _, _, hR⟩, ⟨A2, c2, rfl, _, _, hM⟩, ⟨A3, c3, rfl, _, _, hF⟩⟩ := h1
  obtain ⟨⟨B1, d1, rfl, _, _, gR⟩, ⟨B2, d2, rfl, _, _, gM⟩, ⟨B3, d3, rfl, _, _, gF⟩⟩ := h2
  go_enter Tryz.func16, Tryz.ntmps16
  go_wp2_with fail
  generalize hW : (w.alloc (Obj.cells #[.slice A1 D.roots.length c1, .slice A2 D.mods.length c2, .slice A3 D.faults.length c3] 27)).alloc (Obj.cells #[.slice B1 D.roots.length d1, .slice B2 D.mods.length d2, .slice B3 D.faults.length d3] 27) = W
  have hbW : Below w.heap.size w W := by rw [← hW]; (repeat (first | with_reducible exact Below.refl _ _ | with_reducible assumption | with_reducible refine Below.alloc ?_ (by first | exact Nat.le_refl _ | exact Below.size (by assumption) | exact Nat.le_trans (Below.size (by assumption)) (by simp; done) | (simp; done) | (simp; omega) | omega) _ | with_reducible refine below_drewN ?_ _ | with_reducible refine Below.drew ?_ | with_reducible refine Below.setCell ?_ (by first | exact Nat.le_refl _ | (simp; done) | (simp; omega) | omega) _))
  have hb := alloc_two w (Obj.cells #[.slice A1 D.roots.length c1, .slice A2 D.mods.length c2, .slice A3 D.faults.length c3] 27) (Obj.cells #[.slice B1 D.roots.length d1, .slice B2 D.mods.length d2, .slice B3 D.faults.length d3] 27)
  rw [hW] at hb
  have HBK := hide hb
  have hz : w.heap.size + 2 = W.heap.size := hb.2.2
  clear hb hW
  refine (eqStringS_same A1 B1 c1 d1 D.roots.length D.roots W S T (hR.below hbW) (gR.below hbW) rfl hlen.out.1).mono ?_
  rintro e w1 ⟨rfl, n1, rfl⟩
  have k1 : W.cell? ⟨w.heap.size, 1, none⟩ = some _ := blk_cell HBK.out.1 1
  have k2 : W.cell? ⟨w.heap.size + 1, 1, none⟩ = some _ := blk_cell HBK.out.2.1 1
  have hbD := below_drewN hbW n1
  go_wp2_with fail
  refine (eqModuleS_same A2 B2 c2 d2 D.mods.length D.mods _ S T (hM.below hbD) (gM.below hbD) rfl hlen.out.2.1).mono ?_
  rintro e w2 ⟨rfl, hb2⟩
  have HB := below_then hbD hbD.size hb2
  have k3 : w2.cell? ⟨w.heap.size, 2, none⟩ = some _ := blk_cell ((hb2.block _ (by show w.heap.size < W.heap.size; omega)).trans HBK.out.1) 2
  have k4 : w2.cell? ⟨w.heap.size + 1, 2, none⟩ = some _ := blk_cell ((hb2.block _ (by show w.heap.size + 1 < W.heap.size; omega)).trans HBK.out.2.1) 2
  clear hb2 k1 k2 hbD
  go_wp2_with fail
  refine (eqIntS_same A3 B3 c3 d3 D.faults.length D.faults _ S T (hF.below HB) (gF.below HB) rfl hlen.out.2.2).mono ?_
  rintro e w3 ⟨rfl, hb3⟩
  have HB3 := below_then HB HB.size hb3
  clear hb3
  go_wp2_with fail
  go_ret
  exact ⟨rfl, HB3⟩
end Go.Proofs.YtkhlicmlnjccdaaGreatDoor

namespace Go.Proofs.YtkhlicmlnjccdaaGreatDoor
open Go.RowKit Mem

set_option maxRecDepth 100000 in
set_option maxHeartbeats 4000000 in
theorem exactAnswer_calls (vR vM vF : Value) (D : WorldD) (name : Str) (S : Nat → Prop) (w : World) (h : WIn w S vR vM vF D) (hz : WMax D) (hnum : ∀ m ∈ D.mods, ∀ l ∈ m.lines, Ans.In64 l.num) (hm : ML w) (htab : Tabs w) :
    Calls Tryz.prog 5 #[.agg #[vR, vM, vF], .string name] w fun e w' => e = .returned (.bool true) ∧ Below w.heap.size w w' := by
  have hs := h
  obtain ⟨⟨A1, c1, rfl, _, _, _⟩, ⟨A2, c2, rfl, _, _, _⟩, ⟨A3, c3, rfl, _, _, _⟩⟩ := hs
  have hb0 : Below w.heap.size w (w.alloc (Obj.cells #[.slice A1 D.roots.length c1, .slice A2 D.mods.length c2, .slice A3 D.faults.length c3] 43)) := by (repeat (first | with_reducible exact Below.refl _ _ | with_reducible assumption | with_reducible refine Below.alloc ?_ (by first | exact Nat.le_refl _ | exact Below.size (by assumption) | exact Nat.le_trans (Below.size (by assumption)) (by simp; done) | (simp; done) | (simp; omega) | omega) _ | with_reducible refine below_drewN ?_ _ | with_reducible refine Below.drew ?_ | with_reducible refine Below.setCell ?_ (by first | exact Nat.le_refl _ | (simp; done) | (simp; omega) | omega) _))
  have hblk0 := heap_alloc_new w (Obj.cells #[.slice A1 D.roots.length c1, .slice A2 D.mods.length c2, .slice A3 D.faults.length c3] 43)
  have hsz0 : w.heap.size < (w.alloc (Obj.cells #[.slice A1 D.roots.length c1, .slice A2 D.mods.length c2, .slice A3 D.faults.length c3] 43)).heap.size := by simp
  have hcz := szWorld_calls D _ _ _ S 1048576 _ (h.below hb0) hz (Nat.le_refl _)
  have HB0 := hide hblk0
  clear hblk0
  by_cases hnm : 1048576 < name.size
  · clear hcz
    go_enter Tryz.func5, Tryz.ntmps5
    go_wp2_with fail
    go_ret
    exact ⟨rfl, hb0⟩
  by_cases hbig : 1048576 < worldTot D
  · rw [left_no hbig] at hcz
    have HCZ := hide hcz
    clear hcz
    go_enter Tryz.func5, Tryz.ntmps5
    go_wp2_with fail
    refine (unhide HCZ).mono ?_
    rintro e w1 ⟨rfl, hb1⟩
    have HB := below_then hb0 hb0.size hb1
    clear hb1
    go_wp2_with fail
    go_ret
    exact ⟨rfl, HB⟩
  rw [left_ok (Nat.le_of_not_lt hbig)] at hcz
  obtain ⟨HWS, hr1, hm1, hf1, hl1⟩ := worldTot_sz (Nat.le_of_not_lt hbig)
  have HCZ := hide hcz
  have HWZ := hide HWS
  have HLL := hide hl1
  generalize 1048576 - worldTot D = lf at HCZ
  have hnm' : name.size ≤ 1048576 := by omega
  have hfine := Ans.fine_of D name hnum
  have HSL := hide (fun (W : World) (vR vM vF : Value) (S : Nat → Prop) (hi : WIn W S vR vM vF D) => sAnswer_calls D vR vM vF S W hi HWZ.out name hnm' hfine)
  have HIL := hide (fun (W : World) (vR vM vF : Value) (S : Nat → Prop) (hi : WIn W S vR vM vF D) (hml : ML W) (ht : Tabs W) => iAnswer_calls D vR vM vF S W hi HWZ.out hml ht name hnm' hfine)
  generalize Ans.answer D name = ans at HSL HIL
  have HTB := hide htab
  clear hcz hbig HWS hl1 hfine hnum htab
  go_enter Tryz.func5, Tryz.ntmps5
  go_wp2_with fail
  refine (unhide HCZ).mono ?_
  rintro e w1 ⟨rfl, hb1⟩
  have k0 : w1.cell? ⟨w.heap.size, 0, none⟩ = some (.slice A1 D.roots.length c1) := blk_cell ((hb1.block _ hsz0).trans HB0.out) 0
  have k1 : w1.cell? ⟨w.heap.size, 1, none⟩ = some (.slice A2 D.mods.length c2) := blk_cell ((hb1.block _ hsz0).trans HB0.out) 1
  have k2 : w1.cell? ⟨w.heap.size, 2, none⟩ = some (.slice A3 D.faults.length c3) := blk_cell ((hb1.block _ hsz0).trans HB0.out) 2
  have HX := hide ((hb1.block _ hsz0).trans HB0.out)
  have hx1 : w.heap.size < w1.heap.size := Nat.lt_of_lt_of_le hsz0 hb1.size
  have B1 := below_then hb0 hb0.size hb1
  clear hb1 HB0 HCZ hb0 hsz0
  go_wp2_with fail
  refine (toWorld_calls D _ _ _ S w1 (h.below B1) hr1 hm1 hf1 HLL.out).mono ?_
  rintro e w2 ⟨uR, uM, uF, rfl, O2, hb2⟩
  have B2 := below_then B1 B1.size hb2
  clear k0 k1 k2
  go_wp2_with fail
  refine (HSL.out w2 uR uM uF _ O2.wIn).mono ?_
  rintro e w3 ⟨rfl, hb3⟩
  have HX3 := hide ((hb3.block _ (Nat.lt_of_lt_of_le hx1 hb2.size)).trans ((hb2.block _ hx1).trans HX.out))
  have hx3 : w.heap.size < w3.heap.size := Nat.lt_of_lt_of_le (Nat.lt_of_lt_of_le hx1 hb2.size) hb3.size
  have B3 := below_then B2 B2.size hb3
  clear hb2 hb3 O2 B1 B2 HX hx1
  have k0 : w3.cell? ⟨w.heap.size, 0, none⟩ = some (.slice A1 D.roots.length c1) := blk_cell HX3.out 0
  have k1 : w3.cell? ⟨w.heap.size, 1, none⟩ = some (.slice A2 D.mods.length c2) := blk_cell HX3.out 1
  have k2 : w3.cell? ⟨w.heap.size, 2, none⟩ = some (.slice A3 D.faults.length c3) := blk_cell HX3.out 2
  go_wp2_with fail
  refine (toWorld_calls D _ _ _ S w3 (h.below B3) hr1 hm1 hf1 HLL.out).mono ?_
  rintro e w4 ⟨xR, xM, xF, rfl, O4, hb4⟩
  have B4 := below_then B3 B3.size hb4
  have hX4 := (hb4.block _ hx3).trans HX3.out
  obtain ⟨D1, d1, hx1, _, _, _⟩ := O4.R.slV
  obtain ⟨D2, d2, hx2, _, _, _⟩ := O4.M.slV
  obtain ⟨D3, d3, hx3', _, _, _⟩ := O4.F.slV
  subst hx1 hx2 hx3'
  have hbB : Below w4.heap.size w4 (w4.alloc (Obj.cells #[.slice D1 D.roots.length d1, .slice D2 D.mods.length d2, .slice D3 D.faults.length d3] 27)) := by (repeat (first | with_reducible exact Below.refl _ _ | with_reducible assumption | with_reducible refine Below.alloc ?_ (by first | exact Nat.le_refl _ | exact Below.size (by assumption) | exact Nat.le_trans (Below.size (by assumption)) (by simp; done) | (simp; done) | (simp; omega) | omega) _ | with_reducible refine below_drewN ?_ _ | with_reducible refine Below.drew ?_ | with_reducible refine Below.setCell ?_ (by first | exact Nat.le_refl _ | (simp; done) | (simp; omega) | omega) _))
  have hN7 := heap_alloc_new w4 (Obj.cells #[.slice D1 D.roots.length d1, .slice D2 D.mods.length d2, .slice D3 D.faults.length d3] 27)
  have hzB : w4.heap.size < (w4.alloc (Obj.cells #[.slice D1 D.roots.length d1, .slice D2 D.mods.length d2, .slice D3 D.faults.length d3] 27)).heap.size := by simp
  have hx4 : w.heap.size < w4.heap.size := Nat.lt_of_lt_of_le hx3 hb4.size
  clear hb4 HX3 k0 k1 k2 B3
  dsimp only
  go_upto_region 9 with fail
  generalize w4.alloc (Obj.cells #[.slice D1 D.roots.length d1, .slice D2 D.mods.length d2, .slice D3 D.faults.length d3] 27) = W5 at hbB hN7 hzB ⊢
  have B5 := below_then B4 B4.size hbB
  have O5 := O4.below hbB
  have hX5 := hide ((hbB.block _ hx4).trans hX4)
  have hN75 := hide hN7
  have l0 : W5.cell? ⟨w4.heap.size, 0, none⟩ = some (.slice D1 D.roots.length d1) := blk_cell hN7 0
  have l1 : W5.cell? ⟨w4.heap.size, 1, none⟩ = some (.slice D2 D.mods.length d2) := blk_cell hN7 1
  have l2 : W5.cell? ⟨w4.heap.size, 2, none⟩ = some (.slice D3 D.faults.length d3) := blk_cell hN7 2
  clear hX4 hN7 O4 B4
  go_wp2_with fail
  refine (HIL.out W5 _ _ _ _ O5.wIn (hm.below B5) (HTB.out.below B5)).mono ?_
  rintro e w8 ⟨rfl, hb6⟩
  have z6 := hb6.size
  have zB := hbB.size
  have B8 := below_then B5 B5.size hb6
  have O8 := O5.below hb6
  have hX8 := (hb6.block _ (by omega)).trans hX5.out
  have hN78 := (hb6.block _ hzB).trans hN75.out
  clear hb6 hX5 hN75 O5 B5 l0 l1 l2 hbB
  have k0 : w8.cell? ⟨w.heap.size, 0, none⟩ = some (.slice A1 D.roots.length c1) := blk_cell hX8 0
  have k1 : w8.cell? ⟨w.heap.size, 1, none⟩ = some (.slice A2 D.mods.length c2) := blk_cell hX8 1
  have k2 : w8.cell? ⟨w.heap.size, 2, none⟩ = some (.slice A3 D.faults.length c3) := blk_cell hX8 2
  have l0 : w8.cell? ⟨w4.heap.size, 0, none⟩ = some (.slice D1 D.roots.length d1) := blk_cell hN78 0
  have l1 : w8.cell? ⟨w4.heap.size, 1, none⟩ = some (.slice D2 D.mods.length d2) := blk_cell hN78 1
  have l2 : w8.cell? ⟨w4.heap.size, 2, none⟩ = some (.slice D3 D.faults.length d3) := blk_cell hN78 2
  have hne : (!ans.toList == ans.toList) = false := nbeq_t rfl
  go_upto_region 12 with fail
  refine wp_region_held_drew (S := fun w' => Below w8.heap.size w8 w' ∧ (w'.cell? ⟨w.heap.size, 0, none⟩ = some (.slice A1 D.roots.length c1) ∧ w'.cell? ⟨w.heap.size, 1, none⟩ = some (.slice A2 D.mods.length c2) ∧ w'.cell? ⟨w.heap.size, 2, none⟩ = some (.slice A3 D.faults.length c3)) ∧ w'.cell? ⟨w4.heap.size, 0, none⟩ = some (.slice D1 D.roots.length d1) ∧ w'.cell? ⟨w4.heap.size, 1, none⟩ = some (.slice D2 D.mods.length d2) ∧ w'.cell? ⟨w4.heap.size, 2, none⟩ = some (.slice D3 D.faults.length d3)) (by kernel_rfl) ⟨Below.drew (Below.refl _ _), ⟨k0, k1, k2⟩, l0, l1, l2⟩ (fun hHeld => ?_)
  (refine wpAnyH_take (i := 0) (oi := ⟨some 29, _, _, _, _, _⟩) (v := .agg #[.slice D1 D.roots.length d1, .slice D2 D.mods.length d2, .slice D3 D.faults.length d3]) rfl (by kernel_rfl) (by kernel_rfl) (by kernel_rfl) (fun _ _ _ h => h) (Or.inl ⟨by rfl, ?_⟩) (by assumption) ?_; (focus (intro w hSw; (try dsimp only at hSw); go_simp; done)); try simp only [Act.put, List.setIfInBounds_toArray, List.set_cons_zero, List.set_cons_succ])
  (refine wpAnyH_take (i := 1) (oi := ⟨some 30, _, _, _, _, _⟩) (v := .agg #[.slice A1 D.roots.length c1, .slice A2 D.mods.length c2, .slice A3 D.faults.length c3]) rfl (by kernel_rfl) (by kernel_rfl) (by kernel_rfl) (fun _ _ _ h => h) (Or.inl ⟨by rfl, ?_⟩) (by assumption) ?_; (focus (intro w hSw; (try dsimp only at hSw); go_simp; done)); try simp only [Act.put, List.setIfInBounds_toArray, List.set_cons_zero, List.set_cons_succ])
  refine wpAnyH_ready (rs := [2]) (by kernel_rfl) (by simp) ?_
  refine AllReadyH.cons (o := ⟨some 31, _, _, _, _, _⟩) rfl (fun K hK => ?_) AllReadyH.nil
  go_simp
  have B8d := Below.drew B8
  refine (toWorld_calls D _ _ _ S w8.drew (h.below B8d) hr1 hm1 hf1 HLL.out).mono ?_
  rintro e w9 ⟨yR, yM, yF, rfl, O9, hb9⟩
  have B9 := below_then B8d B8d.size hb9
  have O8' := (show OwnWorld w8.drew w3.heap.size _ _ _ D from ⟨O8.R, O8.M, O8.F⟩).below hb9
  have hW9 : Below w8.heap.size w8 w9 := hHeld.1.trans hb9
  have keep : ∀ {W1 W2 : World} {a : Addr} {v : Value}, W1.cell? a = some v → Below W1.heap.size W1 W2 → W2.cell? a = some v := fun h hb => (hb.cell (World.block_lt_of_cell? _ _ h)).trans h
  refine hK.out _ _ (by
    obtain ⟨u0, ⟨u1, u2, u3⟩, u4, u5, u6⟩ := hHeld
    exact ⟨below_then u0 u0.size hb9, ⟨keep u1 hb9, keep u2 hb9, keep u3 hb9⟩, keep u4 hb9, keep u5 hb9, keep u6 hb9⟩) (fun hHeld => ?_)
  clear hK K
  try simp only [Act.put, List.setIfInBounds_toArray, List.set_cons_zero, List.set_cons_succ]
  refine wpAnyH_ready (rs := [3]) (by kernel_rfl) (by simp) ?_
  refine AllReadyH.cons (o := ⟨some 32, _, _, _, _, _⟩) rfl (fun K hK => ?_) AllReadyH.nil
  go_simp
  refine (eqWorld_same D _ _ _ yR yM yF w9 _ _ O8'.wIn O9.wIn).mono ?_
  rintro e w10 ⟨rfl, hb10⟩
  have B10 := below_then B9 B9.size hb10
  have hW10 : Below w8.heap.size w8 w10 := below_then hW9 hW9.size hb10
  refine hK.out _ _ (by
    obtain ⟨u0, ⟨u1, u2, u3⟩, u4, u5, u6⟩ := hHeld
    exact ⟨below_then u0 u0.size hb10, ⟨keep u1 hb10, keep u2 hb10, keep u3 hb10⟩, keep u4 hb10, keep u5 hb10, keep u6 hb10⟩) (fun hHeld => ?_)
  clear hK K
  try simp only [Act.put, List.setIfInBounds_toArray, List.set_cons_zero, List.set_cons_succ]
  (refine wpAnyH_take (i := 4) (oi := ⟨some 33, _, _, _, _, _⟩) (v := .bool false) rfl (by kernel_rfl) (by kernel_rfl) (by kernel_rfl) (fun _ _ _ h => h) (Or.inl ⟨by rfl, ?_⟩) (by assumption) ?_; (focus (intro w hSw; (try dsimp only at hSw); go_simp; done)); try simp only [Act.put, List.setIfInBounds_toArray, List.set_cons_zero, List.set_cons_succ])
  refine wpAnyH_done (by kernel_rfl) ?_ _
  clear hHeld hb9 hb10 hW9 O8' O9 B9 B8d B8 O8 hX8 hN78 k0 k1 k2 keep l0 l1 l2
  go_wp2_with fail
  go_ret
  exact ⟨rfl, B10⟩
end Go.Proofs.YtkhlicmlnjccdaaGreatDoor
