/-
  Walks: the laws' comparisons, of two things that read alike.
-/
import Derived.Test.YtkhlicmlnjccdaaGreatDoorKexactLoad1
import Derived.Test.YtkhlicmlnjccdaaGreatDoorKexactLoad11
import Derived.Test.YtkhlicmlnjccdaaGreatDoorKexactLoad9
import Derived.StillTailTactics
namespace Go.Proofs.YtkhlicmlnjccdaaGreatDoor
open Go.RowKit Mem

set_option maxHeartbeats 400000 in
theorem eqLine_same (x : LineD) (w : World) :
    Calls Tryz.prog 124 #[.agg #[.int .i64 x.op, .string x.name, .int .i64 x.num, .int .i64 x.skip], .agg #[.int .i64 x.op, .string x.name, .int .i64 x.num, .int .i64 x.skip]] w fun e w' => e = .returned (.bool true) ∧ Below w.heap.size w w' := by
  go_enter Tryz.func124, Tryz.ntmps124
  go_wp2_with fail
  go_ret
  exact ⟨rfl, by (repeat (first | with_reducible exact Below.refl _ _ | with_reducible assumption | with_reducible refine Below.alloc ?_ (by first | exact Nat.le_refl _ | exact Below.size (by assumption) | exact Nat.le_trans (Below.size (by assumption)) (by simp; done) | (simp; done) | (simp; omega) | omega) _ | with_reducible refine below_drewN ?_ _ | with_reducible refine Below.drew ?_ | with_reducible refine Below.setCell ?_ (by first | exact Nat.le_refl _ | (simp; done) | (simp; omega) | omega) _))⟩

set_option maxRecDepth 100000 in
set_option maxHeartbeats 1000000 in
theorem eqLineS_same (A B : Option Addr) (c d n : Nat) (xs : List LineD) (w : World) (S T : Nat → Prop) (h1 : Sl kLine w S A xs) (h2 : Sl kLine w T B xs) (hn : xs.length = n) (hl : n ≤ maxLen) :
    Calls Tryz.prog 106 #[.slice A n c, .slice B n d] w fun e w' => e = .returned (.bool true) ∧ Below w.heap.size w w' := by
  subst hn
  replace hl := mem_maxLen _ hl
  go_enter Tryz.func106, Tryz.ntmps106
  go_wp2_with fail
  go_loopw [5] (fun i wr => ∃ k : Nat, i = .int .i64 k ∧ k ≤ xs.length ∧ Below w.heap.size w wr) (fun i _ => xs.length - (intOf i).toNat)
  case atStart => exact ⟨0, rfl, by omega, Below.refl _ _⟩
  case round =>
    obtain ⟨k, rfl, hk, HB⟩ := hrel
    by_cases hlt : k < xs.length
    · obtain ⟨ad, hA, l0, l1, l2, l3⟩ := (h1.below HB).get hlt
      subst hA
      obtain ⟨bd, hA, m0, m1, m2, m3⟩ := (h2.below HB).get hlt
      subst hA
      have e0 : wr.cell? (ad.add (k * 4)) = some (.int .i64 xs[k].op) := l0.2
      have e1 : wr.cell? ⟨(ad.add (k * 4)).block, (ad.add (k * 4)).off + 1, none⟩ = some (.string xs[k].name) := by have := l1.2; rwa [add_pos _ _ (by omega)] at this
      have e2 : wr.cell? ⟨(ad.add (k * 4)).block, (ad.add (k * 4)).off + 2, none⟩ = some (.int .i64 xs[k].num) := by have := l2.2; rwa [add_pos _ _ (by omega)] at this
      have e3 : wr.cell? ⟨(ad.add (k * 4)).block, (ad.add (k * 4)).off + 3, none⟩ = some (.int .i64 xs[k].skip) := by have := l3.2; rwa [add_pos _ _ (by omega)] at this
      have d0 : wr.cell? (bd.add (k * 4)) = some (.int .i64 xs[k].op) := m0.2
      have d1 : wr.cell? ⟨(bd.add (k * 4)).block, (bd.add (k * 4)).off + 1, none⟩ = some (.string xs[k].name) := by have := m1.2; rwa [add_pos _ _ (by omega)] at this
      have d2 : wr.cell? ⟨(bd.add (k * 4)).block, (bd.add (k * 4)).off + 2, none⟩ = some (.int .i64 xs[k].num) := by have := m2.2; rwa [add_pos _ _ (by omega)] at this
      have d3 : wr.cell? ⟨(bd.add (k * 4)).block, (bd.add (k * 4)).off + 3, none⟩ = some (.int .i64 xs[k].skip) := by have := m3.2; rwa [add_pos _ _ (by omega)] at this
      clear l0 l1 l2 l3 m0 m1 m2 m3 h1 h2
      generalize xs[k] = x at e0 e1 e2 e3 d0 d1 d2 d3
      go_wp2_with fail
      go_still_tail 8, (by kernel_rfl)
      change wpList _ _ _ _ _ wr.drew
      go_wp2_with fail
      refine (eqLine_same x _).mono ?_
      rintro e w1 ⟨rfl, hb1⟩
      have HB1 := below_then (Below.drew HB) (show w.heap.size ≤ wr.drew.heap.size from HB.size) hb1
      clear e0 e1 e2 e3 d0 d1 d2 d3 hb1
      go_wp2_with fail
      go_roundw
      case rel => exact ⟨k + 1, by go_num, by omega, HB1⟩
      case measure => simp [intOf]; omega
    · obtain rfl : k = xs.length := by omega
      go_wp2_with fail
      go_ret
      exact ⟨rfl, HB⟩

set_option maxRecDepth 100000 in
set_option maxHeartbeats 400000 in
theorem eqModule_same (A B : Option Addr) (c d : Nat) (x : ModD) (w : World) (S T : Nat → Prop) (h1 : Sl kLine w S A x.lines) (h2 : Sl kLine w T B x.lines) (hl : x.lines.length ≤ maxLen) :
    Calls Tryz.prog 83 #[.agg #[.string x.name, .slice A x.lines.length c], .agg #[.string x.name, .slice B x.lines.length d]] w fun e w' => e = .returned (.bool true) ∧ Below w.heap.size w w' := by
  obtain ⟨nm, ls⟩ := x
  have hb0 := nbeq_t (rfl : nm = nm)
  have hbW : Below w.heap.size w ((w.alloc (Obj.cells #[.string nm, .slice A ls.length c] 75)).alloc (Obj.cells #[.string nm, .slice B ls.length d] 75)) := by (repeat (first | with_reducible exact Below.refl _ _ | with_reducible assumption | with_reducible refine Below.alloc ?_ (by first | exact Nat.le_refl _ | exact Below.size (by assumption) | exact Nat.le_trans (Below.size (by assumption)) (by simp; done) | (simp; done) | (simp; omega) | omega) _ | with_reducible refine below_drewN ?_ _ | with_reducible refine Below.drew ?_ | with_reducible refine Below.setCell ?_ (by first | exact Nat.le_refl _ | (simp; done) | (simp; omega) | omega) _))
  go_enter Tryz.func83, Tryz.ntmps83
  go_wp2_with fail
  refine (eqLineS_same A B c d ls.length ls _ S T (h1.below hbW) (h2.below hbW) rfl hl).mono ?_
  rintro e w1 ⟨rfl, hb1⟩
  have HB := below_then hbW hbW.size hb1
  clear hb1
  go_wp2_with fail
  go_ret
  exact ⟨rfl, HB⟩

set_option maxRecDepth 100000 in
set_option maxHeartbeats 1000000 in
theorem eqModuleS_same (A B : Option Addr) (c d n : Nat) (xs : List ModD) (w : World) (S T : Nat → Prop) (h1 : Sl kMod w S A xs) (h2 : Sl kMod w T B xs) (hn : xs.length = n) (hl : n ≤ maxLen) :
    Calls Tryz.prog 43 #[.slice A n c, .slice B n d] w fun e w' => e = .returned (.bool true) ∧ Below w.heap.size w w' := by
  subst hn
  replace hl := mem_maxLen _ hl
  go_enter Tryz.func43, Tryz.ntmps43
  go_wp2_with fail
  go_loopw [5] (fun i wr => ∃ k : Nat, i = .int .i64 k ∧ k ≤ xs.length ∧ Below w.heap.size w wr) (fun i _ => xs.length - (intOf i).toNat)
  case atStart => exact ⟨0, rfl, by omega, Below.refl _ _⟩
  case round =>
    obtain ⟨k, rfl, hk, HB⟩ := hrel
    by_cases hlt : k < xs.length
    · obtain ⟨ad, hA, hc0, A4, c4, hc4, hl4, hm4, hs4⟩ := (h1.below HB).get hlt
      subst hA
      obtain ⟨bd, hA, hd0, A5, c5, hc5, hl5, hm5, hs5⟩ := (h2.below HB).get hlt
      subst hA
      have e0 : wr.cell? (ad.add (k * 2)) = some (.string xs[k].name) := hc0.2
      have e1 : wr.cell? ⟨(ad.add (k * 2)).block, (ad.add (k * 2)).off + 1, none⟩ = some (.slice A4 xs[k].lines.length c4) := by have := hc4.2; rwa [add_pos _ _ (by omega)] at this
      have d0 : wr.cell? (bd.add (k * 2)) = some (.string xs[k].name) := hd0.2
      have d1 : wr.cell? ⟨(bd.add (k * 2)).block, (bd.add (k * 2)).off + 1, none⟩ = some (.slice A5 xs[k].lines.length c5) := by have := hc5.2; rwa [add_pos _ _ (by omega)] at this
      clear hc0 hc4 hd0 hc5 h1 h2
      generalize xs[k] = x at e0 e1 d0 d1 hs4 hs5 hl4 hl5
      go_wp2_with fail
      go_still_tail 8, (by kernel_rfl)
      change wpList _ _ _ _ _ wr.drew
      go_wp2_with fail
      refine (eqModule_same A4 A5 c4 c5 x _ S T (hs4.below (Below.drew (Below.refl _ _))) (hs5.below (Below.drew (Below.refl _ _))) (by omega)).mono ?_
      rintro e w1 ⟨rfl, hb1⟩
      have HB1 := below_then (Below.drew HB) (show w.heap.size ≤ wr.drew.heap.size from HB.size) hb1
      clear e0 e1 d0 d1 hb1 hs4 hs5
      go_wp2_with fail
      go_roundw
      case rel => exact ⟨k + 1, by go_num, by omega, HB1⟩
      case measure => simp [intOf]; omega
    · obtain rfl : k = xs.length := by omega
      go_wp2_with fail
      go_ret
      exact ⟨rfl, HB⟩

set_option maxHeartbeats 400000 in
theorem eqIntS_same (A B : Option Addr) (c d n : Nat) (xs : List Int) (w : World) (S T : Nat → Prop) (h1 : Sl kInt w S A xs) (h2 : Sl kInt w T B xs) (hn : xs.length = n) (hl : n ≤ maxLen) :
    Calls Tryz.prog 44 #[.slice A n c, .slice B n d] w fun e w' => e = .returned (.bool true) ∧ Below w.heap.size w w' := by
  subst hn
  replace hl := mem_maxLen _ hl
  go_enter Tryz.func44, Tryz.ntmps44
  go_wp2_with fail
  go_loopw [5] (fun i wr => ∃ k m : Nat, i = .int .i64 k ∧ k ≤ xs.length ∧ wr = w.drewN m) (fun i _ => xs.length - (intOf i).toNat)
  case atStart => exact ⟨0, 0, rfl, by omega, rfl⟩
  case round =>
    obtain ⟨k, m, rfl, hk, rfl⟩ := hrel
    by_cases hlt : k < xs.length
    · obtain ⟨ad, hA, l0⟩ := h1.get hlt
      subst hA
      obtain ⟨bd, hA, m0⟩ := h2.get hlt
      subst hA
      have e0 : w.cell? (ad.add k) = some (.int .i64 xs[k]) := by simpa [kInt] using l0.2
      have d0 : w.cell? (bd.add k) = some (.int .i64 xs[k]) := by simpa [kInt] using m0.2
      clear l0 m0 h1 h2
      generalize xs[k] = x at e0 d0
      go_wp2_with fail
      go_quiet (fail)
      go_wp2_with fail
      go_roundw
      case rel => exact ⟨k + 1, _, by go_num, by omega, by first | rfl | exact World.drewN_drewN ..⟩
      case measure => simp [intOf]; omega
    · obtain rfl : k = xs.length := by omega
      go_wp2_with fail
      go_ret
      exact ⟨rfl, below_drewN (Below.refl _ _) _⟩

set_option maxRecDepth 100000 in
set_option maxHeartbeats 1000000 in
theorem eqWorld_same (D : WorldD) (vR vM vF uR uM uF : Value) (w : World) (S T : Nat → Prop) (h1 : WIn w S vR vM vF D) (h2 : WIn w T uR uM uF D) :
    Calls Tryz.prog 16 #[.agg #[vR, vM, vF], .agg #[uR, uM, uF]] w fun e w' => e = .returned (.bool true) ∧ Below w.heap.size w w' := by
  have hlen := hide h1.lens
  obtain ⟨⟨A1, c1, rfl, _, _, hR⟩, ⟨A2, c2, rfl, _, _, hM⟩, ⟨A3, c3, rfl, _, _, hF⟩⟩ := h1
  obtain ⟨⟨B1, d1, rfl, _, _, gR⟩, ⟨B2, d2, rfl, _, _, gM⟩, ⟨B3, d3, rfl, _, _, gF⟩⟩ := h2
  go_enter Tryz.func16, Tryz.ntmps16
  go_wp2_with fail
  generalize hW : (w.alloc (Obj.cells #[.slice A1 D.roots.length c1, .slice A2 D.mods.length c2, .slice A3 D.faults.length c3] 27)).alloc (Obj.cells #[.slice B1 D.roots.length d1, .slice B2 D.mods.length d2, .slice B3 D.faults.length d3] 27) = W
  have hbW : Below w.heap.size w W := by rw [← hW]; (repeat (first | with_reducible exact Below.refl _ _ | with_reducible assumption | with_reducible refine Below.alloc ?_ (by first | exact Nat.le_refl _ | exact Below.size (by assumption) | exact Nat.le_trans (Below.size (by assumption)) (by simp; done) | (simp; done) | (simp; omega) | omega) _ | with_reducible refine below_drewN ?_ _ | with_reducible refine Below.drew ?_ | with_reducible refine Below.setCell ?_ (by first | exact Nat.le_refl _ | (simp; done) | (simp; omega) | omega) _))
  have hb := alloc_two w (Obj.cells #[.slice A1 D.roots.length c1, .slice A2 D.mods.length c2, .slice A3 D.faults.length c3] 27) (Obj.cells #[.slice B1 D.roots.length d1, .slice B2 D.mods.length d2, .slice B3 D.faults.length d3] 27)
  rw [hW] at hb
  have HBK := hide hb
  have hz : w.heap.size + 2 = W.heap.size := hb.2.2
  clear hb hW
  refine (eqStringS_same A1 B1 c1 d1 D.roots.length D.roots W S T (hR.below hbW) (gR.below hbW) rfl hlen.out.1).mono ?_
  rintro e w1 ⟨rfl, n1, rfl⟩
  have k1 : W.cell? ⟨w.heap.size, 1, none⟩ = some _ := blk_cell HBK.out.1 1
  have k2 : W.cell? ⟨w.heap.size + 1, 1, none⟩ = some _ := blk_cell HBK.out.2.1 1
  have hbD := below_drewN hbW n1
  go_wp2_with fail
  refine (eqModuleS_same A2 B2 c2 d2 D.mods.length D.mods _ S T (hM.below hbD) (gM.below hbD) rfl hlen.out.2.1).mono ?_
  rintro e w2 ⟨rfl, hb2⟩
  have HB := below_then hbD hbD.size hb2
  have k3 : w2.cell? ⟨w.heap.size, 2, none⟩ = some _ := blk_cell ((hb2.block _ (by show w.heap.size < W.heap.size; omega)).trans HBK.out.1) 2
  have k4 : w2.cell? ⟨w.heap.size + 1, 2, none⟩ = some _ := blk_cell ((hb2.block _ (by show w.heap.size + 1 < W.heap.size; omega)).trans HBK.out.2.1) 2
  clear hb2 k1 k2 hbD
  go_wp2_with fail
  refine (eqIntS_same A3 B3 c3 d3 D.faults.length D.faults _ S T (hF.below HB) (gF.below HB) rfl hlen.out.2.2).mono ?_
  rintro e w3 ⟨rfl, hb3⟩
  have HB3 := below_then HB HB.size hb3
  clear hb3
  go_wp2_with fail
  go_ret
  exact ⟨rfl, HB3⟩
end Go.Proofs.YtkhlicmlnjccdaaGreatDoor
