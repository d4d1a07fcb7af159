/-
Two states of modules, compared.
Walk: the laws' comparison of two reports (wReport).
-/
import Derived.Test.YtkhlicmlnjccdaaGreatDoorKt38
import Derived.Laws.StructEq
import Derived.Test.YtkhlicmlnjccdaaGreatDoorKt1
import Derived.Test.YtkhlicmlnjccdaaGreatDoorKt16
import Derived.Test.YtkhlicmlnjccdaaGreatDoorKt18
import Derived.StillTailTactics
namespace Go.Proofs.YtkhlicmlnjccdaaGreatDoor
open Go.RowKit Mem
theorem state_guard : Tryz.prog.eqGuardType Tryz.prog.depth 79 = false := by kernel_rfl
theorem state_stood : Tryz.prog.stoodInHeld 79 = false := by kernel_rfl
theorem state_under : Tryz.prog.underlying 79 = some (.struct (Tryz.prog.fieldsOf 79)) := by kernel_rfl
theorem state_same (s : Str) (a b c : Int) (w : World) : (binOp .neq 79 (.agg #[.string s, .int .i64 a, .int .i64 b, .int .i64 c]) (.agg #[.string s, .int .i64 a, .int .i64 b, .int .i64 c])).run Tryz.prog w = .ok (.bool false) w := by
  rw [run_neq_struct, run_equalIn_agg _ _ _ _ _ state_under state_stood]
  simp only [Program.fieldsOf, Tryz.underlying79]
  simp [Op.eqFields, part, go_sem, Tryz.underlying3, Tryz.underlying9, Tryz.underlying2]
end Go.Proofs.YtkhlicmlnjccdaaGreatDoor

namespace Go.Proofs.YtkhlicmlnjccdaaGreatDoor
open Go.RowKit Mem
/-- a report that reads as s, in blocks of S -/
structure RepRg (w : World) (S : Nat → Prop) (vc vs vr : Value) (s : Ld.St) : Prop where
  recs : SlV kRec w S vc s.recs
  states : SlV kState w S vs s.states
  rings : SlV (kSl kStr) w S vr s.rings
theorem RepAt.rg {w : World} {base : Nat} {vc vs vr : Value} {s : Ld.St} (h : RepAt w base vc vs vr s) : RepRg w (fun b => b < w.heap.size) vc vs vr s :=
  ⟨SlV.lt h.recs.slV (Nat.le_refl _), SlV.lt h.states.slV (Nat.le_refl _), by obtain ⟨K, hr⟩ := h.rings; exact SlV.lt hr.slV (Nat.le_refl _)⟩
theorem RepRg.same {w w' : World} {S : Nat → Prop} {vc vs vr : Value} {s : Ld.St} (h : RepRg w S vc vs vr s) (e : Same S w w') : RepRg w' S vc vs vr s := ⟨h.recs.same e, h.states.same e, h.rings.same e⟩
theorem RepRg.below {w w' : World} {S : Nat → Prop} {vc vs vr : Value} {s : Ld.St} (h : RepRg w S vc vs vr s) (e : Below w.heap.size w w') : RepRg w' S vc vs vr s := ⟨h.recs.below e, h.states.below e, h.rings.below e⟩
theorem SlV.slA {α : Type} {k : Kind α} {w : World} {S : Nat → Prop} {A : Option Addr} {n c : Nat} {xs : List α} (h : SlV k w S (.slice A n c) xs) : Sl k w S A xs := by
  obtain ⟨A', c', hv, _, _, s⟩ := h
  injection hv with e _ _
  subst e
  exact s
theorem rec_stood : Tryz.prog.stoodInHeld 39 = false := by kernel_rfl
theorem rec_under : Tryz.prog.underlying 39 = some (.struct (Tryz.prog.fieldsOf 39)) := by kernel_rfl
theorem rec_same (k : Int) (s : Str) (b c : Int) (w : World) : (binOp .neq 39 (.agg #[.int .i64 k, .string s, .int .i64 b, .int .i64 c]) (.agg #[.int .i64 k, .string s, .int .i64 b, .int .i64 c])).run Tryz.prog w = .ok (.bool false) w := by
  rw [run_neq_struct, run_equalIn_agg _ _ _ _ _ rec_under rec_stood]
  simp only [Program.fieldsOf, Tryz.underlying39]
  simp [Op.eqFields, part, go_sem, Tryz.underlying3, Tryz.underlying9, Tryz.underlying2]

set_option maxRecDepth 100000 in
set_option maxHeartbeats 4000000 in
theorem wReport_same (c R : Int) (s : Ld.St) (S T : Nat → Prop) (vc vs vr uc us ur : Value) (w : World) (h1 : RepRg w S vc vs vr s) (h2 : RepRg w T uc us ur s) :
    Calls Tryz.prog 10 #[.agg #[.int .i64 c, vc, vs, .int .i64 R, vr], .agg #[.int .i64 c, uc, us, .int .i64 R, ur]] w fun e w' => e = .returned (.bool true) ∧ Below w.heap.size w w' := by
  obtain ⟨⟨A1, c1, rfl, a1, b1, p1⟩, ⟨A2, c2, rfl, a2, b2, p2⟩, ⟨A3, c3, rfl, a3, b3, p3⟩⟩ := h1
  obtain ⟨⟨B1, d1, rfl, _, _, q1⟩, ⟨B2, d2, rfl, _, _, q2⟩, ⟨B3, d3, rfl, _, _, q3⟩⟩ := h2
  have l1 := mem_maxLen _ (Nat.le_trans a1 b1)
  have l2 := mem_maxLen _ (Nat.le_trans a2 b2)
  have l3 := mem_maxLen _ (Nat.le_trans a3 b3)
  clear a1 b1 a2 b2 a3 b3
  go_enter Tryz.func10, Tryz.ntmps10
  go_upto_region 1 with fail
  generalize hW : (w.alloc (Obj.cells #[.int .i64 c, .slice A1 s.recs.length c1, .slice A2 s.states.length c2, .int .i64 R, .slice A3 s.rings.length c3] 34)).alloc (Obj.cells #[.int .i64 c, .slice B1 s.recs.length d1, .slice B2 s.states.length d2, .int .i64 R, .slice B3 s.rings.length d3] 34) = W
  have hbW : Below w.heap.size w W := by rw [← hW]; (repeat (first | with_reducible exact Below.refl _ _ | with_reducible assumption | with_reducible refine Below.alloc ?_ (by first | exact Nat.le_refl _ | exact Below.size (by assumption) | exact Nat.le_trans (Below.size (by assumption)) (by simp; done) | (simp; done) | (simp; omega) | omega) _ | with_reducible refine below_drewN ?_ _ | with_reducible refine Below.drew ?_ | with_reducible refine Below.setCell ?_ (by first | exact Nat.le_refl _ | (simp; done) | (simp; omega) | omega) _))
  have hb := alloc_two w (Obj.cells #[.int .i64 c, .slice A1 s.recs.length c1, .slice A2 s.states.length c2, .int .i64 R, .slice A3 s.rings.length c3] 34) (Obj.cells #[.int .i64 c, .slice B1 s.recs.length d1, .slice B2 s.states.length d2, .int .i64 R, .slice B3 s.rings.length d3] 34)
  rw [hW] at hb
  have HBK := hide hb
  have hz : w.heap.size + 2 = W.heap.size := hb.2.2
  have P1 := hide (p1.below hbW)
  have P2 := hide (p2.below hbW)
  have P3 := hide (p3.below hbW)
  have Q1 := hide (q1.below hbW)
  have Q2 := hide (q2.below hbW)
  have Q3 := hide (q3.below hbW)
  clear hb hW p1 p2 p3 q1 q2 q3
  have x0 : W.cell? ⟨w.heap.size, 0, none⟩ = some _ := blk_cell HBK.out.1 0
  have x1 : W.cell? ⟨w.heap.size, 1, none⟩ = some _ := blk_cell HBK.out.1 1
  have x2 : W.cell? ⟨w.heap.size, 2, none⟩ = some _ := blk_cell HBK.out.1 2
  have x3 : W.cell? ⟨w.heap.size, 3, none⟩ = some _ := blk_cell HBK.out.1 3
  have x4 : W.cell? ⟨w.heap.size, 4, none⟩ = some _ := blk_cell HBK.out.1 4
  have y0 : W.cell? ⟨w.heap.size + 1, 0, none⟩ = some _ := blk_cell HBK.out.2.1 0
  have y1 : W.cell? ⟨w.heap.size + 1, 1, none⟩ = some _ := blk_cell HBK.out.2.1 1
  have y2 : W.cell? ⟨w.heap.size + 1, 2, none⟩ = some _ := blk_cell HBK.out.2.1 2
  have y3 : W.cell? ⟨w.heap.size + 1, 3, none⟩ = some _ := blk_cell HBK.out.2.1 3
  have y4 : W.cell? ⟨w.heap.size + 1, 4, none⟩ = some _ := blk_cell HBK.out.2.1 4
  go_wp2_with fail
  have hnr := rec_same
  have hns := state_same
  go_loopw [5, 50] (fun _ v wr => ∃ k : Nat, v = .int .i64 k ∧ k ≤ s.recs.length ∧ Below W.heap.size W wr) (fun _ v _ => s.recs.length - (intOf v).toNat)
  case atStart => exact ⟨0, rfl, by omega, Below.refl _ _⟩
  case round =>
    clear x0 x1 x2 x3 x4 y0 y1 y2 y3 y4
    obtain ⟨k, rfl, hk, HB⟩ := hrel
    by_cases hlt : k < s.recs.length
    · obtain ⟨ad, hA, l0, l1, l2, l3⟩ := (P1.out.below HB).get hlt
      subst hA
      obtain ⟨bd, hA, m0, m1, m2, m3⟩ := (Q1.out.below HB).get hlt
      subst hA
      have e0 : wr.cell? (ad.add (k * 4)) = some (.int .i64 s.recs[k].kind) := l0.2
      have e1 : wr.cell? ⟨(ad.add (k * 4)).block, (ad.add (k * 4)).off + 1, none⟩ = some (.string s.recs[k].name) := by have := l1.2; rwa [add_pos _ _ (by omega)] at this
      have e2 : wr.cell? ⟨(ad.add (k * 4)).block, (ad.add (k * 4)).off + 2, none⟩ = some (.int .i64 s.recs[k].code) := by have := l2.2; rwa [add_pos _ _ (by omega)] at this
      have e3 : wr.cell? ⟨(ad.add (k * 4)).block, (ad.add (k * 4)).off + 3, none⟩ = some (.int .i64 s.recs[k].num) := by have := l3.2; rwa [add_pos _ _ (by omega)] at this
      have h0' : wr.cell? (bd.add (k * 4)) = some (.int .i64 s.recs[k].kind) := m0.2
      have h1' : wr.cell? ⟨(bd.add (k * 4)).block, (bd.add (k * 4)).off + 1, none⟩ = some (.string s.recs[k].name) := by have := m1.2; rwa [add_pos _ _ (by omega)] at this
      have h2' : wr.cell? ⟨(bd.add (k * 4)).block, (bd.add (k * 4)).off + 2, none⟩ = some (.int .i64 s.recs[k].code) := by have := m2.2; rwa [add_pos _ _ (by omega)] at this
      have h3' : wr.cell? ⟨(bd.add (k * 4)).block, (bd.add (k * 4)).off + 3, none⟩ = some (.int .i64 s.recs[k].num) := by have := m3.2; rwa [add_pos _ _ (by omega)] at this
      clear l0 l1 l2 l3 m0 m1 m2 m3
      generalize s.recs[k].kind = f0 at e0 h0'
      generalize s.recs[k].name = f1 at e1 h1'
      generalize s.recs[k].code = f2 at e2 h2'
      generalize s.recs[k].num = f3 at e3 h3'
      have x1 : wr.cell? ⟨w.heap.size, 1, none⟩ = some (.slice (some ad) s.recs.length c1) := blk_cell ((HB.block _ (by omega)).trans HBK.out.1) 1
      have y1 : wr.cell? ⟨w.heap.size + 1, 1, none⟩ = some (.slice (some bd) s.recs.length d1) := blk_cell ((HB.block _ (by omega)).trans HBK.out.2.1) 1
      go_wp2_with fail
      go_quiet (fail)
      go_wp2_with fail
      go_roundw
      case rel => exact ⟨k + 1, by go_num, by omega, by (repeat (first | with_reducible exact Below.refl _ _ | with_reducible assumption | with_reducible refine Below.alloc ?_ (by first | exact Nat.le_refl _ | exact Below.size (by assumption) | exact Nat.le_trans (Below.size (by assumption)) (by simp; done) | (simp; done) | (simp; omega) | omega) _ | with_reducible refine below_drewN ?_ _ | with_reducible refine Below.drew ?_ | with_reducible refine Below.setCell ?_ (by first | exact Nat.le_refl _ | (simp; done) | (simp; omega) | omega) _))⟩
      case measure => simp [intOf]; omega
    · obtain rfl : k = s.recs.length := by omega
      clear hlt hk
      have x2 : wr.cell? ⟨w.heap.size, 2, none⟩ = some _ := blk_cell ((HB.block _ (by omega)).trans HBK.out.1) 2
      go_wp2_with fail
      clear x2
      obtain ⟨wk1, rfl⟩ : ∃ wk : World, wk = wr := ⟨_, rfl⟩
      go_loopw [6, 68] (fun _ v wr => ∃ k : Nat, v = .int .i64 k ∧ k ≤ s.states.length ∧ Below W.heap.size W wr) (fun _ v _ => s.states.length - (intOf v).toNat)
      case atStart => exact ⟨0, rfl, by omega, HB⟩
      case round =>
        clear HB
        obtain ⟨k, rfl, hk, HB⟩ := hrel
        by_cases hlt : k < s.states.length
        · obtain ⟨ad, hA, l0, l1, l2, l3⟩ := (P2.out.below HB).get hlt
          subst hA
          obtain ⟨bd, hA, m0, m1, m2, m3⟩ := (Q2.out.below HB).get hlt
          subst hA
          have e0 : wr.cell? (ad.add (k * 4)) = some (.string s.states[k].name) := l0.2
          have e1 : wr.cell? ⟨(ad.add (k * 4)).block, (ad.add (k * 4)).off + 1, none⟩ = some (.int .i64 s.states[k].now) := by have := l1.2; rwa [add_pos _ _ (by omega)] at this
          have e2 : wr.cell? ⟨(ad.add (k * 4)).block, (ad.add (k * 4)).off + 2, none⟩ = some (.int .i64 s.states[k].give) := by have := l2.2; rwa [add_pos _ _ (by omega)] at this
          have e3 : wr.cell? ⟨(ad.add (k * 4)).block, (ad.add (k * 4)).off + 3, none⟩ = some (.int .i64 s.states[k].code) := by have := l3.2; rwa [add_pos _ _ (by omega)] at this
          have h0' : wr.cell? (bd.add (k * 4)) = some (.string s.states[k].name) := m0.2
          have h1' : wr.cell? ⟨(bd.add (k * 4)).block, (bd.add (k * 4)).off + 1, none⟩ = some (.int .i64 s.states[k].now) := by have := m1.2; rwa [add_pos _ _ (by omega)] at this
          have h2' : wr.cell? ⟨(bd.add (k * 4)).block, (bd.add (k * 4)).off + 2, none⟩ = some (.int .i64 s.states[k].give) := by have := m2.2; rwa [add_pos _ _ (by omega)] at this
          have h3' : wr.cell? ⟨(bd.add (k * 4)).block, (bd.add (k * 4)).off + 3, none⟩ = some (.int .i64 s.states[k].code) := by have := m3.2; rwa [add_pos _ _ (by omega)] at this
          clear l0 l1 l2 l3 m0 m1 m2 m3
          generalize s.states[k].name = f0 at e0 h0'
          generalize s.states[k].now = f1 at e1 h1'
          generalize s.states[k].give = f2 at e2 h2'
          generalize s.states[k].code = f3 at e3 h3'
          have x1 : wr.cell? ⟨w.heap.size, 2, none⟩ = some (.slice (some ad) s.states.length c2) := blk_cell ((HB.block _ (by omega)).trans HBK.out.1) 2
          have y1 : wr.cell? ⟨w.heap.size + 1, 2, none⟩ = some (.slice (some bd) s.states.length d2) := blk_cell ((HB.block _ (by omega)).trans HBK.out.2.1) 2
          go_wp2_with fail
          go_quiet (fail)
          go_wp2_with fail
          go_roundw
          case rel => exact ⟨k + 1, by go_num, by omega, by (repeat (first | with_reducible exact Below.refl _ _ | with_reducible assumption | with_reducible refine Below.alloc ?_ (by first | exact Nat.le_refl _ | exact Below.size (by assumption) | exact Nat.le_trans (Below.size (by assumption)) (by simp; done) | (simp; done) | (simp; omega) | omega) _ | with_reducible refine below_drewN ?_ _ | with_reducible refine Below.drew ?_ | with_reducible refine Below.setCell ?_ (by first | exact Nat.le_refl _ | (simp; done) | (simp; omega) | omega) _))⟩
          case measure => simp [intOf]; omega
        · obtain rfl : k = s.states.length := by omega
          clear hlt hk
          have x2 : wr.cell? ⟨w.heap.size, 4, none⟩ = some _ := blk_cell ((HB.block _ (by omega)).trans HBK.out.1) 4
          go_wp2_with fail
          clear x2
          obtain ⟨wk2, rfl⟩ : ∃ wk : World, wk = wr := ⟨_, rfl⟩
          go_loopw [7, 86] (fun _ v wr => ∃ k : Nat, v = .int .i64 k ∧ k ≤ s.rings.length ∧ Below W.heap.size W wr) (fun _ v _ => s.rings.length - (intOf v).toNat)
          case atStart => exact ⟨0, rfl, by omega, HB⟩
          case round =>
            clear HB
            obtain ⟨k, rfl, hk, HB⟩ := hrel
            by_cases hlt : k < s.rings.length
            · obtain ⟨ad, hA, A4, c4, hc4, hl4, hm4, hs4⟩ := (P3.out.below HB).get hlt
              subst hA
              obtain ⟨bd, hA, A5, c5, hc5, hl5, hm5, hs5⟩ := (Q3.out.below HB).get hlt
              subst hA
              have e1 : wr.cell? (ad.add k) = some (.slice A4 s.rings[k].length c4) := by simpa [kSl] using hc4.2
              have h1' : wr.cell? (bd.add k) = some (.slice A5 s.rings[k].length c5) := by simpa [kSl] using hc5.2
              clear hc4 hc5
              generalize s.rings[k] = x at e1 h1' hs4 hs5 hl4 hl5
              have x1 : wr.cell? ⟨w.heap.size, 4, none⟩ = some (.slice (some ad) s.rings.length c3) := blk_cell ((HB.block _ (by omega)).trans HBK.out.1) 4
              have y1 : wr.cell? ⟨w.heap.size + 1, 4, none⟩ = some (.slice (some bd) s.rings.length d3) := blk_cell ((HB.block _ (by omega)).trans HBK.out.2.1) 4
              go_wp2_with fail
              go_still_tail 10, (by kernel_rfl)
              change wpList _ _ _ _ _ wr.drew
              go_wp2_with fail
              refine (wTexts_same A4 A5 c4 c5 x.length x _ _ _ (hs4.below (Below.drew (Below.refl _ _))) (hs5.below (Below.drew (Below.refl _ _))) rfl (by omega)).mono ?_
              rintro e w1 ⟨rfl, n1, rfl⟩
              clear e1 h1' hs4 hs5 x1 y1
              go_wp2_with fail
              go_roundw
              case rel => exact ⟨k + 1, by go_num, by omega, by (repeat (first | with_reducible exact Below.refl _ _ | with_reducible assumption | with_reducible refine Below.alloc ?_ (by first | exact Nat.le_refl _ | exact Below.size (by assumption) | exact Nat.le_trans (Below.size (by assumption)) (by simp; done) | (simp; done) | (simp; omega) | omega) _ | with_reducible refine below_drewN ?_ _ | with_reducible refine Below.drew ?_ | with_reducible refine Below.setCell ?_ (by first | exact Nat.le_refl _ | (simp; done) | (simp; omega) | omega) _))⟩
              case measure => simp [intOf]; omega
            · obtain rfl : k = s.rings.length := by omega
              go_wp2_with fail
              go_ret
              exact ⟨rfl, below_then hbW hbW.size HB⟩
end Go.Proofs.YtkhlicmlnjccdaaGreatDoor
