/-
Walks: eqNamed.
Walk: the laws' comparison of two lists of texts (wTexts).
Rows of rows of texts, each of its own: how one reads and turns. No program in sight.
Walk: the laws' comparison of two reports (wReport).
Plain loading: no body begins twice, all end, the later first; what an end told is how its module stands. No program in sight.
-/
import Derived.Test.YtkhlicmlnjccdaaDoorKd1
import Derived.Test.YtkhlicmlnjccdaaDoorKd15
import Derived.Test.YtkhlicmlnjccdaaDoorKd33
import Derived.StillTailTactics
import Derived.Test.YtkhlicmlnjccdaaDoorKd10
namespace Go.Proofs.YtkhlicmlnjccdaaDoor
open Go.RowKit Mem

set_option maxHeartbeats 400000 in
theorem eqNamed_calls (c1 c2 : Int) (s1 s2 : Str) (w : World) :
    Calls Tryd.prog 19 #[.agg #[.int .i64 c1, .string s1], .agg #[.int .i64 c2, .string s2]] w fun e w' => e = .returned (.bool (decide (c1 = c2 ∧ s1 = s2))) ∧ Below w.heap.size w w' := by
  by_cases hc : c1 = c2
  · subst hc
    by_cases hs : s1 = s2
    · subst hs
      go_enter Tryd.func19, Tryd.ntmps19
      go_wp2
      go_ret
      exact ⟨by simp, by (repeat (first | with_reducible exact Below.refl _ _ | with_reducible assumption | with_reducible refine Below.alloc ?_ (by first | exact Nat.le_refl _ | exact Below.size (by assumption) | exact Nat.le_trans (Below.size (by assumption)) (by simp; done) | (simp; done) | (simp; omega) | omega) _ | with_reducible refine below_drewN ?_ _ | with_reducible refine Below.drew ?_ | with_reducible refine Below.setCell ?_ (by first | exact Nat.le_refl _ | (simp; done) | (simp; omega) | omega) _))⟩
    · have hb := nbeq_f hs
      have HS := hide hs
      clear hs
      go_enter Tryd.func19, Tryd.ntmps19
      go_wp2
      go_ret
      exact ⟨by simp [HS.out], by (repeat (first | with_reducible exact Below.refl _ _ | with_reducible assumption | with_reducible refine Below.alloc ?_ (by first | exact Nat.le_refl _ | exact Below.size (by assumption) | exact Nat.le_trans (Below.size (by assumption)) (by simp; done) | (simp; done) | (simp; omega) | omega) _ | with_reducible refine below_drewN ?_ _ | with_reducible refine Below.drew ?_ | with_reducible refine Below.setCell ?_ (by first | exact Nat.le_refl _ | (simp; done) | (simp; omega) | omega) _))⟩
  · have hb : (c1 != c2) = true := by simpa using hc
    have HC := hide hc
    clear hc
    go_enter Tryd.func19, Tryd.ntmps19
    go_wp2
    go_ret
    exact ⟨by simp [HC.out], by (repeat (first | with_reducible exact Below.refl _ _ | with_reducible assumption | with_reducible refine Below.alloc ?_ (by first | exact Nat.le_refl _ | exact Below.size (by assumption) | exact Nat.le_trans (Below.size (by assumption)) (by simp; done) | (simp; done) | (simp; omega) | omega) _ | with_reducible refine below_drewN ?_ _ | with_reducible refine Below.drew ?_ | with_reducible refine Below.setCell ?_ (by first | exact Nat.le_refl _ | (simp; done) | (simp; omega) | omega) _))⟩

theorem eqNamed_same (c : Int) (s : Str) (w : World) :
    Calls Tryd.prog 19 #[.agg #[.int .i64 c, .string s], .agg #[.int .i64 c, .string s]] w fun e w' => e = .returned (.bool true) ∧ Below w.heap.size w w' :=
  (eqNamed_calls c c s s w).mono fun e w' h => ⟨by simpa using h.1, h.2⟩

end Go.Proofs.YtkhlicmlnjccdaaDoor

namespace Go.Proofs.YtkhlicmlnjccdaaDoor
open Go.RowKit Mem

set_option maxHeartbeats 400000 in
theorem wTexts_calls (A B : Option Addr) (c d : Nat) (xs ys : List Str) (w : World) (S T : Nat → Prop) (h1 : Sl kStr w S A xs) (h2 : Sl kStr w T B ys) (hl : xs.length ≤ maxLen) (hl2 : ys.length ≤ maxLen) :
    Calls Tryd.prog 35 #[.slice A xs.length c, .slice B ys.length d] w fun e w' => e = .returned (.bool (decide (xs = ys))) ∧ ∃ n, w' = w.drewN n := by
  unfold maxLen at hl hl2
  by_cases hn : xs.length = ys.length
  · have hn' : ((xs.length : Int) != (ys.length : Int)) = false := by rw [hn]; simp
    have HN := hide hn
    clear hn
    go_enter Tryd.func35, Tryd.ntmps35
    go_wp2
    go_loopw [5, 13] (fun _ i wr => ∃ k : Nat, i = .int .i64 k ∧ k ≤ xs.length ∧ (∀ j, j < k → xs[j]? = ys[j]?) ∧ ∃ n, wr = w.drewN n) (fun _ i _ => xs.length - (intOf i).toNat)
    case atStart => exact ⟨0, rfl, by omega, fun j hj => absurd hj (by omega), 0, rfl⟩
    case round =>
      obtain ⟨k, rfl, hk, hE, n, rfl⟩ := hrel
      have HE := hide hE
      clear hE
      by_cases hlt : k < xs.length
      · have hlt2 : k < ys.length := by have := HN.out; omega
        obtain ⟨ad, rfl, hc1⟩ := h1.get hlt
        obtain ⟨bd, rfl, hc2⟩ := h2.get hlt2
        have e1 : w.cell? (ad.add k) = some (.string xs[k]) := by simpa [kStr] using hc1.2
        have e2 : w.cell? (bd.add k) = some (.string ys[k]) := by simpa [kStr] using hc2.2
        clear hc1 hc2 h1 h2
        by_cases he : xs[k] = ys[k]
        · have hb := nbeq_t he
          have HX := hide he
          clear he
          go_wp2
          go_quiet (fail)
          go_wp2
          go_roundw
          case rel =>
            refine ⟨k + 1, by go_num, by omega, fun j hj => ?_, by (first | exact ⟨_, rfl⟩ | exact ⟨_, World.drewN_drewN ..⟩ | exact ⟨0, rfl⟩)⟩
            rcases Nat.lt_or_ge j k with h | h
            · exact HE.out j h
            · obtain rfl : j = k := by omega
              rw [List.getElem?_eq_getElem hlt, List.getElem?_eq_getElem hlt2, HX.out]
          case measure => simp [intOf]; omega
        · have hb := nbeq_f he
          have HX := hide he
          clear he
          go_wp2
          go_quiet (fail)
          go_wp2
          go_ret
          refine ⟨?_, by (first | exact ⟨_, rfl⟩ | exact ⟨_, World.drewN_drewN ..⟩ | exact ⟨0, rfl⟩)⟩
          simp
          intro e; exact HX.out (by subst e; rfl)
      · go_wp2
        go_ret
        refine ⟨?_, _, rfl⟩
        simp
        refine List.ext_getElem? fun j => ?_
        rcases Nat.lt_or_ge j k with h | h
        · exact HE.out j h
        · rw [List.getElem?_eq_none (by omega), List.getElem?_eq_none (by have := HN.out; omega)]
  · have hn' : ((xs.length : Int) != (ys.length : Int)) = true := by simp; omega
    have HN := hide hn
    clear hn
    go_enter Tryd.func35, Tryd.ntmps35
    go_wp2
    go_ret
    refine ⟨?_, by (first | exact ⟨_, rfl⟩ | exact ⟨_, World.drewN_drewN ..⟩ | exact ⟨0, rfl⟩)⟩
    simp
    intro e; exact HN.out (by rw [e])

theorem wTexts_same (A B : Option Addr) (c d n : Nat) (xs : List Str) (w : World) (S T : Nat → Prop) (h1 : Sl kStr w S A xs) (h2 : Sl kStr w T B xs) (hn : xs.length = n) (hl : n ≤ maxLen) :
    Calls Tryd.prog 35 #[.slice A n c, .slice B n d] w fun e w' => e = .returned (.bool true) ∧ ∃ n, w' = w.drewN n := by
  subst hn
  exact (wTexts_calls A B c d xs xs w S T h1 h2 hl hl).mono fun e w' h => ⟨by simpa using h.1, h.2⟩
end Go.Proofs.YtkhlicmlnjccdaaDoor

namespace Go.Proofs.YtkhlicmlnjccdaaDoor
open Go.RowKit Mem
namespace Mem
theorem OwnR.at_ {w : World} {B : Nat} {K : Nat → Prop} {v : Value} {xs : List (List Str)} {m : Nat} {x : List Str} (h : OwnR w B K v xs) (hm : xs[m]? = some x) :
    ∃ (g cap : Nat) (A : Option Addr) (c : Nat), v = .slice (some ⟨g, 0, none⟩) xs.length cap ∧ w.cell? ⟨g, m, none⟩ = some (.slice A x.length c) ∧ Own fStr w B 9 (.slice A x.length c) x ∧
      ∀ (w' : World) (y : List Str), y.length = x.length → Own fStr w' B 9 (.slice A x.length c) y → w.grownBy w' (Value.slice A x.length c).ownBlock → OwnR w' B K v (xs.set m y) := by
  obtain ⟨hs, h1, h2, h3⟩ := h
  obtain ⟨u, hu, ho, hk⟩ := h2 m x hm
  obtain ⟨A, c, hv, _, _, _⟩ := ho.slV
  subst hv
  have hr := h1.2
  rcases hr with ⟨_, h0⟩ | ⟨g, cap, cur, hv, hb, hh, hnc, hcm, hsz, ht⟩
  · rw [List.eq_nil_of_length_eq_zero h0] at hm; simp at hm
  · refine ⟨g, cap, A, c, hv, ?_, ho, fun w' y hy hoy hg => ?_⟩
    · have := World.ownsRow.cells h1 (g := g) (by rw [hv]; rfl) m _ hu
      rwa [add_plain, Nat.zero_add] at this
    · refine ⟨hs, ?_, fun i z hi => ?_, h3⟩
      · rw [List.length_set]; exact h1.kept hg (apart_ty h1 ho (by decide))
      · by_cases he : m = i
        · subst he
          rw [List.getElem?_set_self (by
            rcases Nat.lt_or_ge m xs.length with h | h
            · exact h
            · rw [List.getElem?_eq_none h] at hm; simp at hm)] at hi
          obtain rfl := Option.some.inj hi
          exact ⟨_, hu, hoy, hk⟩
        · rw [List.getElem?_set_ne he] at hi
          obtain ⟨u2, hu2, ho2, hk2⟩ := h2 i z hi
          refine ⟨u2, hu2, ho2.kept hg ?_, hk2⟩
          cases hb2 : u2.ownBlock with
          | none => exact .inl rfl
          | some b => exact .inr fun e => he (h3 m i _ u2 b hu hu2 e.symm hb2)
theorem OwnR.slV {w : World} {B : Nat} {K : Nat → Prop} {v : Value} {xs : List (List Str)} (h : OwnR w B K v xs) : SlV (kSl kStr) w (fun _ => True) v xs := by
  obtain ⟨hs, h1, h2, h3⟩ := h
  have hr := h1.2
  rcases hr with ⟨hv, h0⟩ | ⟨g, cap, cur, hv, hb, hh, hnc, hcm, hsz, ht⟩
  · obtain rfl := List.eq_nil_of_length_eq_zero h0
    exact ⟨none, 0, hv, Nat.le_refl _, Nat.zero_le _, Sl.nil⟩
  · refine ⟨_, cap, hv, hnc, hcm, fun _ => ⟨_, rfl, fun i x hi => ?_⟩⟩
    obtain ⟨u, hu, ho, hk⟩ := h2 i x hi
    obtain ⟨A4, c4, hv4, hl4, hc4, hs4⟩ := ho.slV
    subst hv4
    have := World.ownsRow.cells h1 (g := g) (by rw [hv]; rfl) i _ hu
    refine ⟨A4, c4, ⟨trivial, ?_⟩, hl4, hc4, hs4.more (fun _ _ => trivial)⟩
    rw [show i * (kSl kStr).size = i from Nat.mul_one i]
    exact this
end Mem
end Go.Proofs.YtkhlicmlnjccdaaDoor

namespace Go.Proofs.YtkhlicmlnjccdaaDoor
open Go.RowKit Mem
/-- a report that reads as s, in blocks of S -/
structure RepRg (w : World) (S : Nat → Prop) (vc vs vr : Value) (s : Ld.St) : Prop where
  recs : SlV kRec w S vc s.recs
  states : SlV kState w S vs s.states
  rings : SlV (kSl kStr) w S vr s.rings
theorem RepAt.rg {w : World} {base : Nat} {vc vs vr : Value} {s : Ld.St} (h : RepAt w base vc vs vr s) : RepRg w (fun b => b < w.heap.size) vc vs vr s :=
  ⟨SlV.lt h.recs.slV (Nat.le_refl _), SlV.lt h.states.slV (Nat.le_refl _), by obtain ⟨K, hr⟩ := h.rings; exact SlV.lt hr.slV (Nat.le_refl _)⟩
theorem RepRg.same {w w' : World} {S : Nat → Prop} {vc vs vr : Value} {s : Ld.St} (h : RepRg w S vc vs vr s) (e : Same S w w') : RepRg w' S vc vs vr s := ⟨h.recs.same e, h.states.same e, h.rings.same e⟩
theorem RepRg.below {w w' : World} {S : Nat → Prop} {vc vs vr : Value} {s : Ld.St} (h : RepRg w S vc vs vr s) (e : Below w.heap.size w w') : RepRg w' S vc vs vr s := ⟨h.recs.below e, h.states.below e, h.rings.below e⟩
theorem SlV.slA {α : Type} {k : Kind α} {w : World} {S : Nat → Prop} {A : Option Addr} {n c : Nat} {xs : List α} (h : SlV k w S (.slice A n c) xs) : Sl k w S A xs := by
  obtain ⟨A', c', hv, _, _, s⟩ := h
  injection hv with e _ _
  subst e
  exact s
theorem rec_stood : Tryd.prog.stoodInHeld 49 = false := by kernel_rfl
theorem rec_under : Tryd.prog.underlying 49 = some (.struct (Tryd.prog.fieldsOf 49)) := by kernel_rfl
theorem rec_same (k : Int) (s : Str) (b c : Int) (w : World) : (binOp .neq 49 (.agg #[.int .i64 k, .string s, .int .i64 b, .int .i64 c]) (.agg #[.int .i64 k, .string s, .int .i64 b, .int .i64 c])).run Tryd.prog w = .ok (.bool false) w := by
  rw [run_neq_struct, run_equalIn_agg _ _ _ _ _ rec_under rec_stood]
  simp only [Program.fieldsOf, Tryd.underlying49]
  simp [Op.eqFields, part, go_sem, Tryd.underlying3, Tryd.underlying9, Tryd.underlying2]

set_option maxRecDepth 100000 in
set_option maxHeartbeats 4000000 in
theorem wReport_same (c R : Int) (s : Ld.St) (S T : Nat → Prop) (vc vs vr uc us ur : Value) (w : World) (h1 : RepRg w S vc vs vr s) (h2 : RepRg w T uc us ur s) :
    Calls Tryd.prog 54 #[.agg #[.int .i64 c, vc, vs, .int .i64 R, vr], .agg #[.int .i64 c, uc, us, .int .i64 R, ur]] w fun e w' => e = .returned (.bool true) ∧ Below w.heap.size w w' := by
  obtain ⟨⟨A1, c1, rfl, a1, b1, p1⟩, ⟨A2, c2, rfl, a2, b2, p2⟩, ⟨A3, c3, rfl, a3, b3, p3⟩⟩ := h1
  obtain ⟨⟨B1, d1, rfl, _, _, q1⟩, ⟨B2, d2, rfl, _, _, q2⟩, ⟨B3, d3, rfl, _, _, q3⟩⟩ := h2
  have l1 := mem_maxLen _ (Nat.le_trans a1 b1)
  have l2 := mem_maxLen _ (Nat.le_trans a2 b2)
  have l3 := mem_maxLen _ (Nat.le_trans a3 b3)
  clear a1 b1 a2 b2 a3 b3
  go_enter Tryd.func54, Tryd.ntmps54
  go_upto_region 1 with fail
  generalize hW : (w.alloc (Obj.cells #[.int .i64 c, .slice A1 s.recs.length c1, .slice A2 s.states.length c2, .int .i64 R, .slice A3 s.rings.length c3] 41)).alloc (Obj.cells #[.int .i64 c, .slice B1 s.recs.length d1, .slice B2 s.states.length d2, .int .i64 R, .slice B3 s.rings.length d3] 41) = W
  have hbW : Below w.heap.size w W := by rw [← hW]; (repeat (first | with_reducible exact Below.refl _ _ | with_reducible assumption | with_reducible refine Below.alloc ?_ (by first | exact Nat.le_refl _ | exact Below.size (by assumption) | exact Nat.le_trans (Below.size (by assumption)) (by simp; done) | (simp; done) | (simp; omega) | omega) _ | with_reducible refine below_drewN ?_ _ | with_reducible refine Below.drew ?_ | with_reducible refine Below.setCell ?_ (by first | exact Nat.le_refl _ | (simp; done) | (simp; omega) | omega) _))
  have hb := alloc_two w (Obj.cells #[.int .i64 c, .slice A1 s.recs.length c1, .slice A2 s.states.length c2, .int .i64 R, .slice A3 s.rings.length c3] 41) (Obj.cells #[.int .i64 c, .slice B1 s.recs.length d1, .slice B2 s.states.length d2, .int .i64 R, .slice B3 s.rings.length d3] 41)
  rw [hW] at hb
  have HBK := hide hb
  have hz : w.heap.size + 2 = W.heap.size := hb.2.2
  have P1 := hide (p1.below hbW)
  have P2 := hide (p2.below hbW)
  have P3 := hide (p3.below hbW)
  have Q1 := hide (q1.below hbW)
  have Q2 := hide (q2.below hbW)
  have Q3 := hide (q3.below hbW)
  clear hb hW p1 p2 p3 q1 q2 q3
  have x0 : W.cell? ⟨w.heap.size, 0, none⟩ = some _ := blk_cell HBK.out.1 0
  have x1 : W.cell? ⟨w.heap.size, 1, none⟩ = some _ := blk_cell HBK.out.1 1
  have x2 : W.cell? ⟨w.heap.size, 2, none⟩ = some _ := blk_cell HBK.out.1 2
  have x3 : W.cell? ⟨w.heap.size, 3, none⟩ = some _ := blk_cell HBK.out.1 3
  have x4 : W.cell? ⟨w.heap.size, 4, none⟩ = some _ := blk_cell HBK.out.1 4
  have y0 : W.cell? ⟨w.heap.size + 1, 0, none⟩ = some _ := blk_cell HBK.out.2.1 0
  have y1 : W.cell? ⟨w.heap.size + 1, 1, none⟩ = some _ := blk_cell HBK.out.2.1 1
  have y2 : W.cell? ⟨w.heap.size + 1, 2, none⟩ = some _ := blk_cell HBK.out.2.1 2
  have y3 : W.cell? ⟨w.heap.size + 1, 3, none⟩ = some _ := blk_cell HBK.out.2.1 3
  have y4 : W.cell? ⟨w.heap.size + 1, 4, none⟩ = some _ := blk_cell HBK.out.2.1 4
  go_wp2_with fail
  have hnr := rec_same
  have hns := state_same
  go_loopw [5, 50] (fun _ v wr => ∃ k : Nat, v = .int .i64 k ∧ k ≤ s.recs.length ∧ Below W.heap.size W wr) (fun _ v _ => s.recs.length - (intOf v).toNat)
  case atStart => exact ⟨0, rfl, by omega, Below.refl _ _⟩
  case round =>
    clear x0 x1 x2 x3 x4 y0 y1 y2 y3 y4
    obtain ⟨k, rfl, hk, HB⟩ := hrel
    by_cases hlt : k < s.recs.length
    · obtain ⟨ad, hA, l0, l1, l2, l3⟩ := (P1.out.below HB).get hlt
      subst hA
      obtain ⟨bd, hA, m0, m1, m2, m3⟩ := (Q1.out.below HB).get hlt
      subst hA
      have e0 : wr.cell? (ad.add (k * 4)) = some (.int .i64 s.recs[k].kind) := l0.2
      have e1 : wr.cell? ⟨(ad.add (k * 4)).block, (ad.add (k * 4)).off + 1, none⟩ = some (.string s.recs[k].name) := by have := l1.2; rwa [add_pos _ _ (by omega)] at this
      have e2 : wr.cell? ⟨(ad.add (k * 4)).block, (ad.add (k * 4)).off + 2, none⟩ = some (.int .i64 s.recs[k].code) := by have := l2.2; rwa [add_pos _ _ (by omega)] at this
      have e3 : wr.cell? ⟨(ad.add (k * 4)).block, (ad.add (k * 4)).off + 3, none⟩ = some (.int .i64 s.recs[k].num) := by have := l3.2; rwa [add_pos _ _ (by omega)] at this
      have h0' : wr.cell? (bd.add (k * 4)) = some (.int .i64 s.recs[k].kind) := m0.2
      have h1' : wr.cell? ⟨(bd.add (k * 4)).block, (bd.add (k * 4)).off + 1, none⟩ = some (.string s.recs[k].name) := by have := m1.2; rwa [add_pos _ _ (by omega)] at this
      have h2' : wr.cell? ⟨(bd.add (k * 4)).block, (bd.add (k * 4)).off + 2, none⟩ = some (.int .i64 s.recs[k].code) := by have := m2.2; rwa [add_pos _ _ (by omega)] at this
      have h3' : wr.cell? ⟨(bd.add (k * 4)).block, (bd.add (k * 4)).off + 3, none⟩ = some (.int .i64 s.recs[k].num) := by have := m3.2; rwa [add_pos _ _ (by omega)] at this
      clear l0 l1 l2 l3 m0 m1 m2 m3
      generalize s.recs[k].kind = f0 at e0 h0'
      generalize s.recs[k].name = f1 at e1 h1'
      generalize s.recs[k].code = f2 at e2 h2'
      generalize s.recs[k].num = f3 at e3 h3'
      have x1 : wr.cell? ⟨w.heap.size, 1, none⟩ = some (.slice (some ad) s.recs.length c1) := blk_cell ((HB.block _ (by omega)).trans HBK.out.1) 1
      have y1 : wr.cell? ⟨w.heap.size + 1, 1, none⟩ = some (.slice (some bd) s.recs.length d1) := blk_cell ((HB.block _ (by omega)).trans HBK.out.2.1) 1
      go_wp2_with fail
      go_quiet (fail)
      go_wp2_with fail
      go_roundw
      case rel => exact ⟨k + 1, by go_num, by omega, by (repeat (first | with_reducible exact Below.refl _ _ | with_reducible assumption | with_reducible refine Below.alloc ?_ (by first | exact Nat.le_refl _ | exact Below.size (by assumption) | exact Nat.le_trans (Below.size (by assumption)) (by simp; done) | (simp; done) | (simp; omega) | omega) _ | with_reducible refine below_drewN ?_ _ | with_reducible refine Below.drew ?_ | with_reducible refine Below.setCell ?_ (by first | exact Nat.le_refl _ | (simp; done) | (simp; omega) | omega) _))⟩
      case measure => simp [intOf]; omega
    · obtain rfl : k = s.recs.length := by omega
      clear hlt hk
      have x2 : wr.cell? ⟨w.heap.size, 2, none⟩ = some _ := blk_cell ((HB.block _ (by omega)).trans HBK.out.1) 2
      go_wp2_with fail
      clear x2
      obtain ⟨wk1, rfl⟩ : ∃ wk : World, wk = wr := ⟨_, rfl⟩
      go_loopw [6, 68] (fun _ v wr => ∃ k : Nat, v = .int .i64 k ∧ k ≤ s.states.length ∧ Below W.heap.size W wr) (fun _ v _ => s.states.length - (intOf v).toNat)
      case atStart => exact ⟨0, rfl, by omega, HB⟩
      case round =>
        clear HB
        obtain ⟨k, rfl, hk, HB⟩ := hrel
        by_cases hlt : k < s.states.length
        · obtain ⟨ad, hA, l0, l1, l2, l3⟩ := (P2.out.below HB).get hlt
          subst hA
          obtain ⟨bd, hA, m0, m1, m2, m3⟩ := (Q2.out.below HB).get hlt
          subst hA
          have e0 : wr.cell? (ad.add (k * 4)) = some (.string s.states[k].name) := l0.2
          have e1 : wr.cell? ⟨(ad.add (k * 4)).block, (ad.add (k * 4)).off + 1, none⟩ = some (.int .i64 s.states[k].now) := by have := l1.2; rwa [add_pos _ _ (by omega)] at this
          have e2 : wr.cell? ⟨(ad.add (k * 4)).block, (ad.add (k * 4)).off + 2, none⟩ = some (.int .i64 s.states[k].give) := by have := l2.2; rwa [add_pos _ _ (by omega)] at this
          have e3 : wr.cell? ⟨(ad.add (k * 4)).block, (ad.add (k * 4)).off + 3, none⟩ = some (.int .i64 s.states[k].code) := by have := l3.2; rwa [add_pos _ _ (by omega)] at this
          have h0' : wr.cell? (bd.add (k * 4)) = some (.string s.states[k].name) := m0.2
          have h1' : wr.cell? ⟨(bd.add (k * 4)).block, (bd.add (k * 4)).off + 1, none⟩ = some (.int .i64 s.states[k].now) := by have := m1.2; rwa [add_pos _ _ (by omega)] at this
          have h2' : wr.cell? ⟨(bd.add (k * 4)).block, (bd.add (k * 4)).off + 2, none⟩ = some (.int .i64 s.states[k].give) := by have := m2.2; rwa [add_pos _ _ (by omega)] at this
          have h3' : wr.cell? ⟨(bd.add (k * 4)).block, (bd.add (k * 4)).off + 3, none⟩ = some (.int .i64 s.states[k].code) := by have := m3.2; rwa [add_pos _ _ (by omega)] at this
          clear l0 l1 l2 l3 m0 m1 m2 m3
          generalize s.states[k].name = f0 at e0 h0'
          generalize s.states[k].now = f1 at e1 h1'
          generalize s.states[k].give = f2 at e2 h2'
          generalize s.states[k].code = f3 at e3 h3'
          have x1 : wr.cell? ⟨w.heap.size, 2, none⟩ = some (.slice (some ad) s.states.length c2) := blk_cell ((HB.block _ (by omega)).trans HBK.out.1) 2
          have y1 : wr.cell? ⟨w.heap.size + 1, 2, none⟩ = some (.slice (some bd) s.states.length d2) := blk_cell ((HB.block _ (by omega)).trans HBK.out.2.1) 2
          go_wp2_with fail
          go_quiet (fail)
          go_wp2_with fail
          go_roundw
          case rel => exact ⟨k + 1, by go_num, by omega, by (repeat (first | with_reducible exact Below.refl _ _ | with_reducible assumption | with_reducible refine Below.alloc ?_ (by first | exact Nat.le_refl _ | exact Below.size (by assumption) | exact Nat.le_trans (Below.size (by assumption)) (by simp; done) | (simp; done) | (simp; omega) | omega) _ | with_reducible refine below_drewN ?_ _ | with_reducible refine Below.drew ?_ | with_reducible refine Below.setCell ?_ (by first | exact Nat.le_refl _ | (simp; done) | (simp; omega) | omega) _))⟩
          case measure => simp [intOf]; omega
        · obtain rfl : k = s.states.length := by omega
          clear hlt hk
          have x2 : wr.cell? ⟨w.heap.size, 4, none⟩ = some _ := blk_cell ((HB.block _ (by omega)).trans HBK.out.1) 4
          go_wp2_with fail
          clear x2
          obtain ⟨wk2, rfl⟩ : ∃ wk : World, wk = wr := ⟨_, rfl⟩
          go_loopw [7, 86] (fun _ v wr => ∃ k : Nat, v = .int .i64 k ∧ k ≤ s.rings.length ∧ Below W.heap.size W wr) (fun _ v _ => s.rings.length - (intOf v).toNat)
          case atStart => exact ⟨0, rfl, by omega, HB⟩
          case round =>
            clear HB
            obtain ⟨k, rfl, hk, HB⟩ := hrel
            by_cases hlt : k < s.rings.length
            · obtain ⟨ad, hA, A4, c4, hc4, hl4, hm4, hs4⟩ := (P3.out.below HB).get hlt
              subst hA
              obtain ⟨bd, hA, A5, c5, hc5, hl5, hm5, hs5⟩ := (Q3.out.below HB).get hlt
              subst hA
              have e1 : wr.cell? (ad.add k) = some (.slice A4 s.rings[k].length c4) := by simpa [kSl] using hc4.2
              have h1' : wr.cell? (bd.add k) = some (.slice A5 s.rings[k].length c5) := by simpa [kSl] using hc5.2
              clear hc4 hc5
              generalize s.rings[k] = x at e1 h1' hs4 hs5 hl4 hl5
              have x1 : wr.cell? ⟨w.heap.size, 4, none⟩ = some (.slice (some ad) s.rings.length c3) := blk_cell ((HB.block _ (by omega)).trans HBK.out.1) 4
              have y1 : wr.cell? ⟨w.heap.size + 1, 4, none⟩ = some (.slice (some bd) s.rings.length d3) := blk_cell ((HB.block _ (by omega)).trans HBK.out.2.1) 4
              go_wp2_with fail
              go_still_tail 10, (by kernel_rfl)
              change wpList _ _ _ _ _ wr.drew
              go_wp2_with fail
              refine (wTexts_same A4 A5 c4 c5 x.length x _ _ _ (hs4.below (Below.drew (Below.refl _ _))) (hs5.below (Below.drew (Below.refl _ _))) rfl (by omega)).mono ?_
              rintro e w1 ⟨rfl, n1, rfl⟩
              clear e1 h1' hs4 hs5 x1 y1
              go_wp2_with fail
              go_roundw
              case rel => exact ⟨k + 1, by go_num, by omega, by (repeat (first | with_reducible exact Below.refl _ _ | with_reducible assumption | with_reducible refine Below.alloc ?_ (by first | exact Nat.le_refl _ | exact Below.size (by assumption) | exact Nat.le_trans (Below.size (by assumption)) (by simp; done) | (simp; done) | (simp; omega) | omega) _ | with_reducible refine below_drewN ?_ _ | with_reducible refine Below.drew ?_ | with_reducible refine Below.setCell ?_ (by first | exact Nat.le_refl _ | (simp; done) | (simp; omega) | omega) _))⟩
              case measure => simp [intOf]; omega
            · obtain rfl : k = s.rings.length := by omega
              go_wp2_with fail
              go_ret
              exact ⟨rfl, below_then hbW hbW.size HB⟩
end Go.Proofs.YtkhlicmlnjccdaaDoor

namespace Go.Proofs.YtkhlicmlnjccdaaDoor
namespace Ld
/-- the law's own step: what is open, what has begun -/
def ostep (x : RecD) (s : List Str × List Str) : Option (List Str × List Str) :=
  if x.kind = 2 then (if ∃ y ∈ s.2, y = x.name then none else some (s.1 ++ [x.name], s.2 ++ [x.name])) else
  if x.kind = 3 then (if s.1.getLast? = some x.name then some s else none) else
  if x.kind = 4 ∨ x.kind = 5 then (if s.1.getLast? = some x.name then some (s.1.dropLast, s.2) else none) else some s
def orun : List RecD → List Str × List Str → Option (List Str × List Str)
  | [], s => some s
  | x :: r, s => (ostep x s).bind (orun r)
theorem orun_append : ∀ (xs ys : List RecD) (s : List Str × List Str), orun (xs ++ ys) s = (orun xs s).bind (orun ys)
  | [], ys, s => rfl
  | x :: r, ys, s => by
    show (ostep x s).bind (orun (r ++ ys)) = ((ostep x s).bind (orun r)).bind (orun ys)
    cases ostep x s with
    | none => rfl
    | some t => exact orun_append r ys t
theorem orun_snoc (xs : List RecD) (x : RecD) (s : List Str × List Str) : orun (xs ++ [x]) s = (orun xs s).bind (ostep x) := by
  rw [orun_append]
  cases orun xs s with
  | none => rfl
  | some t =>
    show (ostep x t).bind (orun []) = ostep x t
    cases ostep x t <;> rfl
/-- up to place k, and the step there -/
theorem orun_at {recs : List RecD} {s e : List Str × List Str} (h : orun recs s = some e) {k : Nat} {x : RecD} (hk : recs[k]? = some x) :
    ∃ a b, orun (recs.take k) s = some a ∧ ostep x a = some b ∧ orun (recs.take (k + 1)) s = some b := by
  have hl : k < recs.length := by
    rcases Nat.lt_or_ge k recs.length with h | h
    · exact h
    · rw [List.getElem?_eq_none h] at hk; cases hk
  have hx : recs[k] = x := by rw [List.getElem?_eq_getElem hl] at hk; exact Option.some.inj hk
  have e1 : recs = recs.take (k + 1) ++ recs.drop (k + 1) := (List.take_append_drop _ _).symm
  have e2 : recs.take (k + 1) = recs.take k ++ [x] := by rw [List.take_succ_eq_append_getElem hl, hx]
  rw [e1, orun_append] at h
  cases ht : orun (recs.take (k + 1)) s with
  | none => rw [ht] at h; cases h
  | some b =>
    rw [e2, orun_snoc] at ht
    cases ha : orun (recs.take k) s with
    | none => rw [ha] at ht; cases ht
    | some a =>
      rw [ha] at ht
      exact ⟨a, b, rfl, ht, rfl⟩
structure Ov (s : St) : Prop where
  run : orun s.recs ([], []) = some (s.stack, s.states.map (·.name))
  ends : ∀ x ∈ s.recs, (x.kind = 4 → ∃ t ∈ s.states, t.name = x.name ∧ t.now = 2 ∧ t.code = x.code) ∧ (x.kind = 5 → ∃ t ∈ s.states, t.name = x.name ∧ t.now = 3 ∧ t.code = x.code)
theorem Ov.of {s s' : St} (h : Ov s) (h1 : s'.states = s.states) (h2 : s'.recs = s.recs) (h3 : s'.stack = s.stack) : Ov s' := ⟨by rw [h1, h2, h3]; exact h.run, by rw [h1, h2]; exact h.ends⟩
theorem Ov.ends_snoc {s : St} (h : Ov s) {r : RecD} (h4 : r.kind ≠ 4) (h5 : r.kind ≠ 5) : ∀ x ∈ s.recs ++ [r], (x.kind = 4 → ∃ t ∈ s.states, t.name = x.name ∧ t.now = 2 ∧ t.code = x.code) ∧ (x.kind = 5 → ∃ t ∈ s.states, t.name = x.name ∧ t.now = 3 ∧ t.code = x.code) := fun x hx => by
  rcases List.mem_append.1 hx with hx | hx
  · exact h.ends x hx
  · obtain rfl : x = r := by simpa using hx
    exact ⟨fun e => absurd e h4, fun e => absurd e h5⟩
theorem Ov.note {s : St} (h : Ov s) {r : RecD} (hr : r.kind = 1 ∨ r.kind = 6) : Ov (s.note r) := by
  refine ⟨?_, h.ends_snoc (by omega) (by omega)⟩
  show orun (s.recs ++ [r]) ([], []) = some (s.stack, s.states.map (·.name))
  rw [orun_snoc, h.run]
  show ostep r _ = _
  unfold ostep
  rw [if_neg (by omega), if_neg (by omega), if_neg (by omega)]
theorem Ov.say {s : St} (h : Ov s) {n : Str} (c m : Int) (hl : s.stack.getLast? = some n) : Ov (s.note ⟨3, n, c, m⟩) := by
  refine ⟨?_, h.ends_snoc (show (3 : Int) ≠ 4 by decide) (show (3 : Int) ≠ 5 by decide)⟩
  show orun (s.recs ++ [⟨3, n, c, m⟩]) ([], []) = some (s.stack, s.states.map (·.name))
  rw [orun_snoc, h.run]
  show ostep _ _ = _
  unfold ostep
  rw [if_neg (show ¬((3 : Int) = 2) by decide), if_pos (show (3 : Int) = 3 from rfl), if_pos hl]
theorem Ov.put {s : St} (h : Ov s) {pre more : List StateD} {n : Str} {g : Int} {u : StateD} (hs : s.states = pre ++ ⟨n, 1, g, 0⟩ :: more) (hu : u.name = n) : Ov (s.put pre.length u) := by
  have e : (s.put pre.length u).states = pre ++ u :: more := by unfold St.put; simp only [hs, set_mid]
  have key : ∀ t ∈ s.states, t.now ≠ 1 → t ∈ (s.put pre.length u).states := fun t ht h1 => by
    rw [e]
    rw [hs] at ht
    rcases List.mem_append.1 ht with ht | ht
    · exact List.mem_append_left _ ht
    · rcases List.mem_cons.1 ht with rfl | ht
      · exact absurd rfl h1
      · simp [ht]
  refine ⟨?_, fun x hx => ?_⟩
  · rw [e]
    have := h.run
    rw [hs] at this
    show orun s.recs ([], []) = some (s.stack, _)
    rw [this]
    simp [hu]
  · have hx := h.ends x hx
    refine ⟨fun k => ?_, fun k => ?_⟩
    · obtain ⟨t, ht, h1, h2, h3⟩ := hx.1 k
      exact ⟨t, key t ht (by omega), h1, h2, h3⟩
    · obtain ⟨t, ht, h1, h2, h3⟩ := hx.2 k
      exact ⟨t, key t ht (by omega), h1, h2, h3⟩
theorem look_ov (D : WorldD) : ∀ (ts : List Str) (s : St), Ov s → Ov (look D ts s).2.2
  | [], s, h => h
  | n :: r, s, h => by
    have hn : ∀ c : Int, Ov (s.read.note ⟨1, n, c, 0⟩) := fun c => (h.of (s' := s.read) rfl rfl rfl).note (.inl rfl)
    unfold look
    split
    · exact h
    · split
      · exact h
      · split
        · exact hn _
        · split
          · exact hn _
          · exact look_ov D r _ (hn _)
theorem find_ov (D : WorldD) (frm name : Str) (s : St) (h : Ov s) : Ov (find D frm name s).2.2 := by
  unfold find
  split
  · exact h
  · exact look_ov D _ s h
def GetOv (D : WorldD) (st : List Str) (get : Get) : Prop := ∀ frm name s b, Good D s (b + 1) → s.stack = st → Ov s → Ov (get frm name s).2.2
theorem line_ov {D : WorldD} {pre : List StateD} {n : Str} {st : List Str} {get : Get} (hg : GetOv D st get) (hl : st.getLast? = some n) (l : LineD) {s : St} {b : Nat} (h : Mid D pre n st s (b + 2)) (hi : Ov s) : Ov (line get D pre.length n l s).2.2 := by
  obtain ⟨g, more, hs, _⟩ := h.states
  have hx := hg n l.name s (b + 1) h.good h.stack hi
  have hl' : s.stack.getLast? = some n := by rw [h.stack]; exact hl
  unfold line
  split
  · exact hi.say _ _ hl'
  · split
    · exact hi.put (u := ⟨n, 1, l.num, 0⟩) hs rfl
    · split
      · exact hx
      · split
        · show Ov (if _ then _ else _)
          split
          · exact hx.note (.inr rfl)
          · exact hx
        · split
          · split
            · exact hi.say _ _ hl'
            · exact hi
          · split
            · exact hi.of rfl rfl rfl
            · split <;> exact hi
theorem lines_ov {D : WorldD} {pre : List StateD} {n : Str} {st : List Str} {get : Get} (hg : GetOk D st get) (hv : GetOv D st get) (hl : st.getLast? = some n) (ls : List LineD) : ∀ (f i : Nat) (s : St) (b : Nat), Mid D pre n st s (b + 2 * f) → Ov s → Ov (lines get D pre.length n ls f i s).2
  | 0, i, s, b, h, hi => hi
  | f + 1, i, s, b, h, hi => by
    unfold lines
    split
    · exact hi
    · rename_i l _
      have h1 := line_ok hg l (b := b + 2 * f) h
      have h2 := line_ov hv hl l (b := b + 2 * f) h hi
      split
      · exact h2
      · exact lines_ov hg hv hl ls f _ _ b h1 h2
theorem fin_ov {D : WorldD} {pre : List StateD} {n : Str} {st : List Str} {s : St} {b : Nat} {c : Int} (hl : st.getLast? = some n) (h : Mid D pre n st s b) (hi : Ov s) : Ov (fin pre.length n c s) := by
  obtain ⟨g, more, hs, _⟩ := h.states
  have hl' : s.stack.getLast? = some n := by rw [h.stack]; exact hl
  have key : ∀ (u : StateD) (r : RecD), u.name = n → r.name = n → (r.kind = 4 ∧ u.now = 2 ∧ u.code = r.code) ∨ (r.kind = 5 ∧ u.now = 3 ∧ u.code = r.code) → Ov ((s.pop.put pre.length u).note r) := fun u r hu hr hk => by
    have hp := hi.put (u := u) hs hu
    have hmem : u ∈ (s.put pre.length u).states := by unfold St.put; simp only [hs, set_mid]; simp
    refine ⟨?_, fun x hx => ?_⟩
    · show orun (s.recs ++ [r]) ([], []) = some (s.stack.dropLast, (s.put pre.length u).states.map (·.name))
      have h1 := hp.run
      replace h1 : orun s.recs ([], []) = some (s.stack, (s.put pre.length u).states.map (·.name)) := h1
      rw [orun_snoc, h1]
      show ostep r _ = _
      unfold ostep
      rw [if_neg (by omega), if_neg (by omega), if_pos (by omega), if_pos (by rw [hr]; exact hl')]
    · rcases List.mem_append.1 (show x ∈ s.recs ++ [r] from hx) with hx | hx
      · exact hp.ends x hx
      · obtain rfl : x = r := by simpa using hx
        refine ⟨fun k => ⟨u, hmem, hu.trans hr.symm, ?_⟩, fun k => ⟨u, hmem, hu.trans hr.symm, ?_⟩⟩
        · rcases hk with hk | hk
          · exact hk.2
          · omega
        · rcases hk with hk | hk
          · omega
          · exact hk.2
  unfold fin
  split
  · exact key _ _ rfl rfl (.inl ⟨rfl, rfl, rfl⟩)
  · exact key _ _ rfl rfl (.inr ⟨rfl, rfl, rfl⟩)
theorem body_ov {D : WorldD} (hl : ∀ m ∈ D.mods, m.lines.length ≤ 60) {get : Get} {n : Str} {s : St} {b : Nat} (h : Good D s (b + 1)) (hn : stAt s.states n = none) (hm : (modAt D.mods n).isSome = true) (hs : s.stack.length < 40) (hg : GetOk D (s.stack ++ [n]) get) (hv : GetOv D (s.stack ++ [n]) get) (hi : Ov s) : Ov (body get D n s).2 := by
  have hb := h.begin hn hm hs
  have hll := linesOf_len hl n
  have hmid : Mid D s.states n (s.stack ++ [n]) (s.begin n) (b + 1 + 2 * (linesOf D n).length) := ⟨hb.less (by omega), rfl, 0, [], by simp [St.begin], by simp⟩
  have hlast : (s.stack ++ [n]).getLast? = some n := by simp
  have hib : Ov (s.begin n) := by
    refine ⟨?_, fun x hx => ?_⟩
    · show orun (s.recs ++ [⟨2, n, 0, 0⟩]) ([], []) = some (s.stack ++ [n], List.map (fun t : StateD => t.name) (s.states ++ [(⟨n, 1, 0, 0⟩ : StateD)]))
      rw [orun_snoc, hi.run]
      show ostep _ _ = _
      unfold ostep
      rw [if_pos (show (2 : Int) = 2 from rfl), if_neg (fun hc => by
        obtain ⟨y, hy, rfl⟩ := hc
        obtain ⟨t, ht, he⟩ := List.mem_map.1 hy
        exact stAt_none hn t ht he)]
      simp
    · rcases List.mem_append.1 (show x ∈ s.recs ++ [⟨2, n, 0, 0⟩] from hx) with hx | hx
      · have hx := hi.ends x hx
        refine ⟨fun k => ?_, fun k => ?_⟩
        · obtain ⟨t, ht, h1⟩ := hx.1 k
          exact ⟨t, List.mem_append_left _ ht, h1⟩
        · obtain ⟨t, ht, h1⟩ := hx.2 k
          exact ⟨t, List.mem_append_left _ ht, h1⟩
      · obtain rfl : x = ⟨2, n, 0, 0⟩ := by simpa using hx
        exact ⟨fun e => absurd e (show (2 : Int) ≠ 4 by decide), fun e => absurd e (show (2 : Int) ≠ 5 by decide)⟩
  have h2 := lines_ok hg (linesOf D n) (linesOf D n).length 0 _ _ hmid
  have h3 := lines_ov hg hv hlast (linesOf D n) (linesOf D n).length 0 _ _ hmid hib
  exact fin_ov hlast h2 h3
theorem get_ov {D : WorldD} (hl : ∀ m ∈ D.mods, m.lines.length ≤ 60) : ∀ (f : Nat) (st : List Str), f + st.length = 40 → GetOv D st (get D f)
  | 0, st, hf => fun frm name s b h hs hi => by
    have f1 := find_ov D frm name s hi
    unfold get
    split
    · exact f1
    · show Ov (deep _ _).2
      unfold deep
      split
      · split
        · exact f1.of rfl rfl rfl
        · split <;> exact f1
      · exact f1
  | f + 1, st, hf => fun frm name s b h hs hi => by
    obtain ⟨g1, g2, g3, _, _, g6, _⟩ := find_ok D frm name s (b + 1) h
    have f1 := find_ov D frm name s hi
    unfold get
    split
    · exact f1
    · rename_i hc
      have hc : (find D frm name s).2.1 = 0 := Classical.not_not.1 hc
      show Ov (enter _ _ _ _).2
      unfold enter
      split
      · split
        · exact f1.of rfl rfl rfl
        · split <;> exact f1
      · rename_i hn
        have hsl : (find D frm name s).2.2.stack.length < 40 := by rw [g3, hs]; omega
        have hmm : (modAt D.mods (find D frm name s).1).isSome = true := (g6 hc).2 (by rw [← g2]; exact hn)
        have hst : (find D frm name s).2.2.stack = st := by rw [g3, hs]
        exact body_ov hl g1 hn hmm hsl (get_ok hl f _ (by rw [hst, List.length_append, List.length_singleton]; omega)) (get_ov hl f _ (by rw [hst, List.length_append, List.length_singleton]; omega)) f1
/-- at the end: the law's steps go through; nothing is open, as many have begun as there are states; an end tells how its module stands -/
theorem load_once (D : WorldD) (name : Str) (hm : (Wd.worldOk D).1 = 0 → D.mods.length ≤ 60 ∧ ∀ m ∈ D.mods, m.lines.length ≤ 60) :
    orun (load D name).2.recs ([], []) = some ([], (load D name).2.states.map (·.name)) ∧
    ∀ x ∈ (load D name).2.recs, x.kind = 4 ∨ x.kind = 5 → (∃ t ∈ (load D name).2.states, t.name = x.name) ∧ ∀ t ∈ (load D name).2.states, t.name = x.name → (x.kind = 4 → t.now = 2) ∧ (x.kind = 5 → t.now = 3) ∧ t.code = x.code := by
  unfold load
  split
  · exact ⟨rfl, by simp [St.start]⟩
  · rename_i h0
    obtain ⟨h1, h2⟩ := hm (Classical.not_not.1 h0)
    have hx := get_ok h2 40 [] rfl mainName name St.start 0 (start_good D h1) rfl
    have hi := get_ov h2 40 [] rfl mainName name St.start 0 (start_good D h1) rfl ⟨rfl, by simp [St.start]⟩
    have hst : (get D 40 mainName name St.start).2.2.stack = [] := hx.stack
    refine ⟨?_, fun x hx2 hk => ?_⟩
    · have := hi.run
      rw [hst] at this
      exact this
    · have he := hi.ends x hx2
      obtain ⟨u, hu, e1, e2, e3, e4⟩ : ∃ u ∈ (get D 40 mainName name St.start).2.2.states, u.name = x.name ∧ (x.kind = 4 → u.now = 2) ∧ (x.kind = 5 → u.now = 3) ∧ u.code = x.code := by
        rcases hk with hk | hk
        · obtain ⟨u, hu, a, b, c⟩ := he.1 hk
          exact ⟨u, hu, a, fun _ => b, fun h => by omega, c⟩
        · obtain ⟨u, hu, a, b, c⟩ := he.2 hk
          exact ⟨u, hu, a, fun h => by omega, fun _ => b, c⟩
      refine ⟨⟨u, hu, e1⟩, fun t ht hn => ?_⟩
      have hnd := hx.good.nodup
      have : t = u := by
        obtain ⟨i, hi1⟩ := List.getElem?_of_mem ht
        obtain ⟨j, hj1⟩ := List.getElem?_of_mem hu
        have hil : i < ((get D 40 mainName name St.start).2.2.states.map (·.name)).length := by
          rw [List.length_map]
          rcases Nat.lt_or_ge i (get D 40 mainName name St.start).2.2.states.length with h | h
          · exact h
          · rw [List.getElem?_eq_none h] at hi1; simp at hi1
        have hij : i = j := by
          refine (List.getElem?_inj hil hnd).1 ?_
          rw [List.getElem?_map, List.getElem?_map, hi1, hj1]
          simp [hn, e1]
        subst hij
        rw [hi1] at hj1
        exact Option.some.inj hj1
      rw [this]; exact ⟨e2, e3, e4⟩
end Ld
end Go.Proofs.YtkhlicmlnjccdaaDoor
