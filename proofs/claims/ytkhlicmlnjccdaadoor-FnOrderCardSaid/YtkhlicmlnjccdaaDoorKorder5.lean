/-
  Walks: the reference's order: a visit, Order.
-/
import Derived.Test.YtkhlicmlnjccdaaDoorKorder4
import Derived.Test.YtkhlicmlnjccdaaDoorKorder1
import Derived.Deep.DeepCutAuto
namespace Go.Proofs.YtkhlicmlnjccdaaDoor
open Go.RowKit Mem

/-- what a visit holds: its own block g, the row of what was met gs, the row of what was put -/
structure VAt (w : World) (g gs : Nat) (vR vM vF ve vo : Value) (sc : Array Value) (D : WorldD) (s : Gr.VS) : Prop where
  blk : w.heap[g]? = some (.cells #[vR, vM, vF, ve, .slice (some ⟨gs, 0, none⟩) D.mods.length D.mods.length, vo] 126 (0, 0))
  seen : w.heap[gs]? = some (.cells sc 4 (0, 0))
  size : sc.size = D.mods.length
  at_ : ∀ k, k < D.mods.length → sc[k]? = some (.bool (decide (k ∈ s.seen)))
  out : Own fStr w (g + 1) 9 vo (s.out.map (Gr.nameAt D))
  ne : gs < g
def kpV (g gs : Nat) : Nat → Prop := fun b => b < g ∧ b ≠ gs
section
variable {w w' : World} {g gs : Nat} {vR vM vF ve vo : Value} {sc : Array Value} {D : WorldD} {s : Gr.VS}
theorem VAt.lt (h : VAt w g gs vR vM vF ve vo sc D s) : g < w.heap.size := (Array.getElem?_eq_some_iff.1 h.blk).1
theorem VAt.below (h : VAt w g gs vR vM vF ve vo sc D s) (hb : Below w.heap.size w w') : VAt w' g gs vR vM vF ve vo sc D s :=
  ⟨(hb.block _ h.lt).trans h.blk, (hb.block _ (Nat.lt_trans h.ne h.lt)).trans h.seen, h.size, h.at_, h.out.below hb, h.ne⟩
theorem VAt.mark (h : VAt w g gs vR vM vF ve vo sc D s) {k : Nat} : VAt (w.setCell ⟨gs, k, none⟩ (.bool true)) g gs vR vM vF ve vo (sc.setIfInBounds k (.bool true)) D (s.mark k) ∧ Keep (kpV g gs) w (w.setCell ⟨gs, k, none⟩ (.bool true)) := by
  have hg := grown_set w gs k (.bool true)
  refine ⟨⟨(hg.block g h.lt (by have := h.ne; simp; omega)).trans h.blk, blk_set h.seen k _, by rw [Array.size_setIfInBounds]; exact h.size, fun j hj => ?_, h.out.kept hg (apart_blk h.out h.seen (by decide)), h.ne⟩, Keep.of_grown hg (fun b e hb => by injection e with e; subst e; exact hb.2 rfl)⟩
  rw [Array.getElem?_setIfInBounds]
  have hs := h.size
  by_cases he : k = j
  · subst he
    rw [if_pos rfl, if_pos (by omega)]
    simp [Gr.VS.mark]
  · rw [if_neg he, h.at_ j hj]
    have : decide (j ∈ s.seen) = decide (j ∈ (s.mark k).seen) := by
      have h1 : (j ∈ (s.mark k).seen) ↔ j ∈ s.seen := by simp [Gr.VS.mark, Ne.symm he]
      simp only [h1]
    rw [this]
theorem VAt.push (h : VAt w g gs vR vM vF ve vo sc D s) {v1 : Value} {w1 : World} {k : Nat} (ho : Own fStr w1 (g + 1) 9 v1 (s.out.map (Gr.nameAt D) ++ [Gr.nameAt D k])) (hg : w.grownBy w1 vo.ownBlock) :
    VAt (w1.setCell ⟨g, 5, none⟩ v1) g gs vR vM vF ve v1 sc D (s.put k) ∧ Keep (kpV g gs) w (w1.setCell ⟨g, 5, none⟩ v1) := by
  have b1 := (hg.block g h.lt (not_row (apart_blk h.out h.blk (by decide)))).trans h.blk
  have b2 := (hg.block gs (Nat.lt_trans h.ne h.lt) (not_row (apart_blk h.out h.seen (by decide)))).trans h.seen
  have hs := grown_set w1 g 5 v1
  have b3 := blk_set b1 5 v1
  refine ⟨⟨b3, (hs.block gs (Array.getElem?_eq_some_iff.1 b2).1 (by have := h.ne; simp; omega)).trans b2, h.size, h.at_, ?_, h.ne⟩, ?_⟩
  · have := ho.kept hs (apart_blk ho b1 (by decide))
    simpa [Gr.VS.put] using this
  · exact (Keep.of_grown hg (fun b e hb => by have := h.out.le e; have := hb.1; omega)).then (Keep.of_grown (K := kpV g gs) hs (fun b e hb => by injection e with e; subst e; have := hb.1; omega)) (fun b hb => hb)
end
theorem grown_below {w w' : World} (h : Below w.heap.size w w') (row : Option Nat) : w.grownBy w' row := ⟨h.os, h.tape, h.output, h.size, fun i hi _ => h.block i hi⟩
def VIs (w : World) (g gs : Nat) (vR vM vF ve : Value) (D : WorldD) (s : Gr.VS) : Prop := ∃ vo sc, VAt w g gs vR vM vF ve vo sc D s
theorem info_str5 : (Tryd.prog.info? 9).map (fun i => (i.zero, i.size, i.bytes)) = some (some (.string ByteArray.empty), 1, 16) := by kernel_rfl

def VisitP (g gs : Nat) (vR vM vF : Value) (A : Option Addr) (c : Nat) (D : WorldD) (E : List EdgeD) (f : Nat) : Prop :=
  ∀ (k : Nat) (s : Gr.VS) (w : World), VIs w g gs vR vM vF (.slice A E.length c) D s → SlV kMod w (kpV g gs) vM D.mods → Sl kEdge w (kpV g gs) A E → k < D.mods.length → Gr.VOk D.mods.length s → s.out.length ≤ s.seen.length → D.mods.length < f + s.seen.length →
    Calls Tryd.prog 85 #[.pointer (some ⟨g, 0, none⟩), .int .i64 k] w fun e w' => e = .returned (.tuple #[]) ∧ VIs w' g gs vR vM vF (.slice A E.length c) D (Gr.visit E f k s) ∧ Keep (kpV g gs) w w'

theorem Mem.Keep.kpB {g gs : Nat} {w w' : World} (h : Keep (kpV g gs) w w') {α : Type} {k : Kind α} {A : Option Addr} {xs : List α} (hs : Sl k w (kpV g gs) A xs) : Sl k w' (kpV g gs) A xs :=
  (hs.old.same (fun b hb => h.block b hb.1 hb.2)).more (fun _ hb => hb.1)

set_option maxRecDepth 100000 in
set_option maxHeartbeats 4000000 in
theorem visit_step (g gs : Nat) (vR vM vF : Value) (A : Option Addr) (c : Nat) (D : WorldD) (E : List EdgeD) (hn : D.mods.length ≤ 60) (hEl : E.length ≤ 3600) (hF : ∀ e ∈ E, Gr.Fit D.mods.length e) (f : Nat) (IH : VisitP g gs vR vM vF A c D E f) : VisitP g gs vR vM vF A c D E (f + 1) := by
  intro k s w h hM hE hk hok hol hfu
  obtain ⟨vo, sc, hv⟩ := h
  obtain ⟨A2, c2, hvM, hc2, hd2, hMs⟩ := hM
  subst hvM
  obtain ⟨Ao, co, hvo, _, _, _⟩ := hv.out.slV
  subst hvo
  have k4 : w.cell? ⟨g, 4, none⟩ = some (.slice (some ⟨gs, 0, none⟩) D.mods.length D.mods.length) := blk_cell hv.blk 4
  have hkI : (k : Int) < D.mods.length := by omega
  have hgl := hv.lt
  by_cases hm : k ∈ s.seen
  · have sk : w.cell? ⟨gs, k, none⟩ = some (.bool true) := (blk_cell hv.seen k).trans ((hv.at_ k hk).trans (by rw [decide_eq_true hm]))
    have HV := hide (show VIs w g gs vR (.slice A2 D.mods.length c2) vF (.slice A E.length c) D (Gr.visit E (f + 1) k s) by rw [Gr.visit_seen hm]; exact ⟨_, _, hv⟩)
    clear hv hm IH
    go_enter Tryd.func85, Tryd.ntmps85
    go_wp2_with fail
    refine bodyPost_ret (v := .tuple #[]) (results_none rfl _ _ _) rfl ?_
    exact ⟨rfl, HV.out, Keep.refl _ _⟩
  · have sk : w.cell? ⟨gs, k, none⟩ = some (.bool false) := (blk_cell hv.seen k).trans ((hv.at_ k hk).trans (by rw [decide_eq_false hm]))
    have sf := blk_free hv.seen k
    have hmk := hv.mark (k := k)
    have hvis := Gr.visit_new (E := E) (f := f) hm
    have hok1 := hok.mark hk hm
    have hol1 : (s.mark k).out.length + 1 ≤ (s.mark k).seen.length := by simp only [Gr.VS.mark, List.length_cons]; omega
    have hfu1 : D.mods.length < f + (s.mark k).seen.length := by simp only [Gr.VS.mark, List.length_cons]; omega
    generalize Gr.visit E (f + 1) k s = res at hvis ⊢
    have HVIS := hide hvis
    have HMK := hide hmk
    have HF := hide hF
    have HIH := hide IH
    clear hmk hvis hv hm hok hol hfu hF IH
    generalize s.mark k = s0 at HMK HVIS hok1 hol1 hfu1
    go_enter Tryd.func85, Tryd.ntmps85
    go_upto_region 2 with fail
    generalize w.setCell ⟨gs, k, none⟩ (.bool true) = W1 at HMK ⊢
    obtain ⟨hv1, hk1⟩ := HMK.out
    have k3 : W1.cell? ⟨g, 3, none⟩ = some (.slice A E.length c) := blk_cell hv1.blk 3
    have HV1 := hide (show VIs W1 g gs vR (.slice A2 D.mods.length c2) vF (.slice A E.length c) D s0 from ⟨_, _, hv1⟩)
    have hElI : (E.length : Int) ≤ 3600 := by omega
    clear hv1 HMK k4 sk sf
    go_wp2_with fail
    clear k3
    go_loopw [5, 24] (fun _ i wr => ∃ (j : Nat) (sj : Gr.VS), i = .int .i64 j ∧ j ≤ E.length ∧ Hid (Gr.over (Gr.visit E f) k E s0 = Gr.over (Gr.visit E f) k (E.drop j) sj) ∧ Hid (VIs wr g gs vR (.slice A2 D.mods.length c2) vF (.slice A E.length c) D sj) ∧ Hid (Gr.VOk D.mods.length sj) ∧ sj.out.length + 1 ≤ sj.seen.length ∧ D.mods.length < f + sj.seen.length ∧ Keep (kpV g gs) w wr) (fun _ i _ => E.length - (intOf i).toNat)
    case atStart => exact ⟨0, s0, rfl, by omega, rfl, HV1, hok1, hol1, hfu1, hk1⟩
    case round =>
      clear HV1 hk1 hok1 hol1 hfu1
      obtain ⟨j, sj, rfl, hj, HO, HV, HOK, hol, hfu, HK⟩ := hrel
      by_cases hlt : j < E.length
      · obtain ⟨ad, hA, l0, l1, l2⟩ := (HK.kpB hE).get hlt
        subst hA
        have e0 : wr.cell? (ad.add (j * 3)) = some (.int .i64 E[j].src) := l0.2
        have e1 : wr.cell? ⟨(ad.add (j * 3)).block, (ad.add (j * 3)).off + 1, none⟩ = some (.int .i64 E[j].line) := by have := l1.2; rwa [add_pos _ _ (by omega)] at this
        have e2 : wr.cell? ⟨(ad.add (j * 3)).block, (ad.add (j * 3)).off + 2, none⟩ = some (.int .i64 E[j].dst) := by have := l2.2; rwa [add_pos _ _ (by omega)] at this
        have hod := Gr.over_drop (v := Gr.visit E f) (k := k) (s := sj) (List.getElem?_eq_getElem hlt)
        have hfit := HF.out _ (List.getElem_mem hlt)
        clear l0 l1 l2
        generalize E[j] = x at e0 e1 e2 hod hfit
        obtain ⟨xs, xl, xd⟩ := x
        have hd1 : xd < (D.mods.length : Int) := hfit.dst1
        replace e0 : wr.cell? (ad.add (j * 3)) = some (.int .i64 xs) := e0
        replace e1 : wr.cell? ⟨(ad.add (j * 3)).block, (ad.add (j * 3)).off + 1, none⟩ = some (.int .i64 xl) := e1
        replace e2 : wr.cell? ⟨(ad.add (j * 3)).block, (ad.add (j * 3)).off + 2, none⟩ = some (.int .i64 xd) := e2
        replace hod : Gr.over (Gr.visit E f) k (E.drop j) sj = Gr.over (Gr.visit E f) k (E.drop (j + 1)) (if xs = k ∧ 0 ≤ xd then Gr.visit E f xd.toNat sj else sj) := hod
        have hbW : Below wr.heap.size wr (wr.alloc (Obj.cells #[.int .i64 xs, .int .i64 xl, .int .i64 xd] 78)) := by (repeat (first | with_reducible exact Below.refl _ _ | with_reducible assumption | with_reducible refine Below.alloc ?_ (by first | exact Nat.le_refl _ | exact Below.size (by assumption) | exact Nat.le_trans (Below.size (by assumption)) (by simp; done) | (simp; done) | (simp; omega) | omega) _ | with_reducible refine below_drewN ?_ _ | with_reducible refine Below.drew ?_ | with_reducible refine Below.setCell ?_ (by first | exact Nat.le_refl _ | (simp; done) | (simp; omega) | omega) _))
        have hnW := heap_alloc_new wr (Obj.cells #[.int .i64 xs, .int .i64 xl, .int .i64 xd] 78)
        go_upto_region 5 with fail
        generalize wr.alloc (Obj.cells #[.int .i64 xs, .int .i64 xl, .int .i64 xd] 78) = WL at hbW hnW ⊢
        have n0 : WL.cell? ⟨wr.heap.size, 0, none⟩ = some (.int .i64 xs) := blk_cell hnW 0
        have n2 : WL.cell? ⟨wr.heap.size, 2, none⟩ = some (.int .i64 xd) := blk_cell hnW 2
        obtain ⟨vo2, sc2, hv2⟩ := HV.out
        have HVL := hide (show VIs WL g gs vR (.slice A2 D.mods.length c2) vF (.slice (some ad) E.length c) D sj from ⟨vo2, sc2, hv2.below hbW⟩)
        have HKL := HK.then (Keep.of_below (K := kpV g gs) hbW) (fun b hb => hb)
        clear hbW hnW e0 e1 e2 hv2 HV HK hfit
        by_cases hc : xs = k ∧ 0 ≤ xd
        · rw [if_pos hc] at hod
          obtain ⟨rfl, h0⟩ := hc
          obtain ⟨d, rfl⟩ : ∃ d : Nat, xd = d := ⟨xd.toNat, by omega⟩
          rw [Int.toNat_natCast] at hod
          have HOD := hide (HO.out.trans hod)
          have hcall := HIH.out d sj WL HVL.out ⟨A2, c2, rfl, hc2, hd2, HKL.kpB hMs⟩ (HKL.kpB hE) (by omega) HOK.out (by omega) hfu
          have hto := hide (Gr.visit_to HF.out f d sj (by omega) HOK.out)
          have HC := hide hcall
          have hks : ((k : Int) == k) = true := by simp
          clear hod hcall HO HVL
          go_wp2_with fail
          refine HC.out.mono ?_
          rintro e w5 ⟨rfl, hv5, hk5⟩
          have HV5 := hide hv5
          have HK5 := HKL.then hk5 (fun b hb => hb)
          have hg1 := hto.out.grow
          have hg2 := hto.out.bal
          have HOK5 := hide hto.out.ok
          clear hv5 hk5 HC HKL n0 n2
          go_wp2_with fail
          go_roundw
          case rel => exact ⟨j + 1, _, by go_num, by omega, HOD, HV5, HOK5, by omega, by omega, HK5⟩
          case measure => simp [intOf]; omega
        · rw [if_neg hc] at hod
          have HOD := hide (HO.out.trans hod)
          clear hod HO HIH
          by_cases hs1 : xs = k
          · have hks : (xs == (k : Int)) = true := by simpa using hs1
            have hx0 : ¬ 0 ≤ xd := fun h => hc ⟨hs1, h⟩
            clear hs1 hc
            go_wp2_with fail
            go_roundw
            case rel => exact ⟨j + 1, sj, by go_num, by omega, HOD, HVL, HOK, hol, hfu, HKL⟩
            case measure => simp [intOf]; omega
          · have hks : (xs == (k : Int)) = false := by simpa using hs1
            clear hs1 hc
            go_wp2_with fail
            go_roundw
            case rel => exact ⟨j + 1, sj, by go_num, by omega, HOD, HVL, HOK, hol, hfu, HKL⟩
            case measure => simp [intOf]; omega
      · obtain rfl : j = E.length := by omega
        have HR := hide (show res = sj.put k by rw [HVIS.out, HO.out, List.drop_length]; rfl)
        obtain ⟨vo2, sc2, hv2⟩ := HV.out
        obtain ⟨Ao2, co2, hvo2, _, _, _⟩ := hv2.out.slV
        subst hvo2
        have hok2 := HOK.out.len
        obtain ⟨bd, hA2, m0, m1⟩ := (HK.kpB hMs).get hk
        subst hA2
        have hnk : (D.mods[k]).name = Gr.nameAt D k := by unfold Gr.nameAt; rw [List.getElem?_eq_getElem hk]
        have d0 : wr.cell? (bd.add (k * 2)) = some (.string (Gr.nameAt D k)) := by rw [← hnk]; exact m0.2
        have q5 : wr.cell? ⟨g, 5, none⟩ = some (.slice Ao2 (sj.out.map (Gr.nameAt D)).length co2) := blk_cell hv2.blk 5
        have q1 : wr.cell? ⟨g, 1, none⟩ = some (.slice (some bd) D.mods.length c2) := blk_cell hv2.blk 1
        have hgw := hv2.lt
        have hlo : (sj.out.map (Gr.nameAt D)).length ≤ 60 := by rw [List.length_map]; omega
        have hnm : sj.out.map (Gr.nameAt D) ++ [Gr.nameAt D k] = sj.out.map (Gr.nameAt D) ++ [Gr.nameAt D k] := rfl
        have HVV := hide hv2
        have ho2 := hv2.out
        generalize hxs : sj.out.map (Gr.nameAt D) = xs at q5 ho2 hlo
        generalize hnk2 : Gr.nameAt D k = nk at d0
        have HXS := hide hxs
        have HNK := hide hnk2
        clear m0 m1 hnk HVIS HO HIH HV hnm hv2 hxs hnk2
        go_wp2_with fail
        go_region_law ((refine step_app fStr (g + 1) (by rfl) _ _ 29 9 (.string ByteArray.empty) 16 (by rfl) Tryd.underlying29 info_str5 rfl (by omega) (.slice Ao2 xs.length co2) xs nk #[.string nk] rfl (by rfl) wr.heap.size (by rfl) (by exact heap_alloc_new _ _) (ho2.alloc _) (by simp; omega) (by omega) ?_; intro v1 w1 hown hgr hnew; have hgr2 : wr.grownBy w1 (Value.slice Ao2 xs.length co2).ownBlock := World.grownBy.trans (grown_below (by (repeat (first | with_reducible exact Below.refl _ _ | with_reducible assumption | with_reducible refine Below.alloc ?_ (by first | exact Nat.le_refl _ | exact Below.size (by assumption) | exact Nat.le_trans (Below.size (by assumption)) (by simp; done) | (simp; done) | (simp; omega) | omega) _ | with_reducible refine below_drewN ?_ _ | with_reducible refine Below.drew ?_ | with_reducible refine Below.setCell ?_ (by first | exact Nat.le_refl _ | (simp; done) | (simp; omega) | omega) _))) _) hgr; have hb1 := (hgr2.block g hgw (not_row (apart_blk ho2 HVV.out.blk (by decide)))).trans HVV.out.blk; have q5' : w1.cell? ⟨g, 5, none⟩ = some _ := blk_cell hb1 5; have f5 := blk_free hb1 5; obtain ⟨A1, c1, hv1, hc1, hd1, _⟩ := hown.slV; subst hv1; clear hgr hnew hb1))
        all_goals
          go_end0
          have hp := VAt.push (k := k) (v1 := .slice A1 (xs ++ [nk]).length c1) HVV.out (by rw [HXS.out, HNK.out]; exact hown) (by rw [HXS.out]; exact hgr2)
          rw [List.length_append, List.length_singleton] at hp
          exact ⟨rfl, by rw [HR.out]; exact ⟨_, _, hp.1⟩, HK.then hp.2 (fun b hb => hb)⟩

theorem visit_all (g gs : Nat) (vR vM vF : Value) (A : Option Addr) (c : Nat) (D : WorldD) (E : List EdgeD) (hn : D.mods.length ≤ 60) (hEl : E.length ≤ 3600) (hF : ∀ e ∈ E, Gr.Fit D.mods.length e) : ∀ f, VisitP g gs vR vM vF A c D E f
  | 0 => fun k s w _ _ _ _ hok _ hfu => by have := hok.len; omega
  | f + 1 => visit_step g gs vR vM vF A c D E hn hEl hF f (visit_all g gs vR vM vF A c D E hn hEl hF f)

theorem vat_start {wx : World} {g gs : Nat} {vR vM vF ve : Value} {cs0 : Array Value} {D : WorldD} (hg : wx.heap[g]? = some (.cells #[vR, vM, vF, ve, .slice (some ⟨gs, 0, none⟩) D.mods.length D.mods.length, .slice none 0 0] 126 (0, 0)))
    (hs : wx.heap[gs]? = some (.cells cs0 4 (0, 0))) (hsz : cs0.size = D.mods.length) (hat : ∀ k, k < D.mods.length → cs0[k]? = some (.bool false)) (hlt : gs < g) : VIs wx g gs vR vM vF ve D ⟨[], []⟩ :=
  ⟨_, cs0, hg, hs, hsz, fun k hk => by rw [hat k hk]; simp, Own.nil _ _ _, hlt⟩

theorem info_bool : (Tryd.prog.info? 4).map (fun i => (i.zero, i.size, i.bytes)) = some (some (.bool false), 1, 1) := by kernel_rfl

set_option maxRecDepth 100000 in
set_option maxHeartbeats 4000000 in
theorem sOrder_calls (D : WorldD) (vR vM vF : Value) (S : Nat → Prop) (w : World) (h : WIn w S vR vM vF D) (hz : WSz D) (name : Str) (hn : name.size ≤ 1048576) :
    Calls Tryd.prog 47 #[.agg #[vR, vM, vF], .string name] w (RetOwn fStr w 9 (Gr.order D name)) := by
  obtain ⟨⟨A1, c1, rfl, hc1, hd1, hR⟩, ⟨A2, c2, rfl, hc2, hd2, hM⟩, ⟨A3, c3, rfl, _, _, _⟩⟩ := id h
  have hb0 : Below w.heap.size w (w.alloc (Obj.cells #[.slice A1 D.roots.length c1, .slice A2 D.mods.length c2, .slice A3 D.faults.length c3] 46)) := by (repeat (first | with_reducible exact Below.refl _ _ | with_reducible assumption | with_reducible refine Below.alloc ?_ (by first | exact Nat.le_refl _ | exact Below.size (by assumption) | exact Nat.le_trans (Below.size (by assumption)) (by simp; done) | (simp; done) | (simp; omega) | omega) _ | with_reducible refine below_drewN ?_ _ | with_reducible refine Below.drew ?_ | with_reducible refine Below.setCell ?_ (by first | exact Nat.le_refl _ | (simp; done) | (simp; omega) | omega) _))
  have hblk := heap_alloc_new w (Obj.cells #[.slice A1 D.roots.length c1, .slice A2 D.mods.length c2, .slice A3 D.faults.length c3] 46)
  have hsz := (show w.heap.size < (w.alloc (Obj.cells #[.slice A1 D.roots.length c1, .slice A2 D.mods.length c2, .slice A3 D.faults.length c3] 46)).heap.size by simp)
  have hok := l4ok_calls D _ _ _ S _ (h.below hb0) hz
  by_cases h0 : (Wd.worldOk D).1 = 0
  · rw [decide_eq_true h0] at hok
    have hwk := Wd.wok_of h0
    have hlm : D.mods.length ≤ 60 := hwk.mods
    have hlmI : (D.mods.length : Int) ≤ 60 := by omega
    have hto := fun (W : World) (hb : Below w.heap.size w W) => l4to_calls D _ _ _ S W (h.below hb) hz Ld.mainName name (by decide) hn
    have hed := fun (W : World) (hb : Below w.heap.size w W) => sEdges_calls D _ _ _ S W (h.below hb) hz
    have hord : Gr.order D name = match Gr.to D Ld.mainName name with
      | none => []
      | some k => (Gr.visit (Gr.edges D) (D.mods.length + 1) k ⟨[], []⟩).out.map (Gr.nameAt D) := by
      unfold Gr.order
      rw [if_neg (fun e => e h0)]
      cases Gr.to D Ld.mainName name <;> rfl
    have htl : ∀ i, Gr.to D Ld.mainName name = some i → i < D.mods.length := fun i hi => Gr.toOf_lt hi
    have hmain : (⟨#[109, 97, 105, 110]⟩ : Str) = Ld.mainName := rfl
    rw [← hmain] at hto hord htl
    have HOK := hide hok
    have HBK := hide hblk
    have HED := hide hed
    clear hok hwk hblk h0 hed hmain
    cases ht : Gr.to D ⟨#[109, 97, 105, 110]⟩ name with
    | none =>
      rw [ht] at hto hord
      have HTO := hide hto
      have HORD := hide (show Gr.order D name = [] from hord)
      clear hto hord htl ht
      go_enter Tryd.func47, Tryd.ntmps47
      go_wp2_with fail
      refine HOK.out.mono ?_
      rintro e w1 ⟨rfl, hb1⟩
      have HB1 := below_then hb0 hb0.size hb1
      have hbk1 := (hb1.block _ hsz).trans HBK.out
      have k0 : w1.cell? ⟨w.heap.size, 0, none⟩ = some (.slice A1 D.roots.length c1) := blk_cell hbk1 0
      have k1 : w1.cell? ⟨w.heap.size, 1, none⟩ = some (.slice A2 D.mods.length c2) := blk_cell hbk1 1
      have k2 : w1.cell? ⟨w.heap.size, 2, none⟩ = some (.slice A3 D.faults.length c3) := blk_cell hbk1 2
      clear HOK hb1 hbk1 HBK
      go_wp2_with fail
      refine (HTO.out w1 HB1).mono ?_
      rintro e w2 ⟨rfl, hb2⟩
      have HB2 := below_then HB1 HB1.size hb2
      clear hb2 k0 k1 k2
      simp only [idxI]
      go_wp2_with fail
      go_ret
      exact ⟨_, rfl, by rw [HORD.out]; exact Own.nil _ _ _, HB2⟩
    | some i =>
      rw [ht] at hto hord
      have hil := htl i ht
      have HTO := hide hto
      have HORD := hide (show Gr.order D name = (Gr.visit (Gr.edges D) (D.mods.length + 1) i ⟨[], []⟩).out.map (Gr.nameAt D) from hord)
      have hel := Gr.edges_len (D := D)
      have HFT := hide (fun e he => Gr.edges_fit (D := D) (e := e) he)
      generalize Gr.edges D = E at HED HORD hel HFT
      clear hto hord htl ht
      have hmk := fun W : World => run_make_row' (P := Tryd.prog) 124 4 (.bool false) 1 Tryd.underlying124 info_bool rfl .i64 .i64 D.mods.length (by omega) (by omega) W
      have hcsz : (madeCells #[Value.bool false] D.mods.length).size = D.mods.length := by simp [size_madeCells]
      have hcat : ∀ k, k < D.mods.length → (madeCells #[Value.bool false] D.mods.length)[k]? = some (.bool false) := fun k hk => by
        rw [Array.getElem?_eq_getElem (by rw [hcsz]; exact hk)]
        simp [madeCells, Nat.mod_one]
      generalize madeCells #[Value.bool false] D.mods.length = cs0 at hmk hcsz hcat
      have HCS := hide hcsz
      have HCA := hide hcat
      clear hcsz hcat
      go_enter Tryd.func47, Tryd.ntmps47
      go_wp2_with fail
      refine HOK.out.mono ?_
      rintro e w1 ⟨rfl, hb1⟩
      have HB1 := below_then hb0 hb0.size hb1
      have hbk1 := (hb1.block _ hsz).trans HBK.out
      have hz1 : w.heap.size < w1.heap.size := Nat.lt_of_lt_of_le hsz hb1.size
      have k0 : w1.cell? ⟨w.heap.size, 0, none⟩ = some (.slice A1 D.roots.length c1) := blk_cell hbk1 0
      have k1 : w1.cell? ⟨w.heap.size, 1, none⟩ = some (.slice A2 D.mods.length c2) := blk_cell hbk1 1
      have k2 : w1.cell? ⟨w.heap.size, 2, none⟩ = some (.slice A3 D.faults.length c3) := blk_cell hbk1 2
      have HBK1 := hide hbk1
      clear HOK hb1 hbk1 HBK
      go_wp2_with fail
      refine (HTO.out w1 HB1).mono ?_
      rintro e w2 ⟨rfl, hb2⟩
      have HB2 := below_then HB1 HB1.size hb2
      have hbk2 := (hb2.block _ hz1).trans HBK1.out
      have hz2 : w.heap.size < w2.heap.size := Nat.lt_of_lt_of_le hz1 hb2.size
      have k0 : w2.cell? ⟨w.heap.size, 0, none⟩ = some (.slice A1 D.roots.length c1) := blk_cell hbk2 0
      have k1 : w2.cell? ⟨w.heap.size, 1, none⟩ = some (.slice A2 D.mods.length c2) := blk_cell hbk2 1
      have k2 : w2.cell? ⟨w.heap.size, 2, none⟩ = some (.slice A3 D.faults.length c3) := blk_cell hbk2 2
      clear hb2 hbk2 HBK1 HB1
      simp only [idxI]
      go_upto_region 6 with fail
      go_cut [6] (fun x wx => ∃ (g gs : Nat) (AE : Option Addr) (cE : Nat), x = .pointer (some ⟨g, 0, none⟩) ∧ Hid (VIs wx g gs (.slice A1 D.roots.length c1) (.slice A2 D.mods.length c2) (.slice A3 D.faults.length c3) (.slice AE E.length cE) D ⟨[], []⟩) ∧ Hid (Sl kEdge wx (kpV g gs) AE E) ∧ Hid (Sl kMod wx (kpV g gs) A2 D.mods) ∧ Below w2.heap.size w2 wx ∧ w2.heap.size ≤ gs ∧ gs < g ∧ g < wx.heap.size)
      case first =>
        go_region_law ((go_simp; refine (HED.out _ (by (repeat (first | with_reducible exact Below.refl _ _ | with_reducible assumption | with_reducible refine Below.alloc ?_ (by first | exact Nat.le_refl _ | exact Below.size (by assumption) | exact Nat.le_trans (Below.size (by assumption)) (by simp; done) | (simp; done) | (simp; omega) | omega) _ | with_reducible refine below_drewN ?_ _ | with_reducible refine Below.drew ?_ | with_reducible refine Below.setCell ?_ (by first | exact Nat.le_refl _ | (simp; done) | (simp; omega) | omega) _)))).mono ?_; rintro e w3 ⟨vE, rfl, hoE, hbE⟩; obtain ⟨AE, cE, hvE, _, _, _⟩ := hoE.slV; subst hvE; have hb23 : Below w2.heap.size w2 w3 := below_then (by (repeat (first | with_reducible exact Below.refl _ _ | with_reducible assumption | with_reducible refine Below.alloc ?_ (by first | exact Nat.le_refl _ | exact Below.size (by assumption) | exact Nat.le_trans (Below.size (by assumption)) (by simp; done) | (simp; done) | (simp; omega) | omega) _ | with_reducible refine below_drewN ?_ _ | with_reducible refine Below.drew ?_ | with_reducible refine Below.setCell ?_ (by first | exact Nat.le_refl _ | (simp; done) | (simp; omega) | omega) _))) (by first | exact Nat.le_refl _ | (simp; done) | (simp; omega)) hbE; have hz3 : w.heap.size < w3.heap.size := Nat.lt_of_lt_of_le hz2 hb23.size; have j0 := (hb23.cell (p := ⟨w.heap.size, 0, none⟩) hz2).trans k0; have j1 := (hb23.cell (p := ⟨w.heap.size, 1, none⟩) hz2).trans k1; have j2 := (hb23.cell (p := ⟨w.heap.size, 2, none⟩) hz2).trans k2))
        all_goals
          have z23 := hb23.size
          go_wp2_with fail
          go_meet
          first
            | (have hbx : Below w3.heap.size w3 ((w3.alloc (Obj.cells cs0 4)).alloc (Obj.cells #[.slice A1 D.roots.length c1, .slice A2 D.mods.length c2, .slice A3 D.faults.length c3, .slice AE E.length cE, .slice (some ⟨w3.heap.size, 0, none⟩) D.mods.length D.mods.length, .slice none 0 0] 126)) := by (repeat (first | with_reducible exact Below.refl _ _ | with_reducible assumption | with_reducible refine Below.alloc ?_ (by first | exact Nat.le_refl _ | exact Below.size (by assumption) | exact Nat.le_trans (Below.size (by assumption)) (by simp; done) | (simp; done) | (simp; omega) | omega) _ | with_reducible refine below_drewN ?_ _ | with_reducible refine Below.drew ?_ | with_reducible refine Below.setCell ?_ (by first | exact Nat.le_refl _ | (simp; done) | (simp; omega) | omega) _))
               have hb2x := below_then hb23 hb23.size hbx
               exact ⟨w3.heap.size + 1, w3.heap.size, AE, cE, by first | rfl | simp,
                 hide (vat_start (by have := heap_alloc_new (w3.alloc (Obj.cells cs0 4)) (Obj.cells #[.slice A1 D.roots.length c1, .slice A2 D.mods.length c2, .slice A3 D.faults.length c3, .slice AE E.length cE, .slice (some ⟨w3.heap.size, 0, none⟩) D.mods.length D.mods.length, .slice none 0 0] 126); simpa using this) ((alloc_old _ _ (by simp)).trans (heap_alloc_new _ _)) HCS.out HCA.out (by omega)),
                 hide ((hoE.sl.old.more (fun b hb => ⟨by have := hb.2; omega, by have := hb.2; omega⟩)).below hbx), hide ((hM.old.more (fun b hb => ⟨by have := hb.2; omega, by have := hb.2; omega⟩)).below (below_then HB2 HB2.size hb2x)), hb2x, z23, by omega, by simp⟩)
            | (have hbx : Below w3.heap.size w3 (w3.alloc (Obj.cells #[.slice A1 D.roots.length c1, .slice A2 D.mods.length c2, .slice A3 D.faults.length c3, .slice AE E.length cE, .slice (some ⟨w2.heap.size, 0, none⟩) D.mods.length D.mods.length, .slice none 0 0] 126)) := by (repeat (first | with_reducible exact Below.refl _ _ | with_reducible assumption | with_reducible refine Below.alloc ?_ (by first | exact Nat.le_refl _ | exact Below.size (by assumption) | exact Nat.le_trans (Below.size (by assumption)) (by simp; done) | (simp; done) | (simp; omega) | omega) _ | with_reducible refine below_drewN ?_ _ | with_reducible refine Below.drew ?_ | with_reducible refine Below.setCell ?_ (by first | exact Nat.le_refl _ | (simp; done) | (simp; omega) | omega) _))
               have hb2x := below_then hb23 hb23.size hbx
               have hsa : (w2.alloc (Obj.cells cs0 4)).drew.heap.size = w2.heap.size + 1 := by show (w2.alloc (Obj.cells cs0 4)).heap.size = _; simp
               have hgl : w2.heap.size < w3.heap.size := by have := hbE.size; omega
               exact ⟨w3.heap.size, w2.heap.size, AE, cE, by first | rfl | simp,
                 hide (vat_start (heap_alloc_new _ _) ((alloc_old _ _ hgl).trans ((hbE.block _ (by omega)).trans (heap_alloc_new w2 (Obj.cells cs0 4)))) HCS.out HCA.out hgl),
                 hide ((hoE.sl.old.more (fun b hb => ⟨hb.2, by have := hb.1; omega⟩)).below hbx), hide ((hM.old.more (fun b hb => ⟨by have := hb.2; omega, by have := hb.2; omega⟩)).below (below_then HB2 HB2.size hb2x)), hb2x, Nat.le_refl _, hgl, by simp⟩)
      case rest =>
        obtain ⟨g, gs, AE, cE, rfl, HV, HE, HMs, HBc, hg0, hg1, hg2⟩ := hcut
        have hcall := visit_all g gs _ _ _ AE cE D E hlm hel HFT.out (D.mods.length + 1) i ⟨[], []⟩ wc HV.out ⟨A2, c2, rfl, hc2, hd2, HMs.out⟩ HE.out hil ⟨List.nodup_nil, fun x hx => by simp at hx⟩ (Nat.le_refl _) (by simp)
        have HC := hide hcall
        have HBC := below_then HB2 HB2.size HBc
        clear hcall HV HE HMs HCS HCA HED HTO k0 k1 k2
        go_wp2_with fail
        refine HC.out.mono ?_
        rintro e w5 ⟨rfl, hv5, hk5⟩
        obtain ⟨vo, sc, hv⟩ := hv5
        have hB5 : Below w.heap.size w w5 := HBC.trans (hk5.below (fun b hb => ⟨by omega, by omega⟩) (by omega))
        obtain ⟨Ao, co, hvo, _, _, _⟩ := hv.out.slV
        subst hvo
        have q5 : w5.cell? ⟨g, 5, none⟩ = some (.slice Ao ((Gr.visit E (D.mods.length + 1) i ⟨[], []⟩).out.map (Gr.nameAt D)).length co) := blk_cell hv.blk 5
        have HO := hide (hv.out.more (base' := w.heap.size) (by omega))
        rw [← HORD.out] at q5 HO
        clear hv hk5 HC HBC HBc
        go_wp2_with fail
        go_ret
        exact ⟨_, rfl, HO.out, hB5⟩
  · rw [decide_eq_false h0] at hok
    have HEd := hide (show Gr.order D name = [] by unfold Gr.order; rw [if_pos h0])
    have HOK := hide hok
    clear hok h0
    go_enter Tryd.func47, Tryd.ntmps47
    go_wp2_with fail
    refine HOK.out.mono ?_
    rintro e w1 ⟨rfl, hb1⟩
    have HB1 := below_then hb0 hb0.size hb1
    clear hb1
    go_wp2_with fail
    go_ret
    exact ⟨_, rfl, by rw [HEd.out]; exact Own.nil _ _ _, HB1⟩
end Go.Proofs.YtkhlicmlnjccdaaDoor
