/-
  Walks: the program's order: the visiting closure, Order.
-/
import Derived.Test.YtkhlicmlnjccdaaGreatDoorKs46
import Derived.Test.YtkhlicmlnjccdaaGreatDoorKs3
import Derived.Test.YtkhlicmlnjccdaaGreatDoorKs1
import Derived.Deep.DeepCutAuto
import Derived.Laws.ByValue
namespace Go.Proofs.YtkhlicmlnjccdaaGreatDoor
open Go.RowKit Mem Go.Maps Go.ChangeMaps Go.WideMaps

theorem zero_bool5 : ∀ w : World, (zeroValue 4).run Tryz.prog w = .ok (.bool false) w := fun _ => by kernel_rfl
theorem look_int5 {n : Nat} (h : n ≤ 400) : keyOf Tryz.prog 3 (.int .i64 (n : Int)) = some (.int .i64 (n : Int)) := keyOf_int_mk Tryz.underlying3 (by
  simp only [Lit.wf, Bool.and_eq_true, decide_eq_true_eq]
  have h1 : IntKind.i64.min = -9223372036854775808 := by decide +kernel
  have h2 : IntKind.i64.max = 9223372036854775807 := by decide +kernel
  rw [h1, h2]
  omega)
theorem info_str6 : (Tryz.prog.info? 9).map (fun i => (i.zero, i.size, i.bytes)) = some (some (.string ByteArray.empty), 1, 16) := by kernel_rfl
theorem grown_below6 {w w' : World} (h : Below w.heap.size w w') (row : Option Nat) : w.grownBy w' row := ⟨h.os, h.tape, h.output, h.size, fun i hi _ => h.block i hi⟩

/-- the blocks of Order's variables: the world's box, the edges', the map, its variable, the answer's, the closure's; B: what is behind them -/
structure COrd (bw be mb bm bo bv B : Nat) : Prop where
  o1 : bw < be
  o2 : be < mb
  o3 : mb < bm
  o4 : bm < bo
  o5 : bo < bv
  o6 : bv < B
def fnV (bw be bm bo bv : Nat) : Value := .func (.func 62) #[] #[.pointer (some ⟨bm, 0, none⟩), .pointer (some ⟨be, 0, none⟩), .pointer (some ⟨bv, 0, none⟩), .pointer (some ⟨bo, 0, none⟩), .pointer (some ⟨bw, 0, none⟩)]
structure CAt (w : World) (bw be mb bm bo bv B : Nat) (vR vM vF ve vo : Value) (n : Nat) (f : Lit → Option Value) (D : WorldD) (s : Gr.VS) : Prop where
  box : w.heap[bw]? = some (.cells #[vR, vM, vF] 27 (0, 0))
  ed : w.heap[be]? = some (.cells #[ve] 54 (0, 0))
  met : w.heap[bm]? = some (.cells #[.map (some mb)] 70 (0, 0))
  out : w.heap[bo]? = some (.cells #[vo] 23 (0, 0))
  fn : w.heap[bv]? = some (.cells #[fnV bw be bm bo bv] 112 (0, 0))
  map : MapIs w Tryz.prog 3 mb n f
  fit : ∀ k : Nat, f (.int .i64 (k : Int)) = if k ∈ s.seen then some (.bool true) else none
  n : n ≤ s.seen.length
  row : Own fStr w B 9 vo (s.out.map (Gr.nameAt D))
  ord : COrd bw be mb bm bo bv B
  top : B ≤ w.heap.size
def kpC (mb bo B : Nat) : Nat → Prop := fun b => b < B ∧ b ≠ mb ∧ b ≠ bo
section
variable {w w' : World} {bw be mb bm bo bv B n : Nat} {vR vM vF ve vo : Value} {f : Lit → Option Value} {D : WorldD} {s : Gr.VS}
theorem CAt.lt (h : CAt w bw be mb bm bo bv B vR vM vF ve vo n f D s) : bv < w.heap.size := (Array.getElem?_eq_some_iff.1 h.fn).1
theorem CAt.below (h : CAt w bw be mb bm bo bv B vR vM vF ve vo n f D s) (hb : Below w.heap.size w w') : CAt w' bw be mb bm bo bv B vR vM vF ve vo n f D s := by
  have h1 := h.lt
  obtain ⟨o1, o2, o3, o4, o5, o6⟩ := h.ord
  exact ⟨(hb.block _ (by omega)).trans h.box, (hb.block _ (by omega)).trans h.ed, (hb.block _ (by omega)).trans h.met, (hb.block _ (by omega)).trans h.out, (hb.block _ h1).trans h.fn, h.map.below hb, h.fit, h.n, h.row.below hb, h.ord, Nat.le_trans h.top hb.size⟩
theorem CAt.mark (h : CAt w bw be mb bm bo bv B vR vM vF ve vo n f D s) {k : Nat} (hm : MapIs w' Tryz.prog 3 mb (n + 1) (put f (.int .i64 (k : Int)) (.bool true))) (hg : w.grownBy w' (some mb)) :
    CAt w' bw be mb bm bo bv B vR vM vF ve vo (n + 1) (put f (.int .i64 (k : Int)) (.bool true)) D (s.mark k) ∧ Keep (kpC mb bo B) w w' := by
  have h1 := h.lt
  obtain ⟨o1, o2, o3, o4, o5, o6⟩ := h.ord
  refine ⟨⟨(hg.block _ (by omega) (by simp; omega)).trans h.box, (hg.block _ (by omega) (by simp; omega)).trans h.ed, (hg.block _ (by omega) (by simp; omega)).trans h.met, (hg.block _ (by omega) (by simp; omega)).trans h.out, (hg.block _ h1 (by simp; omega)).trans h.fn, hm, fun j => ?_, by simp only [Gr.VS.mark, List.length_cons]; have := h.n; omega, ?_, h.ord, Nat.le_trans h.top hg.size⟩, Keep.of_grown hg (fun b e hb => by injection e with e; subst e; exact hb.2.1 rfl)⟩
  · by_cases hj : j = k
    · subst hj
      rw [put_same _ (kl := .int .i64 (j : Int)) trivial _, if_pos (by simp [Gr.VS.mark])]
    · rw [put_other _ _ (fun e => hj (by injection e with _ e; omega)), h.fit j]
      simp only [Gr.VS.mark, List.mem_cons, hj, false_or]
  · refine h.row.kept hg ?_
    cases he : vo.ownBlock with
    | none => exact .inl rfl
    | some b => exact .inr (fun e => by injection e with e; have := h.row.le he; omega)
theorem CAt.push (h : CAt w bw be mb bm bo bv B vR vM vF ve vo n f D s) {v1 : Value} {w1 : World} {k : Nat} (ho : Own fStr w1 B 9 v1 (s.out.map (Gr.nameAt D) ++ [Gr.nameAt D k])) (hg : w.grownBy w1 vo.ownBlock) :
    CAt (w1.setCell ⟨bo, 0, none⟩ v1) bw be mb bm bo bv B vR vM vF ve v1 n f D (s.put k) ∧ Keep (kpC mb bo B) w (w1.setCell ⟨bo, 0, none⟩ v1) := by
  have h1 := h.lt
  obtain ⟨o1, o2, o3, o4, o5, o6⟩ := h.ord
  have hne : ∀ b, b < B → some b ≠ vo.ownBlock := fun b hb e => by have := h.row.le e.symm; omega
  have hs := grown_set w1 bo 0 v1
  have hz := hg.size
  have two : ∀ b, b < B → b < w.heap.size → b ≠ bo → (w1.setCell ⟨bo, 0, none⟩ v1).heap[b]? = w.heap[b]? := fun b hb hl hn => (hs.block b (by omega) (by simp; exact hn)).trans (hg.block b hl (hne b hb))
  have bo1 := (hg.block bo (by omega) (hne bo (by omega))).trans h.out
  refine ⟨⟨(two _ (by omega) (by omega) (by omega)).trans h.box, (two _ (by omega) (by omega) (by omega)).trans h.ed, (two _ (by omega) (by omega) (by omega)).trans h.met, blk_set bo1 0 v1, (two _ (by omega) (by omega) (by omega)).trans h.fn, h.map.same (two _ (by omega) h.map.lt (by omega)), h.fit, h.n, ?_, h.ord, Nat.le_trans h.top (Nat.le_trans hz hs.size)⟩, ?_⟩
  · have := ho.kept hs (apart_blk ho bo1 (by decide))
    simpa [Gr.VS.put] using this
  · exact (Keep.of_grown hg (fun b e hb => hne b hb.1 e.symm)).then (Keep.of_grown (K := kpC mb bo B) hs (fun b e hb => by injection e with e; subst e; exact hb.2.2 rfl)) (fun b hb => hb)
end
def CIs (w : World) (bw be mb bm bo bv B : Nat) (vR vM vF ve : Value) (D : WorldD) (s : Gr.VS) : Prop := ∃ vo n f, CAt w bw be mb bm bo bv B vR vM vF ve vo n f D s
theorem Mem.Keep.kpCs {mb bo B : Nat} {w w' : World} (h : Keep (kpC mb bo B) w w') {α : Type} {k : Kind α} {A : Option Addr} {xs : List α} (hs : Sl k w (kpC mb bo B) A xs) : Sl k w' (kpC mb bo B) A xs :=
  (hs.old.same (fun b hb => h.block b hb.1 hb.2)).more (fun _ hb => hb.1)

def CVisP (bw be mb bm bo bv B : Nat) (vR vM vF : Value) (A : Option Addr) (c : Nat) (D : WorldD) (E : List EdgeD) (fu : Nat) : Prop :=
  ∀ (k : Nat) (s : Gr.VS) (w : World), CIs w bw be mb bm bo bv B vR vM vF (.slice A E.length c) D s → SlV kMod w (kpC mb bo B) vM D.mods → Sl kEdge w (kpC mb bo B) A E → k < D.mods.length → k ∉ s.seen → Gr.VOk D.mods.length s → s.out.length ≤ s.seen.length → D.mods.length < fu + s.seen.length →
    Calls Tryz.prog 62 #[.int .i64 k, .pointer (some ⟨bm, 0, none⟩), .pointer (some ⟨be, 0, none⟩), .pointer (some ⟨bv, 0, none⟩), .pointer (some ⟨bo, 0, none⟩), .pointer (some ⟨bw, 0, none⟩)] w fun e w' => e = .returned (.tuple #[]) ∧ CIs w' bw be mb bm bo bv B vR vM vF (.slice A E.length c) D (Gr.visit E fu k s) ∧ Keep (kpC mb bo B) w w'

set_option maxRecDepth 100000 in
set_option maxHeartbeats 4000000 in
theorem cvis_step (bw be mb bm bo bv B : Nat) (vR vM vF : Value) (A : Option Addr) (c : Nat) (D : WorldD) (E : List EdgeD) (hn : D.mods.length ≤ 60) (hEl : E.length ≤ 3600) (hF : ∀ e ∈ E, Gr.Fit D.mods.length e) (fu : Nat) (IH : CVisP bw be mb bm bo bv B vR vM vF A c D E fu) : CVisP bw be mb bm bo bv B vR vM vF A c D E (fu + 1) := by
  intro k s w h hM hE hk hm hok hol hfu
  obtain ⟨vo, n, f, hv⟩ := h
  obtain ⟨A2, c2, hvM, hc2, hd2, hMs⟩ := hM
  subst hvM
  obtain ⟨Ao, co, hvo, _, _, _⟩ := hv.row.slV
  subst hvo
  have m0 : w.cell? ⟨bm, 0, none⟩ = some (.map (some mb)) := blk_cell hv.met 0
  have hkI : (k : Int) < D.mods.length := by omega
  have hgl := hv.lt
  have hvis := Gr.visit_new (E := E) (f := fu) hm
  have hok1 := hok.mark hk hm
  have hol1 : (s.mark k).out.length + 1 ≤ (s.mark k).seen.length := by simp only [Gr.VS.mark, List.length_cons]; omega
  have hfu1 : D.mods.length < fu + (s.mark k).seen.length := by simp only [Gr.VS.mark, List.length_cons]; omega
  have hnl : n ≤ 60 := by have := hv.n; have := hok.len; omega
  have HM := hv.map
  have HVV := hide hv
  generalize Gr.visit E (fu + 1) k s = res at hvis ⊢
  have HVIS := hide hvis
  have HF := hide hF
  have HIH := hide IH
  clear hvis hv hm hok hol hfu hF IH
  go_enter Tryz.func62, Tryz.ntmps62
  go_wp2_with (at_mapUpdate; refine wpList_put rfl _ _ _ 70 rfl (int_keyed Tryz.underlying3) Tryz.underlying70 rfl HM (by unfold maxLen; omega) (.int .i64 k) (.bool true) (.int .i64 k) rfl rfl (look_int5 (by omega)) trivial ?_; intro w5 HM5 HG5; have hCM := CAt.mark HVV.out HM5 HG5; have e0 : w5.cell? ⟨be, 0, none⟩ = some (.slice A E.length c) := blk_cell hCM.1.ed 0)
  clear m0 HM HVV HM5 HG5
  have HV1 := hide (show CIs w5 bw be mb bm bo bv B vR (.slice A2 D.mods.length c2) vF (.slice A E.length c) D (s.mark k) from ⟨_, _, _, hCM.1⟩)
  have hk1 := hCM.2
  have hElI : (E.length : Int) ≤ 3600 := by omega
  clear hCM e0
  generalize s.mark k = s0 at HV1 HVIS hok1 hol1 hfu1
  go_loopw [8, 13] (fun _ i wr => ∃ (j : Nat) (sj : Gr.VS), i = .int .i64 j ∧ j ≤ E.length ∧ Hid (Gr.over (Gr.visit E fu) k E s0 = Gr.over (Gr.visit E fu) k (E.drop j) sj) ∧ Hid (CIs wr bw be mb bm bo bv B vR (.slice A2 D.mods.length c2) vF (.slice A E.length c) D sj) ∧ Hid (Gr.VOk D.mods.length sj) ∧ sj.out.length + 1 ≤ sj.seen.length ∧ D.mods.length < fu + sj.seen.length ∧ Keep (kpC mb bo B) w wr) (fun _ i _ => E.length - (intOf i).toNat)
  case atStart => exact ⟨0, s0, rfl, by omega, rfl, HV1, hok1, hol1, hfu1, hk1⟩
  case round =>
    clear HV1 hk1 hok1 hol1 hfu1
    obtain ⟨j, sj, rfl, hj, HO, HV, HOK, hol, hfu, HK⟩ := hrel
    by_cases hlt : j < E.length
    · obtain ⟨ad, hA, l0, l1, l2⟩ := (HK.kpCs hE).get hlt
      subst hA
      have e0 : wr.cell? (ad.add (j * 3)) = some (.int .i64 E[j].src) := l0.2
      have e1 : wr.cell? ⟨(ad.add (j * 3)).block, (ad.add (j * 3)).off + 1, none⟩ = some (.int .i64 E[j].line) := by have := l1.2; rwa [add_pos _ _ (by omega)] at this
      have e2 : wr.cell? ⟨(ad.add (j * 3)).block, (ad.add (j * 3)).off + 2, none⟩ = some (.int .i64 E[j].dst) := by have := l2.2; rwa [add_pos _ _ (by omega)] at this
      have hod := Gr.over_drop (v := Gr.visit E fu) (k := k) (s := sj) (List.getElem?_eq_getElem hlt)
      have hfit := HF.out _ (List.getElem_mem hlt)
      clear l0 l1 l2
      generalize E[j] = x at e0 e1 e2 hod hfit
      obtain ⟨xs, xl, xd⟩ := x
      have hd1 : xd < (D.mods.length : Int) := hfit.dst1
      replace e0 : wr.cell? (ad.add (j * 3)) = some (.int .i64 xs) := e0
      replace e1 : wr.cell? ⟨(ad.add (j * 3)).block, (ad.add (j * 3)).off + 1, none⟩ = some (.int .i64 xl) := e1
      replace e2 : wr.cell? ⟨(ad.add (j * 3)).block, (ad.add (j * 3)).off + 2, none⟩ = some (.int .i64 xd) := e2
      replace hod : Gr.over (Gr.visit E fu) k (E.drop j) sj = Gr.over (Gr.visit E fu) k (E.drop (j + 1)) (if xs = k ∧ 0 ≤ xd then Gr.visit E fu xd.toNat sj else sj) := hod
      have hbW : Below wr.heap.size wr (wr.alloc (Obj.cells #[.int .i64 xs, .int .i64 xl, .int .i64 xd] 111)) := by (repeat (first | with_reducible exact Below.refl _ _ | with_reducible assumption | with_reducible refine Below.alloc ?_ (by first | exact Nat.le_refl _ | exact Below.size (by assumption) | exact Nat.le_trans (Below.size (by assumption)) (by simp; done) | (simp; done) | (simp; omega) | omega) _ | with_reducible refine below_drewN ?_ _ | with_reducible refine Below.drew ?_ | with_reducible refine Below.setCell ?_ (by first | exact Nat.le_refl _ | (simp; done) | (simp; omega) | omega) _))
      have hnW := heap_alloc_new wr (Obj.cells #[.int .i64 xs, .int .i64 xl, .int .i64 xd] 111)
      go_upto_region 4 with fail
      generalize wr.alloc (Obj.cells #[.int .i64 xs, .int .i64 xl, .int .i64 xd] 111) = WL at hbW hnW ⊢
      have n0 : WL.cell? ⟨wr.heap.size, 0, none⟩ = some (.int .i64 xs) := blk_cell hnW 0
      have n2 : WL.cell? ⟨wr.heap.size, 2, none⟩ = some (.int .i64 xd) := blk_cell hnW 2
      obtain ⟨vo2, n2', f2, hv2⟩ := HV.out
      have hvL := hv2.below hbW
      have m0 : WL.cell? ⟨bm, 0, none⟩ = some (.map (some mb)) := blk_cell hvL.met 0
      have v0 : WL.cell? ⟨bv, 0, none⟩ = some (fnV bw be bm bo bv) := blk_cell hvL.fn 0
      unfold fnV at v0
      have HVL := hide (show CIs WL bw be mb bm bo bv B vR (.slice A2 D.mods.length c2) vF (.slice (some ad) E.length c) D sj from ⟨vo2, n2', f2, hvL⟩)
      have HKL := HK.then (Keep.of_below (K := kpC mb bo B) hbW) (fun b hb => hb)
      have hlk := fun (d : Nat) (hd : d ≤ 400) => hvL.map.look (int_keyed Tryz.underlying3) Tryz.underlying70 (zero_bool5 WL) (look_int5 (n := d) hd) trivial
      have hft := hvL.fit
      have HLK := hide hlk
      have HFT := hide hft
      clear hbW hnW e0 e1 e2 hv2 HV HK hfit hvL hlk hft
      by_cases hc : xs = k ∧ 0 ≤ xd
      · rw [if_pos hc] at hod
        obtain ⟨rfl, h0⟩ := hc
        obtain ⟨d, rfl⟩ : ∃ d : Nat, xd = d := ⟨xd.toNat, by omega⟩
        rw [Int.toNat_natCast] at hod
        have hlk := HLK.out d (by omega)
        have hks : ((k : Int) == k) = true := by simp
        rw [HFT.out d] at hlk
        by_cases hdm : d ∈ sj.seen
        · rw [Gr.visit_seen hdm] at hod
          have HOD := hide (HO.out.trans hod)
          rw [if_pos hdm] at hlk
          replace hlk : (Instr.lookup 70 (.map (some mb)) (.int .i64 (d : Int)) false).run Tryz.prog WL = .ok (.bool true) WL := hlk
          clear hod HO hdm HLK HFT HIH
          go_wp2_with fail
          go_roundw
          case rel => exact ⟨j + 1, sj, by go_num, by omega, HOD, HVL, HOK, hol, hfu, HKL⟩
          case measure => simp [intOf]; omega
        · have HOD := hide (HO.out.trans hod)
          rw [if_neg hdm] at hlk
          replace hlk : (Instr.lookup 70 (.map (some mb)) (.int .i64 (d : Int)) false).run Tryz.prog WL = .ok (.bool false) WL := hlk
          have hcall := HIH.out d sj WL HVL.out ⟨A2, c2, rfl, hc2, hd2, HKL.kpCs hMs⟩ (HKL.kpCs hE) (by omega) hdm HOK.out (by omega) hfu
          have hto := hide (Gr.visit_to HF.out fu d sj (by omega) HOK.out)
          have HC := hide hcall
          clear hod hcall HO HVL hdm HLK HFT
          go_wp2_with (go_at_call 62; refine HC.out.mono ?_; rintro e w5 ⟨rfl, hv5, hk5⟩)
          have HV5 := hide hv5
          have HK5 := HKL.then hk5 (fun b hb => hb)
          have hg1 := hto.out.grow
          have hg2 := hto.out.bal
          have HOK5 := hide hto.out.ok
          clear hv5 hk5 HC HKL n0 n2 m0 v0 hlk
          try go_wp2_with fail
          go_roundw
          case rel => exact ⟨j + 1, _, by go_num, by omega, HOD, HV5, HOK5, by omega, by omega, HK5⟩
          case measure => simp [intOf]; omega
      · rw [if_neg hc] at hod
        have HOD := hide (HO.out.trans hod)
        clear hod HO HIH HLK HFT
        by_cases hs1 : xs = k
        · have hks : (xs == (k : Int)) = true := by simpa using hs1
          have hx0 : ¬ 0 ≤ xd := fun h => hc ⟨hs1, h⟩
          clear hs1 hc
          go_wp2_with fail
          go_roundw
          case rel => exact ⟨j + 1, sj, by go_num, by omega, HOD, HVL, HOK, hol, hfu, HKL⟩
          case measure => simp [intOf]; omega
        · have hks : (xs == (k : Int)) = false := by simpa using hs1
          clear hs1 hc
          go_wp2_with fail
          go_roundw
          case rel => exact ⟨j + 1, sj, by go_num, by omega, HOD, HVL, HOK, hol, hfu, HKL⟩
          case measure => simp [intOf]; omega
    · obtain rfl : j = E.length := by omega
      have HR := hide (show res = sj.put k by rw [HVIS.out, HO.out, List.drop_length]; rfl)
      obtain ⟨vo2, n2', f2, hv2⟩ := HV.out
      obtain ⟨Ao2, co2, hvo2, _, _, _⟩ := hv2.row.slV
      subst hvo2
      have hok2 := HOK.out.len
      obtain ⟨bd, hA2, m1, m2⟩ := (HK.kpCs hMs).get hk
      subst hA2
      have hnk : (D.mods[k]).name = Gr.nameAt D k := by unfold Gr.nameAt; rw [List.getElem?_eq_getElem hk]
      have d0 : wr.cell? (bd.add (k * 2)) = some (.string (Gr.nameAt D k)) := by rw [← hnk]; exact m1.2
      have q5 : wr.cell? ⟨bo, 0, none⟩ = some (.slice Ao2 (sj.out.map (Gr.nameAt D)).length co2) := blk_cell hv2.out 0
      have q1 : wr.cell? ⟨bw, 1, none⟩ = some (.slice (some bd) D.mods.length c2) := blk_cell hv2.box 1
      have hgw := hv2.lt
      obtain ⟨o1, o2, o3, o4, o5, o6⟩ := hv2.ord
      have hBw : B ≤ wr.heap.size := hv2.top
      have hbo : bo < wr.heap.size := by omega
      have hbw : bw < wr.heap.size := by omega
      have hbdl : bd.block < wr.heap.size := by have := World.block_lt_of_cell? _ _ d0; rwa [block_add] at this
      have hlo : (sj.out.map (Gr.nameAt D)).length ≤ 60 := by rw [List.length_map]; omega
      have HVV := hide hv2
      have ho2 := hv2.row
      generalize hxs : sj.out.map (Gr.nameAt D) = xs at q5 ho2 hlo
      generalize hnk2 : Gr.nameAt D k = nk at d0
      have HXS := hide hxs
      have HNK := hide hnk2
      clear m1 m2 hnk HVIS HO HIH HV hv2 hxs hnk2
      go_wp2_with fail
      go_region_law ((refine step_app fStr B (by rfl) _ _ 23 9 (.string ByteArray.empty) 16 (by rfl) Tryz.underlying23 info_str6 rfl (by omega) (.slice Ao2 xs.length co2) xs nk #[.string nk] rfl (by rfl) wr.heap.size (by rfl) (by exact heap_alloc_new _ _) (ho2.alloc _) (by simp; omega) (by omega) ?_; intro v1 w1 hown hgr hnew; have hgr2 : wr.grownBy w1 (Value.slice Ao2 xs.length co2).ownBlock := World.grownBy.trans (grown_below6 (by (repeat (first | with_reducible exact Below.refl _ _ | with_reducible assumption | with_reducible refine Below.alloc ?_ (by first | exact Nat.le_refl _ | exact Below.size (by assumption) | exact Nat.le_trans (Below.size (by assumption)) (by simp; done) | (simp; done) | (simp; omega) | omega) _ | with_reducible refine below_drewN ?_ _ | with_reducible refine Below.drew ?_ | with_reducible refine Below.setCell ?_ (by first | exact Nat.le_refl _ | (simp; done) | (simp; omega) | omega) _))) _) hgr; have hb1 := (hgr2.block bo (by omega) (not_row (apart_blk ho2 HVV.out.out (by decide)))).trans HVV.out.out; have q5' : w1.cell? ⟨bo, 0, none⟩ = some _ := blk_cell hb1 0; have f5 := blk_free hb1 0; obtain ⟨A1, c1, hv1, hc1, hd1, _⟩ := hown.slV; subst hv1; clear hgr hnew hb1))
      all_goals
        go_end0
        have hp := CAt.push (k := k) (v1 := .slice A1 (xs ++ [nk]).length c1) HVV.out (by rw [HXS.out, HNK.out]; exact hown) (by rw [HXS.out]; exact hgr2)
        rw [List.length_append, List.length_singleton] at hp
        exact ⟨rfl, by rw [HR.out]; exact ⟨_, _, _, hp.1⟩, HK.then hp.2 (fun b hb => hb)⟩

theorem cvis_all (bw be mb bm bo bv B : Nat) (vR vM vF : Value) (A : Option Addr) (c : Nat) (D : WorldD) (E : List EdgeD) (hn : D.mods.length ≤ 60) (hEl : E.length ≤ 3600) (hF : ∀ e ∈ E, Gr.Fit D.mods.length e) : ∀ fu, CVisP bw be mb bm bo bv B vR vM vF A c D E fu
  | 0 => fun k s w _ _ _ _ _ hok _ hfu => by have := hok.len; omega
  | fu + 1 => cvis_step bw be mb bm bo bv B vR vM vF A c D E hn hEl hF fu (cvis_all bw be mb bm bo bv B vR vM vF A c D E hn hEl hF fu)

set_option maxRecDepth 100000 in
set_option maxHeartbeats 4000000 in
theorem iOrder_calls (D : WorldD) (vR vM vF : Value) (S : Nat → Prop) (w : World) (h : WIn w S vR vM vF D) (hz : WSz D) (hml : ML w) (name : Str) (hn : name.size ≤ 1048576) :
    Calls Tryz.prog 24 #[.agg #[vR, vM, vF], .string name] w (RetOwn fStr w 9 (Gr.order D name)) := by
  obtain ⟨⟨A1, c1, rfl, hc1, hd1, hR⟩, ⟨A2, c2, rfl, hc2, hd2, hM⟩, ⟨A3, c3, rfl, _, _, _⟩⟩ := id h
  have hb0 : Below w.heap.size w (w.alloc (Obj.cells #[.slice A1 D.roots.length c1, .slice A2 D.mods.length c2, .slice A3 D.faults.length c3] 27)) := by (repeat (first | with_reducible exact Below.refl _ _ | with_reducible assumption | with_reducible refine Below.alloc ?_ (by first | exact Nat.le_refl _ | exact Below.size (by assumption) | exact Nat.le_trans (Below.size (by assumption)) (by simp; done) | (simp; done) | (simp; omega) | omega) _ | with_reducible refine below_drewN ?_ _ | with_reducible refine Below.drew ?_ | with_reducible refine Below.setCell ?_ (by first | exact Nat.le_refl _ | (simp; done) | (simp; omega) | omega) _))
  have hblk := heap_alloc_new w (Obj.cells #[.slice A1 D.roots.length c1, .slice A2 D.mods.length c2, .slice A3 D.faults.length c3] 27)
  have hsz := (show w.heap.size < (w.alloc (Obj.cells #[.slice A1 D.roots.length c1, .slice A2 D.mods.length c2, .slice A3 D.faults.length c3] 27)).heap.size by simp)
  have hok := iWorldOk_calls D _ _ _ S _ (h.below hb0) hz (hml.below hb0)
  have hwg := wr_guard
  by_cases h0 : (Wd.worldOk D).1 = 0
  · rw [Wd.worldOk_zero_of h0] at hok
    have hne := wr_zero
    have hwk := Wd.wok_of h0
    have hlm : D.mods.length ≤ 60 := hwk.mods
    have hlmI : (D.mods.length : Int) ≤ 60 := by omega
    have hto := fun (W : World) (hb : Below w.heap.size w W) => gfind_calls D _ _ _ S W (h.below hb) hz (hml.below hb) Ld.mainName name (by decide) hn
    have hed := fun (W : World) (hb : Below w.heap.size w W) => iEdges_calls D _ _ _ S W (h.below hb) hz (hml.below hb)
    have hord : Gr.order D name = match Gr.to D Ld.mainName name with
      | none => []
      | some k => (Gr.visit (Gr.edges D) (D.mods.length + 1) k ⟨[], []⟩).out.map (Gr.nameAt D) := by
      unfold Gr.order
      rw [if_neg (fun e => e h0)]
      cases Gr.to D Ld.mainName name <;> rfl
    have htl : ∀ i, Gr.to D Ld.mainName name = some i → i < D.mods.length := fun i hi => Gr.toOf_lt hi
    have hmain : (⟨#[109, 97, 105, 110]⟩ : Str) = Ld.mainName := rfl
    rw [← hmain] at hto hord htl
    generalize Gr.to D ⟨#[109, 97, 105, 110]⟩ name = tt at hto hord htl
    have hel := Gr.edges_len (D := D)
    have HFT := hide (fun e he => Gr.edges_fit (D := D) (e := e) he)
    generalize Gr.edges D = E at hed hord hel HFT
    generalize Gr.order D name = res at hord ⊢
    have HOK := hide hok
    have HBK := hide hblk
    have HED := hide hed
    have HTO := hide hto
    have HORD := hide hord
    have HTL := hide htl
    have hmm := @run_makeMap Tryz.prog
    have hmf : ∀ (fn : Fn) (first cap : Array Value) (w : World), (Instr.makeFunc fn first cap).run Tryz.prog w = .ok (.func fn first cap) w := fun _ _ _ _ => rfl
    have hstf := fun (a : Addr) (fn : Fn) (first cap : Array Value) (m : Mode) (w : World) => run_store Tryz.prog w a (.func fn first cap) m rfl
    clear hok hwk hblk h0 hed hmain hto hord htl
    go_enter Tryz.func24, Tryz.ntmps24
    go_wp2_with fail
    refine HOK.out.mono ?_
    rintro e w1 ⟨rfl, hb1⟩
    have HB1 := below_then hb0 hb0.size hb1
    have hbk1 := (hb1.block _ hsz).trans HBK.out
    have hz1 : w.heap.size < w1.heap.size := Nat.lt_of_lt_of_le hsz hb1.size
    have k0 : w1.cell? ⟨w.heap.size, 0, none⟩ = some (.slice A1 D.roots.length c1) := blk_cell hbk1 0
    have k1 : w1.cell? ⟨w.heap.size, 1, none⟩ = some (.slice A2 D.mods.length c2) := blk_cell hbk1 1
    have k2 : w1.cell? ⟨w.heap.size, 2, none⟩ = some (.slice A3 D.faults.length c3) := blk_cell hbk1 2
    have HBK1 := hide hbk1
    clear HOK hb1 hbk1 HBK
    go_wp2_with fail
    refine (HED.out w1 HB1).mono ?_
    rintro e w2 ⟨vE, rfl, hoE, hb2⟩
    obtain ⟨AE, cE, hvE, _, _, _⟩ := hoE.slV
    subst hvE
    have HB2 := below_then HB1 HB1.size hb2
    have hbk2 := (hb2.block _ hz1).trans HBK1.out
    have hz2 : w.heap.size < w2.heap.size := Nat.lt_of_lt_of_le hz1 hb2.size
    have HBK2 := hide hbk2
    clear hb2 hbk2 HBK1 k0 k1 k2 hne hwg
    go_upto_region 7 with fail
    obtain ⟨u1, hu1⟩ : ∃ W : World, W = w2.alloc (Obj.cells #[.slice AE E.length cE] 54) := ⟨_, rfl⟩
    obtain ⟨u2, hu2⟩ : ∃ W : World, W = u1.alloc (Obj.map #[] 0) := ⟨_, rfl⟩
    obtain ⟨u3, hu3⟩ : ∃ W : World, W = u2.alloc (Obj.cells #[.map (some (w2.heap.size + 1))] 70) := ⟨_, rfl⟩
    obtain ⟨u4, hu4⟩ : ∃ W : World, W = u3.alloc (Obj.cells #[.slice none 0 0] 23) := ⟨_, rfl⟩
    obtain ⟨u5, hu5⟩ : ∃ W : World, W = u4.alloc (Obj.cells #[.nilFunc] 112) := ⟨_, rfl⟩
    have y1 : u1.heap.size = w2.heap.size + 1 := by rw [hu1]; simp
    have y2 : u2.heap.size = w2.heap.size + 2 := by rw [hu2]; simp [y1]
    have y3 : u3.heap.size = w2.heap.size + 3 := by rw [hu3]; simp [y2]
    have y4 : u4.heap.size = w2.heap.size + 4 := by rw [hu4]; simp [y3]
    have y5 : u5.heap.size = w2.heap.size + 5 := by rw [hu5]; simp [y4]
    have x1 : Below w2.heap.size w2 u1 := by rw [hu1]; (repeat (first | with_reducible exact Below.refl _ _ | with_reducible assumption | with_reducible refine Below.alloc ?_ (by first | exact Nat.le_refl _ | exact Below.size (by assumption) | exact Nat.le_trans (Below.size (by assumption)) (by simp; done) | (simp; done) | (simp; omega) | omega) _ | with_reducible refine below_drewN ?_ _ | with_reducible refine Below.drew ?_ | with_reducible refine Below.setCell ?_ (by first | exact Nat.le_refl _ | (simp; done) | (simp; omega) | omega) _))
    have x2 : Below u1.heap.size u1 u2 := by rw [hu2]; (repeat (first | with_reducible exact Below.refl _ _ | with_reducible assumption | with_reducible refine Below.alloc ?_ (by first | exact Nat.le_refl _ | exact Below.size (by assumption) | exact Nat.le_trans (Below.size (by assumption)) (by simp; done) | (simp; done) | (simp; omega) | omega) _ | with_reducible refine below_drewN ?_ _ | with_reducible refine Below.drew ?_ | with_reducible refine Below.setCell ?_ (by first | exact Nat.le_refl _ | (simp; done) | (simp; omega) | omega) _))
    have x3 : Below u2.heap.size u2 u3 := by rw [hu3]; (repeat (first | with_reducible exact Below.refl _ _ | with_reducible assumption | with_reducible refine Below.alloc ?_ (by first | exact Nat.le_refl _ | exact Below.size (by assumption) | exact Nat.le_trans (Below.size (by assumption)) (by simp; done) | (simp; done) | (simp; omega) | omega) _ | with_reducible refine below_drewN ?_ _ | with_reducible refine Below.drew ?_ | with_reducible refine Below.setCell ?_ (by first | exact Nat.le_refl _ | (simp; done) | (simp; omega) | omega) _))
    have x4 : Below u3.heap.size u3 u4 := by rw [hu4]; (repeat (first | with_reducible exact Below.refl _ _ | with_reducible assumption | with_reducible refine Below.alloc ?_ (by first | exact Nat.le_refl _ | exact Below.size (by assumption) | exact Nat.le_trans (Below.size (by assumption)) (by simp; done) | (simp; done) | (simp; omega) | omega) _ | with_reducible refine below_drewN ?_ _ | with_reducible refine Below.drew ?_ | with_reducible refine Below.setCell ?_ (by first | exact Nat.le_refl _ | (simp; done) | (simp; omega) | omega) _))
    have x5 : Below u4.heap.size u4 u5 := by rw [hu5]; (repeat (first | with_reducible exact Below.refl _ _ | with_reducible assumption | with_reducible refine Below.alloc ?_ (by first | exact Nat.le_refl _ | exact Below.size (by assumption) | exact Nat.le_trans (Below.size (by assumption)) (by simp; done) | (simp; done) | (simp; omega) | omega) _ | with_reducible refine below_drewN ?_ _ | with_reducible refine Below.drew ?_ | with_reducible refine Below.setCell ?_ (by first | exact Nat.le_refl _ | (simp; done) | (simp; omega) | omega) _))
    have q1 : u1.heap[w2.heap.size]? = some (.cells #[.slice AE E.length cE] 54 (0, 0)) := by rw [hu1]; exact heap_alloc_new _ _
    have q2 : MapIs u2 Tryz.prog 3 (w2.heap.size + 1) 0 (fun _ => none) := by rw [← y1, hu2]; exact MapIs.made _ _ _
    have q3 : u3.heap[w2.heap.size + 2]? = some (.cells #[.map (some (w2.heap.size + 1))] 70 (0, 0)) := by rw [← y2, hu3]; exact heap_alloc_new _ _
    have q4 : u4.heap[w2.heap.size + 3]? = some (.cells #[.slice none 0 0] 23 (0, 0)) := by rw [← y3, hu4]; exact heap_alloc_new _ _
    have q5 : u5.heap[w2.heap.size + 4]? = some (.cells #[.nilFunc] 112 (0, 0)) := by rw [← y4, hu5]; exact heap_alloc_new _ _
    rw [← hu1, ← hu2, ← hu3, ← hu4, ← hu5]
    clear hu1 hu2 hu3 hu4 hu5
    have x15 : Below w2.heap.size w2 u5 := below_then (below_then (below_then (below_then x1 (by omega) x2) (by omega) x3) (by omega) x4) (by omega) x5
    generalize e4 : w2.heap.size + 1 + 1 + 1 + 1 = bv
    generalize e3 : w2.heap.size + 1 + 1 + 1 = bo
    generalize e2 : w2.heap.size + 1 + 1 = bm
    generalize e1 : w2.heap.size + 1 = mb
    rw [show w2.heap.size + 4 = bv from e4] at q5
    rw [show w2.heap.size + 3 = bo from e3] at q4
    rw [show w2.heap.size + 2 = bm from e2, show w2.heap.size + 1 = mb from e1] at q3
    rw [show w2.heap.size + 1 = mb from e1] at q2
    have o2 : w2.heap.size < mb := by omega
    have o3 : mb < bm := by omega
    have o4 : bm < bo := by omega
    have o5 : bo < bv := by omega
    have o6 : bv < u5.heap.size := by omega
    have z1 : mb < u2.heap.size := by omega
    have z2 : bm < u3.heap.size := by omega
    have z3 : bo < u4.heap.size := by omega
    have z4 : w2.heap.size < u1.heap.size := by omega
    have w1' := x2.size
    have w2' := x3.size
    have w3' := x4.size
    have w4' := x5.size
    clear e1 e2 e3 e4 y1 y2 y3 y4 y5
    have p1 := (x5.block _ (by omega)).trans ((x4.block _ (by omega)).trans ((x3.block _ (by omega)).trans ((x2.block _ (by omega)).trans q1)))
    have p2 := ((q2.below x3).below x4).below x5
    have p3 := (x5.block _ (by omega)).trans ((x4.block _ (by omega)).trans q3)
    have p4 := (x5.block _ (by omega)).trans q4
    have p0 := (x15.block _ hz2).trans HBK2.out
    have c5 : u5.cell? ⟨bv, 0, none⟩ = some .nilFunc := blk_cell q5 0
    have f5 := blk_free q5 0
    have g5 := grown_set u5 bv 0 (fnV w.heap.size w2.heap.size bm bo bv)
    have hzs : (u5.setCell ⟨bv, 0, none⟩ (fnV w.heap.size w2.heap.size bm bo bv)).heap.size = u5.heap.size := by simp [World.setCell]
    have HCA := hide (show CAt (u5.setCell ⟨bv, 0, none⟩ (fnV w.heap.size w2.heap.size bm bo bv)) w.heap.size w2.heap.size mb bm bo bv u5.heap.size (.slice A1 D.roots.length c1) (.slice A2 D.mods.length c2) (.slice A3 D.faults.length c3) (.slice AE E.length cE) (.slice none 0 0) 0 (fun _ => none) D ⟨[], []⟩ from
      ⟨(g5.block _ (by omega) (by simp; omega)).trans p0, (g5.block _ (by omega) (by simp; omega)).trans p1, (g5.block _ (by omega) (by simp; omega)).trans p3, (g5.block _ (by omega) (by simp; omega)).trans p4, blk_set q5 0 _, p2.same (g5.block _ (by omega) (by simp; omega)), fun k => by simp, Nat.zero_le _, Own.nil _ _ _, ⟨hz2, by omega, by omega, by omega, by omega, by omega⟩, by rw [hzs]; exact Nat.le_refl _⟩)
    have B6 : Below w2.heap.size w2 (u5.setCell ⟨bv, 0, none⟩ (fnV w.heap.size w2.heap.size bm bo bv)) := x15.grown g5 (by omega) (fun k e => by injection e with e; omega)
    have HSE := hide (((hoE.sl.old.more (T := fun b => b < w2.heap.size) (fun b hb => hb.2)).same (fun b hb => B6.block b hb)).more (T := kpC mb bo u5.heap.size) (fun b hb => ⟨by have : b < w2.heap.size := hb; omega, by have : b < w2.heap.size := hb; omega, by have : b < w2.heap.size := hb; omega⟩))
    have HSM := hide (((hM.old.more (T := fun b => b < w.heap.size) (fun b hb => hb.2)).same (fun b hb => (B6.block b (by have : b < w.heap.size := hb; omega)).trans (HB2.block b hb))).more (T := kpC mb bo u5.heap.size) (fun b hb => ⟨by have : b < w.heap.size := hb; omega, by have : b < w.heap.size := hb; omega, by have : b < w.heap.size := hb; omega⟩))
    have hB6 := below_then HB2 HB2.size B6
    have hbo6 : bo < (u5.setCell ⟨bv, 0, none⟩ (fnV w.heap.size w2.heap.size bm bo bv)).heap.size := by rw [hzs]; omega
    have HUS := hide (show u5.heap.size ≤ (u5.setCell ⟨bv, 0, none⟩ (fnV w.heap.size w2.heap.size bm bo bv)).heap.size by rw [hzs]; exact Nat.le_refl _)
    clear p0 p1 p2 p3 p4 q1 q2 q3 q4 q5 g5 hzs x1 x2 x3 x4 x5 x15 w1' w2' w3' w4' z1 z2 z3 z4 HBK2 B6
    go_upto_region 8 with fail
    generalize hBB : u5.heap.size = B at HCA HSE HSM HUS o6
    unfold fnV at HCA HSE HSM HUS hB6 hbo6
    generalize u5.setCell ⟨bv, 0, none⟩ _ = W6 at HCA HSE HSM HUS hB6 hbo6 ⊢
    clear c5 f5 hBB
    have k0 : W6.cell? ⟨w.heap.size, 0, none⟩ = some (.slice A1 D.roots.length c1) := blk_cell HCA.out.box 0
    have k1 : W6.cell? ⟨w.heap.size, 1, none⟩ = some (.slice A2 D.mods.length c2) := blk_cell HCA.out.box 1
    have k2 : W6.cell? ⟨w.heap.size, 2, none⟩ = some (.slice A3 D.faults.length c3) := blk_cell HCA.out.box 2
    go_wp2_with fail
    refine (HTO.out W6 hB6).mono ?_
    rintro e w7 ⟨rfl, hb7⟩
    have hCA7 := HCA.out.below hb7
    have HE7 := hide (HSE.out.below hb7)
    have HM7 := hide (HSM.out.below hb7)
    have HB7 := below_then hB6 hB6.size hb7
    clear hb7 k0 k1 k2 HCA HSE HSM hB6
    cases tt with
    | none =>
      have c4 : w7.cell? ⟨bo, 0, none⟩ = some (.slice none 0 0) := blk_cell hCA7.out 0
      have HR := hide (show res = [] from HORD.out)
      clear hCA7
      simp only [idxI]
      go_wp2_with fail
      go_ret
      exact ⟨_, rfl, by rw [HR.out]; exact Own.nil _ _ _, HB7⟩
    | some i =>
      have hil := HTL.out i rfl
      have HR := hide (show res = (Gr.visit E (D.mods.length + 1) i ⟨[], []⟩).out.map (Gr.nameAt D) from HORD.out)
      have v0 : w7.cell? ⟨bv, 0, none⟩ = some (fnV w.heap.size w2.heap.size bm bo bv) := blk_cell hCA7.fn 0
      unfold fnV at v0
      have hcall := cvis_all w.heap.size w2.heap.size mb bm bo bv B _ _ _ AE cE D E hlm hel HFT.out (D.mods.length + 1) i ⟨[], []⟩ w7 ⟨_, _, _, hCA7⟩ ⟨A2, c2, rfl, hc2, hd2, HM7.out⟩ HE7.out hil (by simp) ⟨List.nodup_nil, fun x hx => by simp at hx⟩ (Nat.le_refl _) (by simp)
      have HC := hide hcall
      have hord := hide hCA7.ord
      have htop := hCA7.top
      clear hcall hCA7 HE7 HM7
      simp only [idxI]
      go_wp2_with (go_at_call 62; refine HC.out.mono ?_; rintro e w8 ⟨rfl, hv8, hk8⟩; obtain ⟨vo8, n8, f8, hv8⟩ := hv8; obtain ⟨Ao, co, hvo, _, _, _⟩ := hv8.row.slV; subst hvo; have q8 : w8.cell? ⟨bo, 0, none⟩ = some _ := blk_cell hv8.out 0)
      have hB8 : Below w.heap.size w w8 := HB7.trans (hk8.below (fun b hb => ⟨by have := hord.out.o1; have := hord.out.o2; have := hord.out.o3; have := hord.out.o4; have := hord.out.o5; have := hord.out.o6; omega, by have := hord.out.o1; have := hord.out.o2; omega, by have := hord.out.o1; have := hord.out.o2; have := hord.out.o3; have := hord.out.o4; omega⟩) HB7.size)
      have HO := hide (hv8.row.more (base' := w.heap.size) (by have := hord.out.o1; have := hord.out.o2; have := hord.out.o3; have := hord.out.o4; have := hord.out.o5; have := hord.out.o6; omega))
      try go_wp2_with fail
      go_ret
      exact ⟨_, rfl, by rw [HR.out]; have h9 := HO.out; rw [List.length_map] at h9; exact h9, hB8⟩
  · have HEd := hide (show Gr.order D name = [] by unfold Gr.order; rw [if_pos h0])
    obtain ⟨r1, r2, r3, hq⟩ : ∃ r1 r2 r3, Wd.worldOk D = (r1, r2, r3) := ⟨_, _, _, rfl⟩
    rw [hq] at hok h0
    have hne := fun (w : World) => wr_pos (a := r1) h0 r2 r3 w
    clear hq
    have HOK := hide hok
    clear hok h0
    go_enter Tryz.func24, Tryz.ntmps24
    go_wp2_with fail
    refine HOK.out.mono ?_
    rintro e w1 ⟨rfl, hb1⟩
    have HB1 := below_then hb0 hb0.size hb1
    clear hb1
    go_wp2_with fail
    go_ret
    exact ⟨_, rfl, by rw [HEd.out]; exact Own.nil _ _ _, HB1⟩
end Go.Proofs.YtkhlicmlnjccdaaGreatDoor
