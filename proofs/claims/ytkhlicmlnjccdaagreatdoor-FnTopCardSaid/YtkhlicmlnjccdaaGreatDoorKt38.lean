/-
  Walk: the program's Load.
-/
import Derived.Test.YtkhlicmlnjccdaaGreatDoorKt36
import Derived.Test.YtkhlicmlnjccdaaGreatDoorKt37
import Derived.Deep.CutBlock
namespace Go.Proofs.YtkhlicmlnjccdaaGreatDoor
open Go.RowKit Mem Go.Maps Go.ChangeMaps Go.WideMaps

theorem wrong_guard : Tryz.prog.eqGuardType Tryz.prog.depth 52 = false := by kernel_rfl
theorem wrong_stood : Tryz.prog.stoodInHeld 52 = false := by kernel_rfl
theorem wrong_under : Tryz.prog.underlying 52 = some (.struct (Tryz.prog.fieldsOf 52)) := by kernel_rfl
theorem wrong_zero (w : World) : (binOp .neq 52 (.agg #[.int .i64 0, .int .i64 0, .int .i64 0]) (.agg #[.int .i64 0, .int .i64 0, .int .i64 0])).run Tryz.prog w = .ok (.bool false) w := by
  rw [run_neq_struct, run_equalIn_agg _ _ _ _ _ wrong_under wrong_stood]
  simp only [Program.fieldsOf, Tryz.underlying52]
  simp [Op.eqFields, part, go_sem, Tryz.underlying3]
theorem wrong_pos {a : Int} (h : a ≠ 0) (b c : Int) (w : World) : (binOp .neq 52 (.agg #[.int .i64 a, .int .i64 b, .int .i64 c]) (.agg #[.int .i64 0, .int .i64 0, .int .i64 0])).run Tryz.prog w = .ok (.bool true) w := by
  rw [run_neq_struct, run_equalIn_agg _ _ _ _ _ wrong_under wrong_stood]
  simp only [Program.fieldsOf, Tryz.underlying52]
  simp [Op.eqFields, part, go_sem, Tryz.underlying3, h]
/-- both, by how many bodies may still be run -/
theorem pmachine_all (g : Nat) (vR vM vF : Value) (bm bf : Nat) (D : WorldD) (hD : DOk D) : ∀ f, LoadP g vR vM vF bm bf D f
  | 0 => load_step g vR vM vF bm bf D hD 0 (fun f' e => by omega)
  | f + 1 => load_step g vR vM vF bm bf D hD (f + 1) (fun f' e => by
    obtain rfl : f' = f := by omega
    exact pbody_step g vR vM vF bm bf D hD f' (pmachine_all g vR vM vF bm bf D hD f'))
theorem look_fault_wf {x : Int} (h : 0 ≤ x ∧ x < 400) : keyOf Tryz.prog 3 (.int .i64 x) = some (.int .i64 x) := keyOf_int_mk Tryz.underlying3 (by
  simp only [Lit.wf, Bool.and_eq_true, decide_eq_true_eq]
  have h1 : IntKind.i64.min = -9223372036854775808 := by decide +kernel
  have h2 : IntKind.i64.max = 9223372036854775807 := by decide +kernel
  rw [h1, h2]
  omega)

set_option maxRecDepth 100000 in
set_option maxHeartbeats 8000000 in
theorem iLoad_calls (D : WorldD) (vR vM vF : Value) (S : Nat → Prop) (w : World) (h : WIn w S vR vM vF D) (hz : WSz D) (hm : ML w) (name : Str) (hn : name.size ≤ 1048576) :
    Calls Tryz.prog 9 #[.agg #[vR, vM, vF], .string name] w (RetRep w (Ld.load D name)) := by
  have hwo := fun (w' : World) (hi : WIn w' S vR vM vF D) (hm' : ML w') => iWorldOk_calls D vR vM vF S w' hi hz hm'
  obtain ⟨r1, r2, r3, hq⟩ : ∃ r1 r2 r3, Wd.worldOk D = (r1, r2, r3) := ⟨_, _, _, rfl⟩
  rw [hq] at hwo
  have hlo : Ld.load D name = if r1 ≠ 0 then (-1, Ld.St.start) else ((Ld.get D 40 Ld.mainName name Ld.St.start).2.1, (Ld.get D 40 Ld.mainName name Ld.St.start).2.2) := by unfold Ld.load; rw [hq]
  generalize Ld.load D name = res at hlo ⊢
  have HLO := hide hlo
  have HWO := hide hwo
  have HIN := hide h
  have HQ := hide hq
  obtain ⟨⟨A1, c1, rfl, hc1, hd1, hR⟩, ⟨A2, c2, rfl, hc2, hd2, hM⟩, ⟨A3, c3, rfl, hc3, hd3, hF⟩⟩ := h
  clear hlo hwo hq hR hM hF
  go_enter Tryz.func9, Tryz.ntmps9
  go_wp2_with fail
  generalize hW : (w.alloc (Obj.cells #[.slice A1 D.roots.length c1, .slice A2 D.mods.length c2, .slice A3 D.faults.length c3] 27)).alloc (Obj.cells #[.int .i64 0, .slice none 0 0, .slice none 0 0, .int .i64 0, .slice none 0 0] 34) = W
  have hbW : Below w.heap.size w W := by rw [← hW]; (repeat (first | with_reducible exact Below.refl _ _ | with_reducible assumption | with_reducible refine Below.alloc ?_ (by first | exact Nat.le_refl _ | exact Below.size (by assumption) | exact Nat.le_trans (Below.size (by assumption)) (by simp; done) | (simp; done) | (simp; omega) | omega) _ | with_reducible refine below_drewN ?_ _ | with_reducible refine Below.drew ?_ | with_reducible refine Below.setCell ?_ (by first | exact Nat.le_refl _ | (simp; done) | (simp; omega) | omega) _))
  obtain ⟨blkB, blkR, hW0⟩ := alloc_two w (Obj.cells #[.slice A1 D.roots.length c1, .slice A2 D.mods.length c2, .slice A3 D.faults.length c3] 27) (Obj.cells #[.int .i64 0, .slice none 0 0, .slice none 0 0, .int .i64 0, .slice none 0 0] 34)
  rw [hW] at blkB blkR hW0
  clear hW
  refine (HWO.out W (HIN.out.below hbW) (hm.below hbW)).mono ?_
  rintro e w1 ⟨rfl, hb1⟩
  have hz1 := hb1.size
  have cB := (hb1.block _ (by omega)).trans blkB
  have cR := (hb1.block _ (by omega)).trans blkR
  have HBW := below_then hbW hbW.size hb1
  have k0 : w1.cell? ⟨w.heap.size, 0, none⟩ = some (.slice A1 D.roots.length c1) := blk_cell cB 0
  have k1 : w1.cell? ⟨w.heap.size, 1, none⟩ = some (.slice A2 D.mods.length c2) := blk_cell cB 1
  have k2 : w1.cell? ⟨w.heap.size, 2, none⟩ = some (.slice A3 D.faults.length c3) := blk_cell cB 2
  have r0 : w1.cell? ⟨w.heap.size + 1, 0, none⟩ = some (.int .i64 0) := blk_cell cR 0
  have r1' : w1.cell? ⟨w.heap.size + 1, 1, none⟩ = some (.slice none 0 0) := blk_cell cR 1
  have r2' : w1.cell? ⟨w.heap.size + 1, 2, none⟩ = some (.slice none 0 0) := blk_cell cR 2
  have r3' : w1.cell? ⟨w.heap.size + 1, 3, none⟩ = some (.int .i64 0) := blk_cell cR 3
  have r4' : w1.cell? ⟨w.heap.size + 1, 4, none⟩ = some (.slice none 0 0) := blk_cell cR 4
  have f0 := blk_free cR 0
  have f1 := blk_free cR 1
  have f2 := blk_free cR 2
  have f3 := blk_free cR 3
  have f4 := blk_free cR 4
  have CB := hide cB
  have CR := hide cR
  clear hb1 cB cR blkB blkR
  have hwg := wrong_guard
  by_cases hr : r1 = 0
  · subst hr
    have hall : r2 = 0 ∧ r3 = 0 := by
      have := Wd.worldOk_zero_of (D := D) (by rw [HQ.out])
      rw [HQ.out] at this
      simpa using this
    obtain ⟨rfl, rfl⟩ := hall
    have hne := wrong_zero
    have HQ2 := hide (HLO.out.trans (if_neg (by simp)))
    have hdk : DOk D := dok_of hz (by rw [HQ.out])
    have hwk := Wd.wok_of (D := D) (by rw [HQ.out])
    have HDK := hide hdk
    have HWK := hide hwk
    have hmm := @run_makeMap Tryz.prog
    clear hdk HLO hwk
    go_upto_region 4 with fail
    have hmk0 := ((MapIs.made w1 Tryz.prog 9).alloc (.map #[] 0)).alloc (Obj.cells #[.slice A1 D.roots.length c1, .slice A2 D.mods.length c2, .slice A3 D.faults.length c3, .map (some w1.heap.size), .map (some (w1.heap.size + 1)), .int .i64 0, .slice none 0 0, .slice none 0 0, .int .i64 0, .slice none 0 0, .slice none 0 0] 72)
    have hmf0 := (MapIs.made (w1.alloc (.map #[] 0)) Tryz.prog 3).alloc (Obj.cells #[.slice A1 D.roots.length c1, .slice A2 D.mods.length c2, .slice A3 D.faults.length c3, .map (some w1.heap.size), .map (some (w1.heap.size + 1)), .int .i64 0, .slice none 0 0, .slice none 0 0, .int .i64 0, .slice none 0 0, .slice none 0 0] 72)
    have hMB := heap_alloc_new ((w1.alloc (.map #[] 0)).alloc (.map #[] 0)) (Obj.cells #[.slice A1 D.roots.length c1, .slice A2 D.mods.length c2, .slice A3 D.faults.length c3, .map (some w1.heap.size), .map (some (w1.heap.size + 1)), .int .i64 0, .slice none 0 0, .slice none 0 0, .int .i64 0, .slice none 0 0, .slice none 0 0] 72)
    have hbM : Below w1.heap.size w1 (((w1.alloc (.map #[] 0)).alloc (.map #[] 0)).alloc (Obj.cells #[.slice A1 D.roots.length c1, .slice A2 D.mods.length c2, .slice A3 D.faults.length c3, .map (some w1.heap.size), .map (some (w1.heap.size + 1)), .int .i64 0, .slice none 0 0, .slice none 0 0, .int .i64 0, .slice none 0 0, .slice none 0 0] 72)) := by (repeat (first | with_reducible exact Below.refl _ _ | with_reducible assumption | with_reducible refine Below.alloc ?_ (by first | exact Nat.le_refl _ | exact Below.size (by assumption) | exact Nat.le_trans (Below.size (by assumption)) (by simp; done) | (simp; done) | (simp; omega) | omega) _ | with_reducible refine below_drewN ?_ _ | with_reducible refine Below.drew ?_ | with_reducible refine Below.setCell ?_ (by first | exact Nat.le_refl _ | (simp; done) | (simp; omega) | omega) _))
    have hzM : (((w1.alloc (.map #[] 0)).alloc (.map #[] 0)).alloc (Obj.cells #[.slice A1 D.roots.length c1, .slice A2 D.mods.length c2, .slice A3 D.faults.length c3, .map (some w1.heap.size), .map (some (w1.heap.size + 1)), .int .i64 0, .slice none 0 0, .slice none 0 0, .int .i64 0, .slice none 0 0, .slice none 0 0] 72)).heap.size = w1.heap.size + 3 := by simp
    have hs1 : (w1.alloc (.map #[] 0)).heap.size = w1.heap.size + 1 := by simp
    have hs2 : ((w1.alloc (.map #[] 0)).alloc (.map #[] 0)).heap.size = w1.heap.size + 2 := by simp
    rw [hs1] at hmf0
    rw [hs2] at hMB
    generalize ((w1.alloc (.map #[] 0)).alloc (.map #[] 0)).alloc (Obj.cells #[.slice A1 D.roots.length c1, .slice A2 D.mods.length c2, .slice A3 D.faults.length c3, .map (some w1.heap.size), .map (some (w1.heap.size + 1)), .int .i64 0, .slice none 0 0, .slice none 0 0, .int .i64 0, .slice none 0 0, .slice none 0 0] 72) = WM at hmk0 hmf0 hMB hbM hzM ⊢
    generalize hgg : w1.heap.size + 1 + 1 = g
    have hg1 : w1.heap.size + 2 ≤ g := by omega
    have hg2 : g ≤ w1.heap.size + 2 := by omega
    rw [show w1.heap.size + 2 = g by omega] at hMB
    clear hgg
    clear hs1 hs2 k0 k1 k2 r0 r1' r2' r3' r4' f0 f1 f2 f3 f4 hmm hne hwg
    have HMB := hide hMB
    have hwl := (HIN.out.lt (n := w1.heap.size) (by omega)).below HBW
    have HWL := hide hwl
    have cBM := (hbM.block _ (by omega)).trans CB.out
    have k1 : WM.cell? ⟨w.heap.size, 1, none⟩ = some (.slice A2 D.mods.length c2) := blk_cell cBM 1
    obtain ⟨_, hM, _⟩ := hwl
    obtain ⟨A2', c2', hv2, _, _, hMs⟩ := hM
    injection hv2 with hv2 _ hv2'
    subst hv2 hv2'
    have hmods := HWK.out.mods
    have hnf := HWK.out.nfaults
    clear cBM hMB
    go_wp2_with fail
    go_loopw [7, 26] (fun _ i wr => ∃ (k : Nat) (f : Lit → Option Value), i = .int .i64 k ∧ k ≤ D.mods.length ∧ MapIs wr Tryz.prog 9 w1.heap.size k f ∧ Hid ((∀ nm : Str, (∀ i m, i < k → D.mods[i]? = some m → m.name ≠ nm) → f (.string nm.data.toList) = none) ∧ ∀ i m, i < k → D.mods[i]? = some m → ∃ v, f (.string m.name.data.toList) = some v ∧ ModV w1 (fun b => b < w1.heap.size) m v) ∧ Keep (fun b => b ≠ w1.heap.size) WM wr) (fun _ i _ => D.mods.length - (intOf i).toNat)
    case atStart => exact ⟨0, _, rfl, by omega, hmk0, hide ⟨fun nm _ => rfl, fun i m hi => by omega⟩, Keep.refl _ _⟩
    case round =>
      clear hmk0 k1
      obtain ⟨k, fm, rfl, hk, HM, HF, hkr⟩ := hrel
      have hzr := hkr.size
      have hsm : Same (fun b => b < w1.heap.size) w1 wr := fun b hb => (hkr.block b (by omega) (by omega)).trans (hbM.block b hb)
      have HSM := hide hsm
      by_cases hlt : k < D.mods.length
      · obtain ⟨ad, hA, hc0, A4, c4, hc4, hl4, hm4, hs4⟩ := (hMs.same hsm).get hlt
        obtain ⟨ad', hA', _, A4', c4', hc4', hl4', hm4', hs4'⟩ := hMs.get hlt
        rw [hA] at hA'
        injection hA' with hA'
        subst hA'
        subst hA
        have e0 : wr.cell? (ad.add (k * 2)) = some (.string D.mods[k].name) := hc0.2
        have e1 : wr.cell? ⟨(ad.add (k * 2)).block, (ad.add (k * 2)).off + 1, none⟩ = some (.slice A4 D.mods[k].lines.length c4) := by have := hc4.2; rwa [add_pos _ _ (by omega)] at this
        have hsame : A4 = A4' ∧ c4 = c4' := by
          have h1 := hc4.2
          have h2 := hc4'.2
          have h3 : wr.cell? ((ad.add (k * kMod.size)).add 1) = w1.cell? ((ad.add (k * kMod.size)).add 1) := World.cell?_of_block (hsm _ hc4'.1)
          rw [h3, h2] at h1
          have h4 := Option.some.inj h1
          injection h4 with h5 _ h6
          exact ⟨h5.symm, h6.symm⟩
        obtain ⟨rfl, rfl⟩ := hsame
        have hmk := List.getElem?_eq_getElem hlt
        have hns : D.mods[k].name.size ≤ 60 := Nm.clean_short (by rw [HWK.out.clean _ (List.getElem_mem hlt)])
        have hmv : ModV w1 (fun b => b < w1.heap.size) D.mods[k] (.agg #[.string D.mods[k].name, .slice A4 D.mods[k].lines.length c4]) := ⟨A4, c4, rfl, hl4', hm4', hs4'⟩
        have HMK := hide hmk
        have HMV := hide hmv
        clear hc0 hc4 hs4 hc4' hs4' hmk hmv hl4 hl4' hm4 hm4'
        generalize D.mods[k] = m at e0 e1 hns HMK HMV
        obtain ⟨nm, ls⟩ := m
        replace hns : nm.size ≤ 60 := hns
        replace e0 : wr.cell? (ad.add (k * 2)) = some (.string nm) := e0
        have hba : Below wr.heap.size wr (wr.alloc (Obj.cells #[.string nm, .slice A4 ls.length c4] 75)) := by (repeat (first | with_reducible exact Below.refl _ _ | with_reducible assumption | with_reducible refine Below.alloc ?_ (by first | exact Nat.le_refl _ | exact Below.size (by assumption) | exact Nat.le_trans (Below.size (by assumption)) (by simp; done) | (simp; done) | (simp; omega) | omega) _ | with_reducible refine below_drewN ?_ _ | with_reducible refine Below.drew ?_ | with_reducible refine Below.setCell ?_ (by first | exact Nat.le_refl _ | (simp; done) | (simp; omega) | omega) _))
        have HMA := (HM.alloc (Obj.cells #[.string nm, .slice A4 ls.length c4] 75)).drewN 1
        have cgA := (hba.block (g) (by omega)).trans ((hkr.block (g) (by omega) (by omega)).trans HMB.out)
        have k4 : (wr.alloc (Obj.cells #[.string nm, .slice A4 ls.length c4] 75)).cell? ⟨g, 3, none⟩ = some (.map (some w1.heap.size)) := blk_cell cgA 3
        have hnA := heap_alloc_new wr (Obj.cells #[.string nm, .slice A4 ls.length c4] 75)
        have x0 : (wr.alloc (Obj.cells #[.string nm, .slice A4 ls.length c4] 75)).cell? ⟨wr.heap.size, 0, none⟩ = some (.string nm) := blk_cell hnA 0
        have x1 : (wr.alloc (Obj.cells #[.string nm, .slice A4 ls.length c4] 75)).cell? ⟨wr.heap.size, 1, none⟩ = some (.slice A4 ls.length c4) := blk_cell hnA 1
        have hkA := hkr.then (Keep.of_below (K := fun b => b ≠ w1.heap.size) hba) (fun b hb => hb)
        clear hsm HSM cgA hnA HM
        go_wp2_with fail
        generalize wr.alloc (Obj.cells #[.string nm, .slice A4 ls.length c4] 75) = WA at HMA k4 x0 x1 hkA ⊢
        go_still_tail 7, (by kernel_rfl)
        change wpList _ _ _ _ _ (World.drewN WA 1)
        go_wp2_with (at_mapUpdate; refine wpList_put rfl _ _ _ 69 rfl (string_keyed Tryz.underlying9) Tryz.underlying69 rfl HMA (by unfold maxLen; omega) (.string nm) (.agg #[.string nm, .slice A4 ls.length c4]) (.string nm.data.toList) rfl rfl (look_str_wf hns) trivial ?_; intro w5 HM5 HG5)
        have hk5 := hkA.then (Keep.of_grown (K := fun b => b ≠ w1.heap.size) (w := World.drewN WA 1) HG5 (fun b e hb => by injection e with e; omega) |> fun h => (⟨h.os, h.tape, h.output, h.size, h.block⟩ : Keep (fun b => b ≠ w1.heap.size) WA w5)) (fun b hb => hb)
        have hnew : (∀ nm' : Str, (∀ i m, i < k + 1 → D.mods[i]? = some m → m.name ≠ nm') → put fm (.string nm.data.toList) (.agg #[.string nm, .slice A4 ls.length c4]) (.string nm'.data.toList) = none) ∧ ∀ i m, i < k + 1 → D.mods[i]? = some m → ∃ v, put fm (.string nm.data.toList) (.agg #[.string nm, .slice A4 ls.length c4]) (.string m.name.data.toList) = some v ∧ ModV w1 (fun b => b < w1.heap.size) m v := by
          refine ⟨fun nm' h' => ?_, fun i m hi hmi => ?_⟩
          · have hne : nm' ≠ nm := fun e => h' k _ (by omega) HMK.out e.symm
            rw [put_other _ _ (fun e => hne (by injection e with e; exact Nm.bs_inj e))]
            exact HF.out.1 nm' (fun i m hi hmi => h' i m (by omega) hmi)
          · rcases Nat.lt_or_ge i k with h1 | h1
            · have hne : m.name ≠ nm := fun e => by
                have := HWK.out.uniq i k m _ hmi HMK.out e
                omega
              rw [put_other _ _ (fun e => hne (by injection e with e; exact Nm.bs_inj e))]
              exact HF.out.2 i m h1 hmi
            · obtain rfl : i = k := by omega
              rw [HMK.out] at hmi
              obtain rfl := Option.some.inj hmi
              exact ⟨_, put_same _ (kl := .string nm.data.toList) trivial _, HMV.out⟩
        have HNW := hide hnew
        clear hnew HG5 hkA k4 x0 x1 HMA
        go_wp2_with fail
        go_roundw
        case rel => exact ⟨k + 1, _, by go_num, by omega, HM5, HNW, hk5⟩
        case measure => simp [intOf]; omega
      · obtain rfl : k = D.mods.length := by omega
        have cBr := (hkr.block w.heap.size (by omega) (by omega)).trans ((hbM.block _ (by omega)).trans CB.out)
        have k2 : wr.cell? ⟨w.heap.size, 2, none⟩ = some (.slice A3 D.faults.length c3) := blk_cell cBr 2
        have hmf1 := hmf0.same (w' := wr) (hkr.block _ (by omega) (by omega))
        have hwr := HWL.out.same hsm
        obtain ⟨_, _, hFF⟩ := id hwr
        obtain ⟨A3', c3', hv3, _, _, hFs⟩ := hFF
        injection hv3 with hv3 _ hv3'
        subst hv3 hv3'
        have cgr := (hkr.block (g) (by omega) (by omega)).trans HMB.out
        have CGR := hide cgr
        have HMM := HM
        clear cBr hmf0 hwr cgr HM
        go_wp2_with fail
        obtain ⟨wo, rfl⟩ : ∃ wo : World, wo = wr := ⟨_, rfl⟩
        go_loopw [9, 41] (fun _ i wx => ∃ (k : Nat) (f : Lit → Option Value), i = .int .i64 k ∧ k ≤ D.faults.length ∧ MapIs wx Tryz.prog 3 (w1.heap.size + 1) k f ∧ Hid (∀ x : Int, f (.int .i64 x) = if x ∈ D.faults.take k then some (.bool true) else none) ∧ Keep (fun b => b ≠ w1.heap.size + 1) wo wx) (fun _ i _ => D.faults.length - (intOf i).toNat)
        case atStart => exact ⟨0, _, rfl, by omega, hmf1, hide (fun x => by simp), Keep.refl _ _⟩
        case round =>
          clear hmf1 k2
          obtain ⟨k, ff, rfl, hk, HM, HFF, hkx⟩ := hrel
          have hzx := hkx.size
          by_cases hlt : k < D.faults.length
          · obtain ⟨ad, hA, hc0⟩ := hFs.get hlt
            subst hA
            have hc1 : wo.cell? (ad.add k) = some (.int .i64 D.faults[k]) := by simpa [kInt] using hc0.2
            have e0 : wr.cell? (ad.add k) = some (.int .i64 D.faults[k]) := by
              have hb0 : (ad.add k).block < w1.heap.size := by have := hc0.1; rwa [block_add] at this ⊢
              rw [World.cell?_of_block (hkx.block _ (by omega) (by omega))]
              exact hc1
            have hrg := HWK.out.faults _ (List.getElem_mem hlt)
            have htk := List.take_succ_eq_append_getElem hlt
            have k4 : wr.cell? ⟨g, 4, none⟩ = some (.map (some (w1.heap.size + 1))) := blk_cell ((hkx.block (g) (by omega) (by omega)).trans CGR.out) 4
            have HTK := hide htk
            clear hc0 hc1 htk
            generalize D.faults[k] = x at e0 hrg HTK
            have HRG := hide hrg
            have hnew : ∀ y : Int, put ff (.int .i64 x) (.bool true) (.int .i64 y) = if y ∈ D.faults.take (k + 1) then some (.bool true) else none := fun y => by
              rw [HTK.out]
              by_cases hy : y = x
              · subst hy
                rw [put_same _ (kl := .int .i64 y) trivial _, if_pos (by simp)]
              · rw [put_other _ _ (fun e => hy (by injection e)), HFF.out y]
                by_cases hm' : y ∈ D.faults.take k
                · rw [if_pos hm', if_pos (by simp [hm'])]
                · rw [if_neg hm', if_neg (by simp [hm', hy])]
            have HNW := hide hnew
            clear hnew hrg
            go_wp2_with (at_mapUpdate; refine wpList_put rfl _ _ _ 70 rfl (int_keyed Tryz.underlying3) Tryz.underlying70 rfl HM (by unfold maxLen; omega) (.int .i64 x) (.bool true) (.int .i64 x) rfl rfl (look_fault_wf HRG.out) trivial ?_; intro w5 HM5 HG5)
            have hk5 := hkx.then (Keep.of_grown (K := fun b => b ≠ w1.heap.size + 1) HG5 (fun b e hb => by injection e with e; omega)) (fun b hb => hb)
            clear HG5 k4 HM e0
            go_wp2_with fail
            go_roundw
            case rel => exact ⟨k + 1, _, by go_num, by omega, HM5, HNW, hk5⟩
            case measure => simp [intOf]; omega
          · obtain rfl : k = D.faults.length := by omega
            have HFF2 := hide (show ∀ x : Int, ff (.int .i64 x) = if x ∈ D.faults then some (.bool true) else none from fun x => by rw [HFF.out x, List.take_length])
            have hsx : Same (fun b => b < w1.heap.size) w1 wr := fun b hb => (hkx.block b (by omega) (by omega)).trans (HSM.out b hb)
            have cgx := (hkx.block (g) (by omega) (by omega)).trans CGR.out
            have hno : ∀ (K : Nat → Prop) (b : Nat), (Value.slice none 0 0).ownBlock = some b → ¬ K b := fun K b e => by simp [Value.ownBlock] at e
            have hmlb : 3 < w1.heap.size := by
              obtain ⟨mm, hmm⟩ := hm
              have := World.block_lt_of_cell? _ _ hmm
              have := HBW.size
              simp only at *
              omega
            have hml1 : ML wr := (hm.below HBW).same (hsx _ hmlb)
            have hpin : PIn wr (fun b => b < g) (.slice A1 D.roots.length c1) (.slice A2 D.mods.length c2) (.slice A3 D.faults.length c3) w1.heap.size (w1.heap.size + 1) D := by
              have hmm2 := HMM.same (w' := wr) (hkx.block _ (by omega) (by omega))
              refine ⟨(HWL.out.same hsx).more (fun b hb => by omega), ⟨by show _ < _; omega, fm, _, hmm2, fun nm hno => HF.out.1 nm (fun i m hi hmi e => ?_), fun nm i m hmo hmi => ?_⟩, ⟨by show _ < _; omega, ff, _, HM, HFF2.out⟩, hml1, by show _ < _; omega⟩
              · have := List.findIdx?_eq_none_iff.1 hno m (List.mem_of_getElem? hmi)
                simp [e] at this
              · obtain ⟨m', hmi', hmn⟩ := Ld.modAt_some hmo
                rw [hmi] at hmi'
                obtain rfl := Option.some.inj hmi'
                have hil : i < D.mods.length := by
                  rcases Nat.lt_or_ge i D.mods.length with h | h
                  · exact h
                  · rw [List.getElem?_eq_none h] at hmi; simp at hmi
                obtain ⟨v, hv, hmv⟩ := HF.out.2 i m hil hmi
                rw [hmn] at hv
                exact ⟨v, hv, (hmv.same hsx).more (fun b hb => by omega)⟩
            have hpat : PAt wr (g) (fun b => b < g) (.slice A1 D.roots.length c1) (.slice A2 D.mods.length c2) (.slice A3 D.faults.length c3) w1.heap.size (w1.heap.size + 1) D Ld.St.start :=
              PAtV.pat (vc := .slice none 0 0) (vs := .slice none 0 0) (vr := .slice none 0 0) (vk := .slice none 0 0) ⟨⟨cgx, fun h => by omega, fun b hb => by omega, Own.nil _ _ _, hno _, Own.nil _ _ _, hno _, OwnR.nil _ _ _, hno _, Own.nil _ _ _, hno _, by decide⟩, hpin⟩
            have hkw : Keep (fun b => b < w1.heap.size) w1 wr := (Keep.of_below (K := fun b => b < w1.heap.size) hbM).then ((hkr.less (K' := fun b => b < w1.heap.size) (fun b hb => by omega)).then (hkx.less (K' := fun b => b < w1.heap.size) (fun b hb => by omega)) (fun b hb => hb)) (fun b hb => hb)
            have hBX : Below w.heap.size w wr := HBW.trans (hkw.below (B := w.heap.size) (fun b hb => by omega) (by omega))
            have cRx := (hsx (w.heap.size + 1) (by omega)).trans CR.out
            have HCR := hide cRx
            clear HM HMM HFF hkx hkw hsx cgx hpin hml1 hFs HWL cRx hmlb
            have hmain : (⟨#[109, 97, 105, 110]⟩ : Str) = Ld.mainName := rfl
            have hext := Ld.get_ok HDK.out.lines 40 [] rfl Ld.mainName name Ld.St.start 0 (Ld.start_good D HDK.out.mods) rfl
            have hget := pmachine_all (g) _ _ _ w1.heap.size (w1.heap.size + 1) D HDK.out 40 wr _ Ld.St.start 0 Ld.mainName name hpat (Ld.start_good D HDK.out.mods) rfl (by decide) hn
            rw [← hmain] at hget HQ2 hext
            generalize Ld.get D 40 ⟨#[109, 97, 105, 110]⟩ name Ld.St.start = gr at hget HQ2 hext
            obtain ⟨gn, gc, gs⟩ := gr
            have HQ3 := hide (show res = (gc, gs) from HQ2.out)
            have hnl : gs.states.map hid = gs.states := by
              have h1 : ∀ t ∈ gs.states, hid t = t := fun t ht => hid_other (fun h1 => by
                have h2 := hext.good.load t ht h1
                have h3 : gs.stack = [] := hext.stack
                rw [show (gn, gc, gs).2.2.stack = [] from h3] at h2
                simp at h2)
              conv => rhs; rw [← List.map_id gs.states]
              exact List.map_congr_left h1
            have HNL := hide hnl
            have HGET := hide hget
            clear hext hnl hget hpat
            go_wp2_with fail
            refine (unhide HGET).mono ?_
            rintro e w5 ⟨rfl, K5, hK5, ⟨vc, vs, vr, vk, hh, hin⟩, hk5⟩
            have hzx' := hk5.size
            have hB5 := hk5.below (B := g) (fun b hb => hb) (by omega)
            have c5 := (hk5.block (w.heap.size + 1) (show _ < _ by omega) (by omega)).trans HCR.out
            replace hh : Hold w5 (g) _ _ K5 vc vs vr vk gs.recs (gs.states.map hid) gs.rings gs.stack := hh
            rw [HNL.out] at hh
            obtain ⟨xA, xc, hx, _, _, _⟩ := hh.recs.slV
            subst hx
            obtain ⟨yA, yc, hy, _, _, _⟩ := hh.states.slV
            subst hy
            obtain ⟨zs, hzs, _⟩ := id hh.rings
            obtain ⟨zA, zc, hz'⟩ := row_form hzs
            subst hz'
            clear hzs
            have hset := hh.set 5 (.int .i64 gc)
            have hrep := hold_rep (s := gs) hset.1 (base := g) (fun b hb => hK5 b hb) (Nat.le_refl _)
            have hg3 := grown_set w5 (g) 5 (.int .i64 gc)
            have b0 := (hg3.block (w.heap.size + 1) (by have := hB5.size; omega) (by simp; omega)).trans c5
            have q0 : w5.cell? ⟨g, 5, none⟩ = some (.int .i64 0) := blk_cell hh.blk 5
            have f0 := blk_free hh.blk 5
            have hB6 : Below w.heap.size w (w5.setCell ⟨g, 5, none⟩ (.int .i64 gc)) := (hBX.trans (hB5.mono (by omega))).setCell (by show w.heap.size ≤ g; omega) _
            have hblk := hset.1.blk
            clear hset hh hg3 hin hk5 c5 HGET HCR
            go_upto_region 16 with fail
            generalize w5.setCell ⟨g, 5, none⟩ (.int .i64 gc) = W6 at hrep b0 hB6 hblk ⊢
            have m3 : W6.cell? ⟨g, 5, none⟩ = some (.int .i64 gc) := blk_cell hblk 5
            have m4 : W6.cell? ⟨g, 6, none⟩ = some (.slice xA gs.recs.length xc) := blk_cell hblk 6
            have m5 : W6.cell? ⟨g, 7, none⟩ = some (.slice yA gs.states.length yc) := blk_cell hblk 7
            have m6 : W6.cell? ⟨g, 8, none⟩ = some (.int .i64 gs.reads) := blk_cell hblk 8
            have m7 : W6.cell? ⟨g, 9, none⟩ = some (.slice zA gs.rings.length zc) := blk_cell hblk 9
            have r0 : W6.cell? ⟨w.heap.size + 1, 0, none⟩ = some (.int .i64 0) := blk_cell b0 0
            have r1' : W6.cell? ⟨w.heap.size + 1, 1, none⟩ = some (.slice none 0 0) := blk_cell b0 1
            have r2' : W6.cell? ⟨w.heap.size + 1, 2, none⟩ = some (.slice none 0 0) := blk_cell b0 2
            have r3' : W6.cell? ⟨w.heap.size + 1, 3, none⟩ = some (.int .i64 0) := blk_cell b0 3
            have r4' : W6.cell? ⟨w.heap.size + 1, 4, none⟩ = some (.slice none 0 0) := blk_cell b0 4
            have f0' := blk_free b0 0
            have f1 := blk_free b0 1
            have f2 := blk_free b0 2
            have f3 := blk_free b0 3
            have f4 := blk_free b0 4
            clear hblk q0 f0 b0
            go_wp2_with fail
            refine bodyPost_ret (v := .agg #[.int .i64 gc, .slice xA gs.recs.length xc, .slice yA gs.states.length yc, .int .i64 gs.reads, .slice zA gs.rings.length zc]) (by simp [results, Tryz.results9, go_sem, r0, r1', r2', r3', r4']) rfl ⟨_, _, _, by rw [HQ3.out], ?_, by (repeat (first | with_reducible exact Below.refl _ _ | with_reducible assumption | with_reducible refine Below.alloc ?_ (by first | exact Nat.le_refl _ | exact Below.size (by assumption) | exact Nat.le_trans (Below.size (by assumption)) (by simp; done) | (simp; done) | (simp; omega) | omega) _ | with_reducible refine below_drewN ?_ _ | with_reducible refine Below.drew ?_ | with_reducible refine Below.setCell ?_ (by first | exact Nat.le_refl _ | (simp; done) | (simp; omega) | omega) _))⟩
            rw [HQ3.out]
            refine (hrep.same' (fun b hb => ?_)).more (by omega)
            simp only [World.setCell]
            repeat rw [Array.getElem?_modify, if_neg (by omega)]
  · have hne := fun W => wrong_pos hr r2 r3 W
    have HQ2 := hide (HLO.out.trans (if_pos hr))
    clear hr HLO
    go_wp2_with fail
    refine bodyPost_ret (v := .agg #[.int .i64 (-1), .slice none 0 0, .slice none 0 0, .int .i64 0, .slice none 0 0]) (by simp [results, Tryz.results9, go_sem, r0, r1', r2', r3', r4']) rfl ⟨.slice none 0 0, .slice none 0 0, .slice none 0 0, by rw [HQ2.out]; rfl, by rw [HQ2.out]; exact RepAt.nil _ _, by (repeat (first | with_reducible exact Below.refl _ _ | with_reducible assumption | with_reducible refine Below.alloc ?_ (by first | exact Nat.le_refl _ | exact Below.size (by assumption) | exact Nat.le_trans (Below.size (by assumption)) (by simp; done) | (simp; done) | (simp; omega) | omega) _ | with_reducible refine below_drewN ?_ _ | with_reducible refine Below.drew ?_ | with_reducible refine Below.setCell ?_ (by first | exact Nat.le_refl _ | (simp; done) | (simp; omega) | omega) _))⟩
end Go.Proofs.YtkhlicmlnjccdaaGreatDoor
