/-
  Walk: the reference's WorldOk.
-/
import Derived.Test.YtkhlicmlnjccdaaGreatDoorKt16
import Derived.Test.YtkhlicmlnjccdaaGreatDoorKt3
import Derived.Deep.QuietTactic
import Derived.BigQuiet
namespace Go.Proofs.YtkhlicmlnjccdaaGreatDoor
open Go.RowKit Mem

namespace Nm
theorem named_empty {row : List Bs} {name : Bs} (h : (named row name).1 ≠ 0) : (named row name).2 = [] := by
  unfold named at h ⊢
  split
  · rfl
  · rename_i g1
    rw [if_neg g1] at h
    split
    · rfl
    · rename_i g2
      rw [if_neg g2] at h
      split
      · rfl
      · rename_i g3
        rw [if_neg g3] at h
        split
        · rfl
        · rename_i g4
          rw [if_neg g4] at h
          exact absurd rfl h
theorem clean_empty {s : Str} (h : (clean s).1 ≠ 0) : (clean s).2 = ⟨#[]⟩ := by
  unfold clean at h ⊢
  rw [named_empty h]; rfl
theorem clean_self {s q2 : Str} {q1 : Int} (h : clean s = (q1, q2)) (hq : q2 = s) (hs : s ≠ ⟨#[]⟩) : q1 = 0 := by
  by_cases h0 : q1 = 0
  · exact h0
  · have := clean_empty (s := s) (by rw [h]; exact h0)
    rw [h] at this
    exact absurd (hq.symm.trans this) hs
end Nm
namespace Wd
theorem metMod_yes {mods : List ModD} {k j : Nat} {m : ModD} {nm : Str} (hj : j < k) (hm : mods[j]? = some m) (hn : m.name = nm) : metMod mods k nm = true := by
  unfold metMod
  rw [List.any_eq_true]
  refine ⟨m, List.mem_of_getElem? (i := j) ?_, by simpa using hn⟩
  rw [List.getElem?_take, if_pos hj, hm]
theorem metMod_no {mods : List ModD} {k : Nat} {nm : Str} (h : ∀ j, j < k → ∀ m, mods[j]? = some m → m.name ≠ nm) : metMod mods k nm = false := by
  unfold metMod
  rw [List.any_eq_false]
  intro m hm
  obtain ⟨j, hj⟩ := List.getElem?_of_mem hm
  rw [List.getElem?_take] at hj
  split at hj
  · rename_i hjk
    simpa using h j hjk m hj
  · simp at hj
end Wd

set_option maxRecDepth 100000 in
set_option maxHeartbeats 4000000 in
theorem sWorldOk_calls (D : WorldD) (vR vM vF : Value) (S : Nat → Prop) (w : World) (h : WIn w S vR vM vF D) (hz : WSz D) :
    Calls Tryz.prog 22 #[.agg #[vR, vM, vF]] w (RetWrong w (Wd.worldOk D)) := by
  obtain ⟨⟨A1, c1, rfl, hc1, hd1, hR⟩, ⟨A2, c2, rfl, hc2, hd2, hM⟩, ⟨A3, c3, rfl, hc3, hd3, hF⟩⟩ := h
  unfold maxLen at hd1 hd2 hd3
  by_cases h1 : 60 < D.mods.length ∨ 8 < D.roots.length ∨ 400 < D.faults.length
  · have HQ := hide (Wd.worldOk_one h1)
    by_cases g1 : 60 < D.mods.length
    · clear h1
      go_enter Tryz.func22, Tryz.ntmps22
      go_wp2_with fail
      exact bodyPost_ret (v := .agg #[.int .i64 1, .int .i64 0, .int .i64 0]) (by simp [results, Tryz.results22, go_sem]) rfl ⟨by rw [HQ.out], by (repeat (first | with_reducible exact Below.refl _ _ | with_reducible assumption | with_reducible refine Below.alloc ?_ (by first | exact Nat.le_refl _ | exact Below.size (by assumption) | exact Nat.le_trans (Below.size (by assumption)) (by simp; done) | (simp; done) | (simp; omega) | omega) _ | with_reducible refine below_drewN ?_ _ | with_reducible refine Below.drew ?_ | with_reducible refine Below.setCell ?_ (by first | exact Nat.le_refl _ | (simp; done) | (simp; omega) | omega) _))⟩
    · by_cases g2 : 8 < D.roots.length
      · clear h1
        go_enter Tryz.func22, Tryz.ntmps22
        go_wp2_with fail
        exact bodyPost_ret (v := .agg #[.int .i64 1, .int .i64 0, .int .i64 0]) (by simp [results, Tryz.results22, go_sem]) rfl ⟨by rw [HQ.out], by (repeat (first | with_reducible exact Below.refl _ _ | with_reducible assumption | with_reducible refine Below.alloc ?_ (by first | exact Nat.le_refl _ | exact Below.size (by assumption) | exact Nat.le_trans (Below.size (by assumption)) (by simp; done) | (simp; done) | (simp; omega) | omega) _ | with_reducible refine below_drewN ?_ _ | with_reducible refine Below.drew ?_ | with_reducible refine Below.setCell ?_ (by first | exact Nat.le_refl _ | (simp; done) | (simp; omega) | omega) _))⟩
      · have g3 : 400 < D.faults.length := by omega
        clear h1
        go_enter Tryz.func22, Tryz.ntmps22
        go_wp2_with fail
        exact bodyPost_ret (v := .agg #[.int .i64 1, .int .i64 0, .int .i64 0]) (by simp [results, Tryz.results22, go_sem]) rfl ⟨by rw [HQ.out], by (repeat (first | with_reducible exact Below.refl _ _ | with_reducible assumption | with_reducible refine Below.alloc ?_ (by first | exact Nat.le_refl _ | exact Below.size (by assumption) | exact Nat.le_trans (Below.size (by assumption)) (by simp; done) | (simp; done) | (simp; omega) | omega) _ | with_reducible refine below_drewN ?_ _ | with_reducible refine Below.drew ?_ | with_reducible refine Below.setCell ?_ (by first | exact Nat.le_refl _ | (simp; done) | (simp; omega) | omega) _))⟩
  have H1 := hide h1
  have g1 : ¬ 60 < D.mods.length := fun e => h1 (.inl e)
  have g2 : ¬ 8 < D.roots.length := fun e => h1 (.inr (.inl e))
  have g3 : ¬ 400 < D.faults.length := fun e => h1 (.inr (.inr e))
  clear h1
  go_enter Tryz.func22, Tryz.ntmps22
  go_wp2_with fail
  generalize hW : (w.alloc (Obj.cells #[.slice A1 D.roots.length c1, .slice A2 D.mods.length c2, .slice A3 D.faults.length c3] 27)).alloc (Obj.cells #[.int .i64 0, .int .i64 0, .int .i64 0] 52) = W0
  have hbW : Below w.heap.size w W0 := by rw [← hW]; (repeat (first | with_reducible exact Below.refl _ _ | with_reducible assumption | with_reducible refine Below.alloc ?_ (by first | exact Nat.le_refl _ | exact Below.size (by assumption) | exact Nat.le_trans (Below.size (by assumption)) (by simp; done) | (simp; done) | (simp; omega) | omega) _ | with_reducible refine below_drewN ?_ _ | with_reducible refine Below.drew ?_ | with_reducible refine Below.setCell ?_ (by first | exact Nat.le_refl _ | (simp; done) | (simp; omega) | omega) _))
  obtain ⟨blkB, blkR, hW0⟩ := alloc_two w (Obj.cells #[.slice A1 D.roots.length c1, .slice A2 D.mods.length c2, .slice A3 D.faults.length c3] 27) (Obj.cells #[.int .i64 0, .int .i64 0, .int .i64 0] 52)
  rw [hW] at blkB blkR hW0
  clear hW
  have HBX := hide blkB
  have HR0 := hide blkR
  replace hW0 := Nat.le_of_eq hW0
  clear blkB blkR
  -- the roots
  go_loopw [4, 5, 37] (fun _ _ i wr => ∃ k : Nat, i = .int .i64 k ∧ k ≤ D.roots.length ∧ Hid (∀ j, j < k → Wd.badRoot D.roots j = false) ∧ Below W0.heap.size W0 wr) (fun _ _ i _ => D.roots.length - (intOf i).toNat)
  case atStart => exact ⟨0, rfl, by omega, hide (fun j hj => absurd hj (by omega)), Below.refl _ _⟩
  case round =>
    obtain ⟨k, rfl, hk, HX, HB⟩ := hrel
    by_cases hlt : k < D.roots.length
    · obtain ⟨ad, rfl, hc⟩ := ((hR.below hbW).below HB).get hlt
      have e1 : wr.cell? (ad.add k) = some (.string D.roots[k]) := by simpa [kStr] using hc.2
      have hbad := Wd.badRoot_at (List.getElem?_eq_getElem hlt)
      have hrs := hz.r D.roots[k] (List.getElem_mem _)
      clear hc
      generalize D.roots[k] = r at e1 hbad hrs
      have hcc := sClean_calls r wr (by omega)
      obtain ⟨q1, q2, hq⟩ : ∃ q1 q2, Nm.clean r = (q1, q2) := ⟨_, _, rfl⟩
      rw [hq] at hcc hbad
      replace hbad : Wd.badRoot D.roots k = (decide (r ≠ ⟨#[]⟩) && !(decide (q1 = 0) && decide (q2 = r))) := hbad
      have HCC := hide hcc
      clear hcc
      by_cases hr0 : r = ⟨#[]⟩
      · have e2 := tl_e hr0
        have HBD := hide (show Wd.badRoot D.roots k = false by rw [hbad]; simp [hr0])
        clear hbad hr0 hq
        go_wp2_with fail
        refine (unhide HCC).mono ?_
        rintro e w1 ⟨rfl, hb1⟩
        replace HB := below_then HB HB.size hb1
        clear hb1 HCC e1
        go_wp2_with fail
        go_roundw
        case rel =>
          refine ⟨k + 1, by go_num, by omega, hide (fun j hj => ?_), by (repeat (first | with_reducible exact Below.refl _ _ | with_reducible assumption | with_reducible refine Below.alloc ?_ (by first | exact Nat.le_refl _ | exact Below.size (by assumption) | exact Nat.le_trans (Below.size (by assumption)) (by simp; done) | (simp; done) | (simp; omega) | omega) _ | with_reducible refine below_drewN ?_ _ | with_reducible refine Below.drew ?_ | with_reducible refine Below.setCell ?_ (by first | exact Nat.le_refl _ | (simp; done) | (simp; omega) | omega) _))⟩
          rcases Nat.lt_or_ge j k with h | h
          · exact HX.out j h
          · obtain rfl : j = k := by omega
            exact HBD.out
        case measure => simp [intOf]; omega
      · have e2 := tl_n hr0
        by_cases hg : q2 = r
        · have hq0 := Nm.clean_self hq hg hr0
          have HBD := hide (show Wd.badRoot D.roots k = false by rw [hbad]; simp [hg, hq0])
          have e3 := nbeq_t hg
          clear hbad hr0 hg hq0 hq
          go_wp2_with fail
          refine (unhide HCC).mono ?_
          rintro e w1 ⟨rfl, hb1⟩
          replace HB := below_then HB HB.size hb1
          clear hb1 HCC e1
          go_wp2_with fail
          go_roundw
          case rel =>
            refine ⟨k + 1, by go_num, by omega, hide (fun j hj => ?_), by (repeat (first | with_reducible exact Below.refl _ _ | with_reducible assumption | with_reducible refine Below.alloc ?_ (by first | exact Nat.le_refl _ | exact Below.size (by assumption) | exact Nat.le_trans (Below.size (by assumption)) (by simp; done) | (simp; done) | (simp; omega) | omega) _ | with_reducible refine below_drewN ?_ _ | with_reducible refine Below.drew ?_ | with_reducible refine Below.setCell ?_ (by first | exact Nat.le_refl _ | (simp; done) | (simp; omega) | omega) _))⟩
            rcases Nat.lt_or_ge j k with h | h
            · exact HX.out j h
            · obtain rfl : j = k := by omega
              exact HBD.out
          case measure => simp [intOf]; omega
        · have hbd : Wd.badRoot D.roots k = true := by rw [hbad]; simp [hr0, hg]
          have HQ := hide (Wd.worldOk_two H1.out hlt HX.out hbd)
          have e3 := nbeq_f hg
          clear hbad hr0 hg hq hbd
          go_wp2_with fail
          refine (unhide HCC).mono ?_
          rintro e w1 ⟨rfl, hb1⟩
          replace HB := below_then HB HB.size hb1
          have HB1 : Below W0.heap.size W0 (w1.alloc (Obj.cells #[.int .i64 q1, .string q2] 102)) := by (repeat (first | with_reducible exact Below.refl _ _ | with_reducible assumption | with_reducible refine Below.alloc ?_ (by first | exact Nat.le_refl _ | exact Below.size (by assumption) | exact Nat.le_trans (Below.size (by assumption)) (by simp; done) | (simp; done) | (simp; omega) | omega) _ | with_reducible refine below_drewN ?_ _ | with_reducible refine Below.drew ?_ | with_reducible refine Below.setCell ?_ (by first | exact Nat.le_refl _ | (simp; done) | (simp; omega) | omega) _))
          have hbz := HB.size
          have hblk := (HB1.block _ (by omega)).trans HR0.out
          have r0 : (w1.alloc (Obj.cells #[.int .i64 q1, .string q2] 102)).cell? ⟨w.heap.size + 1, 0, none⟩ = some _ := blk_cell hblk 0
          have r1 : (w1.alloc (Obj.cells #[.int .i64 q1, .string q2] 102)).cell? ⟨w.heap.size + 1, 1, none⟩ = some _ := blk_cell hblk 1
          have r2 : (w1.alloc (Obj.cells #[.int .i64 q1, .string q2] 102)).cell? ⟨w.heap.size + 1, 2, none⟩ = some _ := blk_cell hblk 2
          have f0 := blk_free hblk 0
          have f1 := blk_free hblk 1
          have f2 := blk_free hblk 2
          clear hblk
          have hBB := below_then hbW hbW.size HB
          clear hb1 HCC e1 HB hbW HB1
          go_wp2_with fail
          exact bodyPost_ret (v := .agg #[.int .i64 2, .int .i64 0, .int .i64 0]) (by simp [results, Tryz.results22, go_sem, r0, r1, r2]) rfl ⟨by rw [HQ.out], by (repeat (first | with_reducible exact Below.refl _ _ | with_reducible assumption | with_reducible refine Below.alloc ?_ (by first | exact Nat.le_refl _ | exact Below.size (by assumption) | exact Nat.le_trans (Below.size (by assumption)) (by simp; done) | (simp; done) | (simp; omega) | omega) _ | with_reducible refine below_drewN ?_ _ | with_reducible refine Below.drew ?_ | with_reducible refine Below.setCell ?_ (by first | exact Nat.le_refl _ | (simp; done) | (simp; omega) | omega) _))⟩
    · obtain rfl : k = D.roots.length := by omega
      have hbx := (HB.block _ (by omega)).trans HBX.out
      have k1 : wr.cell? ⟨w.heap.size, 1, none⟩ = some _ := blk_cell hbx 1
      have k2 : wr.cell? ⟨w.heap.size, 2, none⟩ = some _ := blk_cell hbx 2
      clear hbx
      have hblk := (HB.block _ (by omega)).trans HR0.out
      have r0 : wr.cell? ⟨w.heap.size + 1, 0, none⟩ = some _ := blk_cell hblk 0
      have r1 : wr.cell? ⟨w.heap.size + 1, 1, none⟩ = some _ := blk_cell hblk 1
      have r2 : wr.cell? ⟨w.heap.size + 1, 2, none⟩ = some _ := blk_cell hblk 2
      have f0 := blk_free hblk 0
      have f1 := blk_free hblk 1
      have f2 := blk_free hblk 2
      clear hblk
      have hbz := HB.size
      have hBB := below_then hbW hbW.size HB
      go_wp2_with fail
      -- the faults
      go_loop [6, 8, 56] (fun la _ i => ∃ (k : Nat) (a : Int), i = .int .i64 k ∧ la = .int .i64 a ∧ k ≤ D.faults.length ∧ Hid (∀ j, j < k → Wd.badFault D.faults j = false) ∧ Hid ((k = 0 → a = -1) ∧ (0 < k → D.faults[k - 1]? = some a ∧ 0 ≤ a))) (fun _ _ i => D.faults.length - (intOf i).toNat)
      case atStart => exact ⟨0, -1, rfl, rfl, by omega, hide (fun j hj => absurd hj (by omega)), hide ⟨fun _ => rfl, fun h => absurd h (by omega)⟩⟩
      case round =>
        obtain ⟨k, a, rfl, rfl, hk, HY, HA⟩ := hrel
        by_cases hlt : k < D.faults.length
        · obtain ⟨ad, rfl, hc⟩ := ((hF.below hbW).below HB).get hlt
          have e1 : wr.cell? (ad.add k) = some (.int .i64 D.faults[k]) := by simpa [kInt] using hc.2
          have hbad := Wd.badFault_at (List.getElem?_eq_getElem hlt)
          have hfk := hide (List.getElem?_eq_getElem hlt)
          clear hc
          generalize D.faults[k] = f at e1 hbad hfk
          have hba : Wd.badFault D.faults k = (decide (f ≤ a) || decide (400 ≤ f)) := by
            rw [hbad]
            by_cases hk0 : k = 0
            · have := HA.out.1 hk0
              subst this
              rw [hk0]
              have : decide (f < 0) = decide (f ≤ -1) := by congr 1; exact propext ⟨fun h => by omega, fun h => by omega⟩
              simp [this]
            · have := HA.out.2 (by omega)
              rw [this.1]
              have hkp : decide (0 < k) = true := by simpa using (by omega : 0 < k)
              rw [hkp, Bool.true_and]
              by_cases g1 : f ≤ a
              · simp [g1]
              · have : ¬ f < 0 := by omega
                simp [g1, this]
          clear hbad
          by_cases u1 : f ≤ a
          · have HQ := hide (Wd.worldOk_three H1.out HX.out hlt HY.out (by rw [hba]; simp [u1]))
            clear hba
            go_wp2_with fail
            exact bodyPost_ret (v := .agg #[.int .i64 3, .int .i64 0, .int .i64 0]) (by simp [results, Tryz.results22, go_sem, r0, r1, r2]) rfl ⟨by rw [HQ.out], by (repeat (first | with_reducible exact Below.refl _ _ | with_reducible assumption | with_reducible refine Below.alloc ?_ (by first | exact Nat.le_refl _ | exact Below.size (by assumption) | exact Nat.le_trans (Below.size (by assumption)) (by simp; done) | (simp; done) | (simp; omega) | omega) _ | with_reducible refine below_drewN ?_ _ | with_reducible refine Below.drew ?_ | with_reducible refine Below.setCell ?_ (by first | exact Nat.le_refl _ | (simp; done) | (simp; omega) | omega) _))⟩
          by_cases u2 : 400 ≤ f
          · have HQ := hide (Wd.worldOk_three H1.out HX.out hlt HY.out (by rw [hba]; simp [u2]))
            clear hba
            go_wp2_with fail
            exact bodyPost_ret (v := .agg #[.int .i64 3, .int .i64 0, .int .i64 0]) (by simp [results, Tryz.results22, go_sem, r0, r1, r2]) rfl ⟨by rw [HQ.out], by (repeat (first | with_reducible exact Below.refl _ _ | with_reducible assumption | with_reducible refine Below.alloc ?_ (by first | exact Nat.le_refl _ | exact Below.size (by assumption) | exact Nat.le_trans (Below.size (by assumption)) (by simp; done) | (simp; done) | (simp; omega) | omega) _ | with_reducible refine below_drewN ?_ _ | with_reducible refine Below.drew ?_ | with_reducible refine Below.setCell ?_ (by first | exact Nat.le_refl _ | (simp; done) | (simp; omega) | omega) _))⟩
          have HBD := hide (show Wd.badFault D.faults k = false by rw [hba]; simp [u1, u2])
          have HP := hide (show (k + 1 = 0 → f = -1) ∧ (0 < k + 1 → D.faults[k + 1 - 1]? = some f ∧ 0 ≤ f) from ⟨fun h => absurd h (by omega), fun _ => ⟨hfk.out, by
            by_cases hk0 : k = 0
            · have := HA.out.1 hk0; omega
            · have := (HA.out.2 (by omega)).2; omega⟩⟩)
          clear hba hfk
          go_wp2_with fail
          go_round
          case rel =>
            refine ⟨k + 1, f, by go_num, rfl, by omega, hide (fun j hj => ?_), HP⟩
            rcases Nat.lt_or_ge j k with h | h
            · exact HY.out j h
            · obtain rfl : j = k := by omega
              exact HBD.out
          case measure => simp [intOf]; omega
        · obtain rfl : k = D.faults.length := by omega
          clear k2 r0 r1 r2 f0 f1 f2
          go_wp2_with fail
          clear k1
          obtain ⟨wo, rfl⟩ : ∃ wo : World, wo = wr := ⟨_, rfl⟩
          -- the modules
          go_loopw [9, 10, 11, 12, 73] (fun _ _ _ _ i wr => ∃ (k : Nat), i = .int .i64 k ∧ k ≤ D.mods.length ∧ Hid (∀ j, j < k → Wd.badMod D.mods j = false) ∧ Below wo.heap.size wo wr) (fun _ _ _ _ i _ => D.mods.length - (intOf i).toNat)
          case atStart => exact ⟨0, rfl, by omega, hide (fun j hj => absurd hj (by omega)), Below.refl _ _⟩
          case round =>
            obtain ⟨k, rfl, hk, HZ, HD⟩ := hrel
            have HD0 := below_then hBB hBB.size HD
            by_cases hlt : k < D.mods.length
            · obtain ⟨ad, hA, hc0, A4, c4, hc4, hl4, hm4, hs4⟩ := (hM.below HD0).get hlt
              subst hA
              have e1 : wr.cell? (ad.add (k * 2)) = some (.string D.mods[k].name) := hc0.2
              have e2 : wr.cell? ⟨(ad.add (k * 2)).block, (ad.add (k * 2)).off + 1, none⟩ = some (.slice A4 D.mods[k].lines.length c4) := by have := hc4.2; rwa [add_pos _ _ (by omega)] at this
              have hbad := Wd.badMod_at (List.getElem?_eq_getElem hlt)
              have hrs := hz.m D.mods[k] (List.getElem_mem _)
              clear hc0 hc4 hs4
              have HMK := hide (List.getElem?_eq_getElem hlt)
              generalize D.mods[k] = m at e1 e2 hbad hrs hl4 HMK
              obtain ⟨nm, ls⟩ := m
              replace hrs : nm.size ≤ 1048576 := hrs
              replace hbad : Wd.badMod D.mods k = (!(decide ((Nm.clean nm).1 = 0) && decide ((Nm.clean nm).2 = nm)) || Wd.metMod D.mods k nm || decide (60 < ls.length)) := hbad
              replace e1 : wr.cell? (ad.add (k * 2)) = some (.string nm) := e1
              obtain ⟨q1, q2, hq⟩ : ∃ q1 q2, Nm.clean nm = (q1, q2) := ⟨_, _, rfl⟩
              have hcc := fun w' : World => sClean_calls nm w' (by omega)
              rw [hq] at hcc hbad
              replace hbad : Wd.badMod D.mods k = (!(decide (q1 = 0) && decide (q2 = nm)) || Wd.metMod D.mods k nm || decide (60 < ls.length)) := hbad
              have HCC := hide hcc
              clear hcc hq
              go_wp2_with fail
              refine (HCC.out _).mono ?_
              rintro e w5 ⟨rfl, hb5⟩
              have n0 : w5.cell? ⟨wr.heap.size, 0, none⟩ = some (.string nm) := blk_cell (blk_new hb5) 0
              have n1 : w5.cell? ⟨wr.heap.size, 1, none⟩ = some (.slice A4 ls.length c4) := blk_cell (blk_new hb5) 1
              have zz5 := below_size hb5
              have HD5 : Below wo.heap.size wo w5 := below_then (HD.alloc HD.size _) (by have := HD.size; simp; omega) hb5
              have HD50 := below_then hBB hBB.size HD5
              have HB5 := below_then HB HB.size HD5
              have z5 := HD50.size
              have zo5 := HD5.size
              clear hb5 HCC e1 e2 HD HD0
              have hbx := (HB5.block _ (by omega)).trans HBX.out
              have n0' : (w5.alloc (Obj.cells #[.int .i64 q1, .string q2] 102)).cell? ⟨wr.heap.size, 0, none⟩ = some (.string nm) := (World.cell?_of_block (alloc_old w5 _ (by show wr.heap.size < _; omega))).trans n0
              have n1' : (w5.alloc (Obj.cells #[.int .i64 q1, .string q2] 102)).cell? ⟨wr.heap.size, 1, none⟩ = some (.slice A4 ls.length c4) := (World.cell?_of_block (alloc_old w5 _ (by show wr.heap.size < _; omega))).trans n1
              have k1 : (w5.alloc (Obj.cells #[.int .i64 q1, .string q2] 102)).cell? ⟨w.heap.size, 1, none⟩ = some _ := blk_cell ((alloc_old w5 _ (by omega)).trans hbx) 1
              have HBA : Below W0.heap.size W0 (w5.alloc (Obj.cells #[.int .i64 q1, .string q2] 102)) := HB5.alloc HB5.size _
              have HDA : Below wo.heap.size wo (w5.alloc (Obj.cells #[.int .i64 q1, .string q2] 102)) := HD5.alloc HD5.size _
              have hblk := (HBA.block _ (by omega)).trans HR0.out
              have r0 : (w5.alloc (Obj.cells #[.int .i64 q1, .string q2] 102)).cell? ⟨w.heap.size + 1, 0, none⟩ = some _ := blk_cell hblk 0
              have r1 : (w5.alloc (Obj.cells #[.int .i64 q1, .string q2] 102)).cell? ⟨w.heap.size + 1, 1, none⟩ = some _ := blk_cell hblk 1
              have r2 : (w5.alloc (Obj.cells #[.int .i64 q1, .string q2] 102)).cell? ⟨w.heap.size + 1, 2, none⟩ = some _ := blk_cell hblk 2
              have f0 := blk_free hblk 0
              have f1 := blk_free hblk 1
              have f2 := blk_free hblk 2
              clear hblk
              clear n0 n1 hbx
              by_cases hc0 : q1 = 0
              · subst hc0
                by_cases hc1 : q2 = nm
                · have e3 := nbeq_t hc1
                  by_cases hll : 60 < ls.length
                  · have HQ := hide (Wd.worldOk_four H1.out HX.out HY.out hlt HZ.out (by rw [hbad]; simp [hll]))
                    have hlI : (60 : Int) < ls.length := by omega
                    clear hbad hc1
                    go_wp2_with fail
                    exact bodyPost_ret (v := .agg #[.int .i64 4, .int .i64 k, .int .i64 0]) (by simp [results, Tryz.results22, go_sem, r0, r1, r2]) rfl ⟨by rw [HQ.out], by (repeat (first | with_reducible exact Below.refl _ _ | with_reducible assumption | with_reducible refine Below.alloc ?_ (by first | exact Nat.le_refl _ | exact Below.size (by assumption) | exact Nat.le_trans (Below.size (by assumption)) (by simp; done) | (simp; done) | (simp; omega) | omega) _ | with_reducible refine below_drewN ?_ _ | with_reducible refine Below.drew ?_ | with_reducible refine Below.setCell ?_ (by first | exact Nat.le_refl _ | (simp; done) | (simp; omega) | omega) _))⟩
                  · have hlI : (ls.length : Int) ≤ 60 := by omega
                    have hbm : Wd.badMod D.mods k = Wd.metMod D.mods k nm := by rw [hbad]; simp [hc1, hll]
                    have HBM := hide hbm
                    clear hbad hc1 hbm hll
                    go_wp2_with fail
                    generalize hWA : w5.alloc (Obj.cells #[.int .i64 0, .string q2] 102) = WA at *
                    clear hWA
                    go_loopw [12] (fun i wr => ∃ (q n : Nat), i = .int .i64 q ∧ q ≤ k ∧ Hid (∀ j, j < q → ∀ m, D.mods[j]? = some m → m.name ≠ nm) ∧ wr = WA.drewN n) (fun i _ => k - (intOf i).toNat)
                    case atStart => exact ⟨0, 0, rfl, by omega, hide (fun j hj => absurd hj (by omega)), rfl⟩
                    case round =>
                      obtain ⟨q, nq, rfl, hq, HN, rfl⟩ := hrel
                      by_cases hqk : q < k
                      · have HDA0 := below_then hBB hBB.size HDA
                        obtain ⟨ad2, hA2, hq0, _⟩ := (hM.below HDA0).get (show q < D.mods.length by omega)
                        injection hA2 with hA2
                        subst hA2
                        have g1' : WA.cell? (ad.add (q * 2)) = some (.string D.mods[q].name) := hq0.2
                        have hqL : q < D.mods.length := by omega
                        have hqI : (q : Int) < D.mods.length := by omega
                        have hqm := hide (List.getElem?_eq_getElem (show q < D.mods.length by omega))
                        generalize D.mods[q] = mq at g1' hqm
                        obtain ⟨nq', lq⟩ := mq
                        replace g1' : WA.cell? (ad.add (q * 2)) = some (.string nq') := g1'
                        clear hq0
                        by_cases hsame : nq' = nm
                        · have e4 := beq_t hsame
                          have HQ := hide (Wd.worldOk_four H1.out HX.out HY.out hlt HZ.out (HBM.out.trans (Wd.metMod_yes hqk hqm.out hsame)))
                          clear hsame
                          go_wp2_with fail
                          go_quiet (fail)
                          go_wp2_with fail
                          exact bodyPost_ret (v := .agg #[.int .i64 4, .int .i64 k, .int .i64 0]) (by simp [results, Tryz.results22, go_sem, r0, r1, r2]) rfl ⟨by rw [HQ.out], by (repeat (first | with_reducible exact Below.refl _ _ | with_reducible assumption | with_reducible refine Below.alloc ?_ (by first | exact Nat.le_refl _ | exact Below.size (by assumption) | exact Nat.le_trans (Below.size (by assumption)) (by simp; done) | (simp; done) | (simp; omega) | omega) _ | with_reducible refine below_drewN ?_ _ | with_reducible refine Below.drew ?_ | with_reducible refine Below.setCell ?_ (by first | exact Nat.le_refl _ | (simp; done) | (simp; omega) | omega) _))⟩
                        · have e4 := beq_f hsame
                          have HS := hide hsame
                          clear hsame
                          go_wp2_with fail
                          go_quiet (fail)
                          go_wp2_with fail
                          go_roundw
                          case rel =>
                            refine ⟨q + 1, _, by go_num, by omega, hide (fun j hj m hm => ?_), by first | rfl | exact World.drewN_drewN ..⟩
                            rcases Nat.lt_or_ge j q with h | h
                            · exact HN.out j h m hm
                            · obtain rfl : j = q := by omega
                              rw [hqm.out] at hm
                              obtain rfl := Option.some.inj hm
                              exact HS.out
                          case measure => simp [intOf]; omega
                      · obtain rfl : q = k := by omega
                        have HBB := hide (HBM.out.trans (Wd.metMod_no HN.out))
                        go_wp2_with fail
                        go_roundw
                        case rel =>
                          refine ⟨q + 1, by go_num, by omega, hide (fun j hj => ?_), below_drewN HDA _⟩
                          rcases Nat.lt_or_ge j q with h | h
                          · exact HZ.out j h
                          · obtain rfl : j = q := by omega
                            exact HBB.out
                        case measure => simp [intOf]; omega
                · have e3 := nbeq_f hc1
                  have HQ := hide (Wd.worldOk_four H1.out HX.out HY.out hlt HZ.out (by rw [hbad]; simp [hc1]))
                  clear hbad hc1
                  go_wp2_with fail
                  exact bodyPost_ret (v := .agg #[.int .i64 4, .int .i64 k, .int .i64 0]) (by simp [results, Tryz.results22, go_sem, r0, r1, r2]) rfl ⟨by rw [HQ.out], by (repeat (first | with_reducible exact Below.refl _ _ | with_reducible assumption | with_reducible refine Below.alloc ?_ (by first | exact Nat.le_refl _ | exact Below.size (by assumption) | exact Nat.le_trans (Below.size (by assumption)) (by simp; done) | (simp; done) | (simp; omega) | omega) _ | with_reducible refine below_drewN ?_ _ | with_reducible refine Below.drew ?_ | with_reducible refine Below.setCell ?_ (by first | exact Nat.le_refl _ | (simp; done) | (simp; omega) | omega) _))⟩
              · have e3 : (q1 != 0) = true := by simpa using hc0
                have HQ := hide (Wd.worldOk_four H1.out HX.out HY.out hlt HZ.out (by rw [hbad]; simp [hc0]))
                clear hbad hc0
                go_wp2_with fail
                exact bodyPost_ret (v := .agg #[.int .i64 4, .int .i64 k, .int .i64 0]) (by simp [results, Tryz.results22, go_sem, r0, r1, r2]) rfl ⟨by rw [HQ.out], by (repeat (first | with_reducible exact Below.refl _ _ | with_reducible assumption | with_reducible refine Below.alloc ?_ (by first | exact Nat.le_refl _ | exact Below.size (by assumption) | exact Nat.le_trans (Below.size (by assumption)) (by simp; done) | (simp; done) | (simp; omega) | omega) _ | with_reducible refine below_drewN ?_ _ | with_reducible refine Below.drew ?_ | with_reducible refine Below.setCell ?_ (by first | exact Nat.le_refl _ | (simp; done) | (simp; omega) | omega) _))⟩
            · obtain rfl : k = D.mods.length := by omega
              have HDB := below_then HB HB.size HD
              have hbx := (HDB.block _ (by omega)).trans HBX.out
              have k1 : wr.cell? ⟨w.heap.size, 1, none⟩ = some _ := blk_cell hbx 1
              clear hbx
              go_wp2_with fail
              clear k1
              obtain ⟨wl, rfl⟩ : ∃ wl : World, wl = wr := ⟨_, rfl⟩
              -- the lines
              go_loopw [13, 14, 119] (fun _ _ i wr => ∃ (k : Nat), i = .int .i64 k ∧ k ≤ D.mods.length ∧ Hid (∀ j, j < k → Wd.badLineOf D.mods j = none) ∧ Below wl.heap.size wl wr) (fun _ _ i _ => D.mods.length - (intOf i).toNat)
              case atStart => exact ⟨0, rfl, by omega, hide (fun j hj => absurd hj (by omega)), Below.refl _ _⟩
              case round =>
                obtain ⟨k, rfl, hk, HL, HE⟩ := hrel
                have HE0 := below_then HD0 HD0.size HE
                by_cases hlt : k < D.mods.length
                · obtain ⟨ad, hA, hc0, A4, c4, hc4, hl4, hm4, hs4⟩ := (hM.below HE0).get hlt
                  subst hA
                  have e1 : wr.cell? (ad.add (k * 2)) = some (.string D.mods[k].name) := hc0.2
                  have e2 : wr.cell? ⟨(ad.add (k * 2)).block, (ad.add (k * 2)).off + 1, none⟩ = some (.slice A4 D.mods[k].lines.length c4) := by have := hc4.2; rwa [add_pos _ _ (by omega)] at this
                  have HMK := hide (List.getElem?_eq_getElem hlt)
                  have hnb := HZ.out k hlt
                  rw [Wd.badMod_at (List.getElem?_eq_getElem hlt)] at hnb
                  have hle : D.mods[k].lines.length ≤ 60 := by
                    have : decide (60 < D.mods[k].lines.length) = false := by
                      cases h60 : decide (60 < D.mods[k].lines.length)
                      · rfl
                      · rw [h60] at hnb; simp at hnb
                    simpa using this
                  clear hc0 hc4 hnb
                  generalize D.mods[k] = m at e1 e2 hl4 hs4 HMK hle
                  obtain ⟨nm, ls⟩ := m
                  replace e1 : wr.cell? (ad.add (k * 2)) = some (.string nm) := e1
                  replace hs4 : Sl kLine wr S A4 ls := hs4
                  replace hle : ls.length ≤ 60 := hle
                  go_wp2_with fail
                  generalize hW : wr.alloc (Obj.cells #[.string nm, .slice A4 ls.length c4] 75) = W
                  have BW : Below wr.heap.size wr W := by rw [← hW]; (repeat (first | with_reducible exact Below.refl _ _ | with_reducible assumption | with_reducible refine Below.alloc ?_ (by first | exact Nat.le_refl _ | exact Below.size (by assumption) | exact Nat.le_trans (Below.size (by assumption)) (by simp; done) | (simp; done) | (simp; omega) | omega) _ | with_reducible refine below_drewN ?_ _ | with_reducible refine Below.drew ?_ | with_reducible refine Below.setCell ?_ (by first | exact Nat.le_refl _ | (simp; done) | (simp; omega) | omega) _))
                  have HBK := hide (show W.heap[wr.heap.size]? = some (Obj.cells #[.string nm, .slice A4 ls.length c4] 75 (0, 0)) by rw [← hW]; exact heap_alloc_new wr _)
                  have hlW : wr.heap.size + 1 ≤ W.heap.size := by rw [← hW]; simp
                  have hsW := hs4.below BW
                  have HEW := below_then HE HE.size BW
                  have zE := HE.size
                  clear hW e1 e2 BW HE HE0 hs4
                  have m1 : W.cell? ⟨wr.heap.size, 1, none⟩ = some (.slice A4 ls.length c4) := blk_cell HBK.out 1
                  go_wp2_with fail
                  clear m1
                  obtain ⟨wm, rfl⟩ : ∃ wm : World, wm = wr := ⟨_, rfl⟩
                  go_loopw [15, 16, 127] (fun _ _ i wr => ∃ (q : Nat), i = .int .i64 q ∧ q ≤ ls.length ∧ Hid (∀ j, j < q → Wd.badLineAt ⟨nm, ls⟩ j = false) ∧ Below W.heap.size W wr) (fun _ _ i _ => ls.length - (intOf i).toNat)
                  case atStart => exact ⟨0, rfl, by omega, hide (fun j hj => absurd hj (by omega)), Below.refl _ _⟩
                  case round =>
                    obtain ⟨q, rfl, hq, HK, HG⟩ := hrel
                    have HGL := below_then HEW HEW.size HG
                    have HG0 := below_then HD0 HD0.size HGL
                    by_cases hql : q < ls.length
                    · obtain ⟨al, hA, l0, l1, l2, l3⟩ := (hsW.below HG).get hql
                      subst hA
                      have e0 : wr.cell? (al.add (q * 4)) = some (.int .i64 ls[q].op) := l0.2
                      have e1 : wr.cell? ⟨(al.add (q * 4)).block, (al.add (q * 4)).off + 1, none⟩ = some (.string ls[q].name) := by have := l1.2; rwa [add_pos _ _ (by omega)] at this
                      have e2 : wr.cell? ⟨(al.add (q * 4)).block, (al.add (q * 4)).off + 2, none⟩ = some (.int .i64 ls[q].num) := by have := l2.2; rwa [add_pos _ _ (by omega)] at this
                      have e3 : wr.cell? ⟨(al.add (q * 4)).block, (al.add (q * 4)).off + 3, none⟩ = some (.int .i64 ls[q].skip) := by have := l3.2; rwa [add_pos _ _ (by omega)] at this
                      have hbl := Wd.badLineAt_at (m := ⟨nm, ls⟩) (List.getElem?_eq_getElem hql)
                      clear l0 l1 l2 l3
                      replace hbl : Wd.badLineAt ⟨nm, ls⟩ q = !Wd.lineOk ls[q] ((ls.length : Int) - q - 1) := hbl
                      generalize ls[q] = l at e0 e1 e2 e3 hbl
                      have zG := HG.size
                      have b0 : (wr.alloc (Obj.cells #[.int .i64 l.op, .string l.name, .int .i64 l.num, .int .i64 l.skip] 106)).cell? ⟨wm.heap.size, 0, none⟩ = some _ := blk_cell ((alloc_old wr _ (by omega)).trans ((HG.block _ hlW).trans HBK.out)) 0
                      have b1 : (wr.alloc (Obj.cells #[.int .i64 l.op, .string l.name, .int .i64 l.num, .int .i64 l.skip] 106)).cell? ⟨wm.heap.size, 1, none⟩ = some _ := blk_cell ((alloc_old wr _ (by omega)).trans ((HG.block _ hlW).trans HBK.out)) 1
                      by_cases hok : Wd.lineOk l ((ls.length : Int) - q - 1) = true
                      · have HOK := hide hok
                        have HBL := hide (show Wd.badLineAt ⟨nm, ls⟩ q = false by rw [hbl, hok]; rfl)
                        clear hbl hok
                        go_wp2_with fail
                        refine (l2line_calls nm (some al) ls.length c4 l q _ (by unfold maxLen; omega) hql).mono ?_
                        rw [HOK.out]
                        rintro e w6 ⟨rfl, hb6⟩
                        have HG6 : Below W.heap.size W w6 := below_then (HG.alloc HG.size _) (by simp; omega) hb6
                        clear hb6 b0 b1 e0 e1 e2 e3 HG
                        go_wp2_with fail
                        go_roundw
                        case rel =>
                          refine ⟨q + 1, by go_num, by omega, hide (fun j hj => ?_), HG6⟩
                          rcases Nat.lt_or_ge j q with h | h
                          · exact HK.out j h
                          · obtain rfl : j = q := by omega
                            exact HBL.out
                        case measure => simp [intOf]; omega
                      · have hok : Wd.lineOk l ((ls.length : Int) - q - 1) = false := by simpa using hok
                        have HOK := hide hok
                        have hbl1 : Wd.badLineAt ⟨nm, ls⟩ q = true := by rw [hbl, hok]; rfl
                        have HQ := hide (Wd.worldOk_five H1.out HX.out HY.out HZ.out HMK.out HL.out hql HK.out hbl1)
                        clear hbl hok hbl1
                        go_wp2_with fail
                        refine (l2line_calls nm (some al) ls.length c4 l q _ (by unfold maxLen; omega) hql).mono ?_
                        rw [HOK.out]
                        rintro e w6 ⟨rfl, hb6⟩
                        have HG6 : Below W.heap.size W w6 := below_then (HG.alloc HG.size _) (by simp; omega) hb6
                        have HGL6 := below_then HEW HEW.size HG6
                        have HG06 := below_then HD0 HD0.size HGL6
                        have HB06 := below_then HDB HDB.size HGL6
                        have z6 := HGL6.size
                        have hblk := (HB06.block _ (by omega)).trans HR0.out
                        have r0 : w6.cell? ⟨w.heap.size + 1, 0, none⟩ = some _ := blk_cell hblk 0
                        have r1 : w6.cell? ⟨w.heap.size + 1, 1, none⟩ = some _ := blk_cell hblk 1
                        have r2 : w6.cell? ⟨w.heap.size + 1, 2, none⟩ = some _ := blk_cell hblk 2
                        have f0 := blk_free hblk 0
                        have f1 := blk_free hblk 1
                        have f2 := blk_free hblk 2
                        clear hblk
                        clear hb6 b0 b1 e0 e1 e2 e3 HG HGL HG0 HG6
                        go_wp2_with fail
                        exact bodyPost_ret (v := .agg #[.int .i64 5, .int .i64 k, .int .i64 q]) (by simp [results, Tryz.results22, go_sem, r0, r1, r2]) rfl ⟨by rw [HQ.out], by (repeat (first | with_reducible exact Below.refl _ _ | with_reducible assumption | with_reducible refine Below.alloc ?_ (by first | exact Nat.le_refl _ | exact Below.size (by assumption) | exact Nat.le_trans (Below.size (by assumption)) (by simp; done) | (simp; done) | (simp; omega) | omega) _ | with_reducible refine below_drewN ?_ _ | with_reducible refine Below.drew ?_ | with_reducible refine Below.setCell ?_ (by first | exact Nat.le_refl _ | (simp; done) | (simp; omega) | omega) _))⟩
                    · obtain rfl : q = ls.length := by omega
                      go_wp2_with fail
                      go_roundw
                      case rel =>
                        refine ⟨k + 1, by go_num, by omega, hide (fun j hj => ?_), HGL⟩
                        rcases Nat.lt_or_ge j k with h | h
                        · exact HL.out j h
                        · obtain rfl : j = k := by omega
                          unfold Wd.badLineOf
                          rw [HMK.out]
                          exact Wd.first_none HK.out
                      case measure => simp [intOf]; omega
                · obtain rfl : k = D.mods.length := by omega
                  have HQ := hide (Wd.worldOk_zero H1.out HX.out HY.out HZ.out HL.out)
                  have HBE := below_then HDB HDB.size HE
                  have zE := HE.size
                  have hblk := (HBE.block _ (by omega)).trans HR0.out
                  have r0 : wr.cell? ⟨w.heap.size + 1, 0, none⟩ = some _ := blk_cell hblk 0
                  have r1 : wr.cell? ⟨w.heap.size + 1, 1, none⟩ = some _ := blk_cell hblk 1
                  have r2 : wr.cell? ⟨w.heap.size + 1, 2, none⟩ = some _ := blk_cell hblk 2
                  have f0 := blk_free hblk 0
                  have f1 := blk_free hblk 1
                  have f2 := blk_free hblk 2
                  clear hblk
                  go_wp2_with fail
                  exact bodyPost_ret (v := .agg #[.int .i64 0, .int .i64 0, .int .i64 0]) (by simp [results, Tryz.results22, go_sem, r0, r1, r2]) rfl ⟨by rw [HQ.out], by (repeat (first | with_reducible exact Below.refl _ _ | with_reducible assumption | with_reducible refine Below.alloc ?_ (by first | exact Nat.le_refl _ | exact Below.size (by assumption) | exact Nat.le_trans (Below.size (by assumption)) (by simp; done) | (simp; done) | (simp; omega) | omega) _ | with_reducible refine below_drewN ?_ _ | with_reducible refine Below.drew ?_ | with_reducible refine Below.setCell ?_ (by first | exact Nat.le_refl _ | (simp; done) | (simp; omega) | omega) _))⟩
end Go.Proofs.YtkhlicmlnjccdaaGreatDoor
