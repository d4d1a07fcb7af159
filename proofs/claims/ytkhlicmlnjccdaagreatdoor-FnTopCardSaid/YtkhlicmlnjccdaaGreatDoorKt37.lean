/-
  Walk: the program's WorldOk.
-/
import Derived.Test.YtkhlicmlnjccdaaGreatDoorKt16
import Derived.Test.YtkhlicmlnjccdaaGreatDoorKt5
import Derived.Deep.RegionHeld3
import Derived.Deep.DeepCutAuto
import Derived.StringKeys
namespace Go.Proofs.YtkhlicmlnjccdaaGreatDoor
open Go.RowKit Mem Go.Maps Go.ChangeMaps Go.WideMaps

set_option maxRecDepth 100000 in
set_option maxHeartbeats 4000000 in
theorem iWorldOk_calls (D : WorldD) (vR vM vF : Value) (S : Nat → Prop) (w : World) (h : WIn w S vR vM vF D) (hz : WSz D) (hm : ML w) :
    Calls Tryz.prog 21 #[.agg #[vR, vM, vF]] w (RetWrong w (Wd.worldOk D)) := by
  obtain ⟨⟨A1, c1, rfl, hc1, hd1, hR⟩, ⟨A2, c2, rfl, hc2, hd2, hM⟩, ⟨A3, c3, rfl, hc3, hd3, hF⟩⟩ := h
  unfold maxLen at hd1 hd2 hd3
  by_cases h1 : 60 < D.mods.length ∨ 8 < D.roots.length ∨ 400 < D.faults.length
  · have HQ := hide (Wd.worldOk_one h1)
    by_cases g1 : 60 < D.mods.length
    · clear h1
      go_enter Tryz.func21, Tryz.ntmps21
      go_wp2_with fail
      exact bodyPost_ret (v := .agg #[.int .i64 1, .int .i64 0, .int .i64 0]) (by simp [results, Tryz.results21, go_sem]) rfl ⟨by rw [HQ.out], by (repeat (first | with_reducible exact Below.refl _ _ | with_reducible assumption | with_reducible refine Below.alloc ?_ (by first | exact Nat.le_refl _ | exact Below.size (by assumption) | exact Nat.le_trans (Below.size (by assumption)) (by simp; done) | (simp; done) | (simp; omega) | omega) _ | with_reducible refine below_drewN ?_ _ | with_reducible refine Below.drew ?_ | with_reducible refine Below.setCell ?_ (by first | exact Nat.le_refl _ | (simp; done) | (simp; omega) | omega) _))⟩
    · by_cases g2 : 8 < D.roots.length
      · clear h1
        go_enter Tryz.func21, Tryz.ntmps21
        go_wp2_with fail
        exact bodyPost_ret (v := .agg #[.int .i64 1, .int .i64 0, .int .i64 0]) (by simp [results, Tryz.results21, go_sem]) rfl ⟨by rw [HQ.out], by (repeat (first | with_reducible exact Below.refl _ _ | with_reducible assumption | with_reducible refine Below.alloc ?_ (by first | exact Nat.le_refl _ | exact Below.size (by assumption) | exact Nat.le_trans (Below.size (by assumption)) (by simp; done) | (simp; done) | (simp; omega) | omega) _ | with_reducible refine below_drewN ?_ _ | with_reducible refine Below.drew ?_ | with_reducible refine Below.setCell ?_ (by first | exact Nat.le_refl _ | (simp; done) | (simp; omega) | omega) _))⟩
      · have g3 : 400 < D.faults.length := by omega
        clear h1
        go_enter Tryz.func21, Tryz.ntmps21
        go_wp2_with fail
        exact bodyPost_ret (v := .agg #[.int .i64 1, .int .i64 0, .int .i64 0]) (by simp [results, Tryz.results21, go_sem]) rfl ⟨by rw [HQ.out], by (repeat (first | with_reducible exact Below.refl _ _ | with_reducible assumption | with_reducible refine Below.alloc ?_ (by first | exact Nat.le_refl _ | exact Below.size (by assumption) | exact Nat.le_trans (Below.size (by assumption)) (by simp; done) | (simp; done) | (simp; omega) | omega) _ | with_reducible refine below_drewN ?_ _ | with_reducible refine Below.drew ?_ | with_reducible refine Below.setCell ?_ (by first | exact Nat.le_refl _ | (simp; done) | (simp; omega) | omega) _))⟩
  have H1 := hide h1
  have g1 : ¬ 60 < D.mods.length := fun e => h1 (.inl e)
  have g2 : ¬ 8 < D.roots.length := fun e => h1 (.inr (.inl e))
  have g3 : ¬ 400 < D.faults.length := fun e => h1 (.inr (.inr e))
  clear h1
  go_enter Tryz.func21, Tryz.ntmps21
  go_wp2_with fail
  generalize hW : (w.alloc (Obj.cells #[.slice A1 D.roots.length c1, .slice A2 D.mods.length c2, .slice A3 D.faults.length c3] 27)).alloc (Obj.cells #[.int .i64 0, .int .i64 0, .int .i64 0] 52) = W0
  have hbW : Below w.heap.size w W0 := by rw [← hW]; (repeat (first | with_reducible exact Below.refl _ _ | with_reducible assumption | with_reducible refine Below.alloc ?_ (by first | exact Nat.le_refl _ | exact Below.size (by assumption) | exact Nat.le_trans (Below.size (by assumption)) (by simp; done) | (simp; done) | (simp; omega) | omega) _ | with_reducible refine below_drewN ?_ _ | with_reducible refine Below.drew ?_ | with_reducible refine Below.setCell ?_ (by first | exact Nat.le_refl _ | (simp; done) | (simp; omega) | omega) _))
  obtain ⟨blkB, blkR, hW0⟩ := alloc_two w (Obj.cells #[.slice A1 D.roots.length c1, .slice A2 D.mods.length c2, .slice A3 D.faults.length c3] 27) (Obj.cells #[.int .i64 0, .int .i64 0, .int .i64 0] 52)
  rw [hW] at blkB blkR hW0
  clear hW
  have HBX := hide blkB
  have HR0 := hide blkR
  replace hW0 := Nat.le_of_eq hW0
  clear blkB blkR
  -- the roots
  go_loopw [4, 34] (fun _ i wr => ∃ k : Nat, i = .int .i64 k ∧ k ≤ D.roots.length ∧ Hid (∀ j, j < k → Wd.badRoot D.roots j = false) ∧ Below W0.heap.size W0 wr) (fun _ i _ => D.roots.length - (intOf i).toNat)
  case atStart => exact ⟨0, rfl, by omega, hide (fun j hj => absurd hj (by omega)), Below.refl _ _⟩
  case round =>
    obtain ⟨k, rfl, hk, HX, HB⟩ := hrel
    by_cases hlt : k < D.roots.length
    · obtain ⟨ad, rfl, hc⟩ := ((hR.below hbW).below HB).get hlt
      have e1 : wr.cell? (ad.add k) = some (.string D.roots[k]) := by simpa [kStr] using hc.2
      have hbad := Wd.badRoot_at (List.getElem?_eq_getElem hlt)
      have hrs := hz.r D.roots[k] (List.getElem_mem _)
      clear hc
      generalize D.roots[k] = r at e1 hbad hrs
      by_cases hr0 : r = ⟨#[]⟩
      · have e2 := tl_e hr0
        have HBD := hide (show Wd.badRoot D.roots k = false by rw [hbad]; simp [hr0])
        clear hbad hr0
        go_wp2_with fail
        go_roundw
        case rel =>
          refine ⟨k + 1, by go_num, by omega, hide (fun j hj => ?_), HB⟩
          rcases Nat.lt_or_ge j k with h | h
          · exact HX.out j h
          · obtain rfl : j = k := by omega
            exact HBD.out
        case measure => simp [intOf]; omega
      · have e2 := tl_n hr0
        have hcc := iClean_calls r wr (by omega) (hm.below hbW |>.below HB)
        obtain ⟨q1, q2, hq⟩ : ∃ q1 q2, Nm.clean r = (q1, q2) := ⟨_, _, rfl⟩
        rw [hq] at hcc hbad
        have HCC := hide hcc
        clear hcc hq
        have hne := fun W : World => named_neq q1 0 q2 r W
        by_cases hg : q1 = 0 ∧ q2 = r
        · obtain ⟨rfl, rfl⟩ := hg
          have HBD := hide (show Wd.badRoot D.roots k = false by rw [hbad]; simp)
          clear hbad
          have hne := fun W : World => named_neq_same 0 q2 W
          have HR0' := hide hr0
          clear hr0
          go_wp2_with fail
          refine (unhide HCC).mono ?_
          rintro e w1 ⟨rfl, hb1⟩
          replace HB := below_then HB HB.size hb1
          clear hb1 HCC e1
          go_wp2_with fail
          go_roundw
          case rel =>
            refine ⟨k + 1, by go_num, by omega, hide (fun j hj => ?_), by (repeat (first | with_reducible exact Below.refl _ _ | with_reducible assumption | with_reducible refine Below.alloc ?_ (by first | exact Nat.le_refl _ | exact Below.size (by assumption) | exact Nat.le_trans (Below.size (by assumption)) (by simp; done) | (simp; done) | (simp; omega) | omega) _ | with_reducible refine below_drewN ?_ _ | with_reducible refine Below.drew ?_ | with_reducible refine Below.setCell ?_ (by first | exact Nat.le_refl _ | (simp; done) | (simp; omega) | omega) _))⟩
            rcases Nat.lt_or_ge j k with h | h
            · exact HX.out j h
            · obtain rfl : j = k := by omega
              exact HBD.out
          case measure => simp [intOf]; omega
        · have hv : (!((q1 == 0) && (q2.toList == r.toList))) = true := by
            by_cases g : q1 = 0
            · have := beq_f (fun e => hg ⟨g, e⟩); simp [this]
            · simp [g]
          have hbd : Wd.badRoot D.roots k = true := by
            rw [hbad]
            by_cases g : q1 = 0
            · have : ¬ q2 = r := fun e => hg ⟨g, e⟩
              simp [hr0, this]
            · simp [hr0, g]
          have HQ := hide (Wd.worldOk_two H1.out hlt HX.out hbd)
          replace hne := fun W : World => (hne W).trans (by rw [hv])
          have HR0' := hide hr0
          clear hbad hg hbd hr0 hv
          go_wp2_with fail
          refine (unhide HCC).mono ?_
          rintro e w1 ⟨rfl, hb1⟩
          replace HB := below_then HB HB.size hb1
          have hblk := (HB.block _ (by omega)).trans HR0.out
          have r0 : w1.cell? ⟨w.heap.size + 1, 0, none⟩ = some _ := blk_cell hblk 0
          have r1 : w1.cell? ⟨w.heap.size + 1, 1, none⟩ = some _ := blk_cell hblk 1
          have r2 : w1.cell? ⟨w.heap.size + 1, 2, none⟩ = some _ := blk_cell hblk 2
          have f0 := blk_free hblk 0
          have f1 := blk_free hblk 1
          have f2 := blk_free hblk 2
          have hbz := HB.size
          have hBB := below_then hbW hbW.size HB
          clear hb1 HCC e1 hblk HB hbW
          go_wp2_with fail
          exact bodyPost_ret (v := .agg #[.int .i64 2, .int .i64 0, .int .i64 0]) (by simp [results, Tryz.results21, go_sem, r0, r1, r2]) rfl ⟨by rw [HQ.out], by (repeat (first | with_reducible exact Below.refl _ _ | with_reducible assumption | with_reducible refine Below.alloc ?_ (by first | exact Nat.le_refl _ | exact Below.size (by assumption) | exact Nat.le_trans (Below.size (by assumption)) (by simp; done) | (simp; done) | (simp; omega) | omega) _ | with_reducible refine below_drewN ?_ _ | with_reducible refine Below.drew ?_ | with_reducible refine Below.setCell ?_ (by first | exact Nat.le_refl _ | (simp; done) | (simp; omega) | omega) _))⟩
    · obtain rfl : k = D.roots.length := by omega
      have hbx := (HB.block _ (by omega)).trans HBX.out
      have k1 : wr.cell? ⟨w.heap.size, 1, none⟩ = some _ := blk_cell hbx 1
      have k2 : wr.cell? ⟨w.heap.size, 2, none⟩ = some _ := blk_cell hbx 2
      clear hbx
      have hblk := (HB.block _ (by omega)).trans HR0.out
      have r0 : wr.cell? ⟨w.heap.size + 1, 0, none⟩ = some _ := blk_cell hblk 0
      have r1 : wr.cell? ⟨w.heap.size + 1, 1, none⟩ = some _ := blk_cell hblk 1
      have r2 : wr.cell? ⟨w.heap.size + 1, 2, none⟩ = some _ := blk_cell hblk 2
      have f0 := blk_free hblk 0
      have f1 := blk_free hblk 1
      have f2 := blk_free hblk 2
      have hbz := HB.size
      have hBB := below_then hbW hbW.size HB
      clear hblk
      go_wp2_with fail
      -- the faults
      go_loop [5, 6, 52] (fun _ _ i => ∃ k : Nat, i = .int .i64 k ∧ k ≤ D.faults.length ∧ Hid (∀ j, j < k → Wd.badFault D.faults j = false)) (fun _ _ i => D.faults.length - (intOf i).toNat)
      case atStart => exact ⟨0, rfl, by omega, hide (fun j hj => absurd hj (by omega))⟩
      case round =>
        obtain ⟨k, rfl, hk, HY⟩ := hrel
        by_cases hlt : k < D.faults.length
        · obtain ⟨ad, rfl, hc⟩ := ((hF.below hbW).below HB).get hlt
          have e1 : wr.cell? (ad.add k) = some (.int .i64 D.faults[k]) := by simpa [kInt] using hc.2
          have hbad := Wd.badFault_at (List.getElem?_eq_getElem hlt)
          clear hc
          generalize D.faults[k] = f at e1 hbad
          by_cases u1 : f < 0
          · have hbd : Wd.badFault D.faults k = true := by rw [hbad]; simp [u1]
            have HQ := hide (Wd.worldOk_three H1.out HX.out hlt HY.out hbd)
            clear hbad hbd
            go_wp2_with fail
            exact bodyPost_ret (v := .agg #[.int .i64 3, .int .i64 0, .int .i64 0]) (by simp [results, Tryz.results21, go_sem, r0, r1, r2]) rfl ⟨by rw [HQ.out], by (repeat (first | with_reducible exact Below.refl _ _ | with_reducible assumption | with_reducible refine Below.alloc ?_ (by first | exact Nat.le_refl _ | exact Below.size (by assumption) | exact Nat.le_trans (Below.size (by assumption)) (by simp; done) | (simp; done) | (simp; omega) | omega) _ | with_reducible refine below_drewN ?_ _ | with_reducible refine Below.drew ?_ | with_reducible refine Below.setCell ?_ (by first | exact Nat.le_refl _ | (simp; done) | (simp; omega) | omega) _))⟩
          by_cases u2 : 400 ≤ f
          · have hbd : Wd.badFault D.faults k = true := by rw [hbad]; simp [u2]
            have HQ := hide (Wd.worldOk_three H1.out HX.out hlt HY.out hbd)
            clear hbad hbd
            go_wp2_with fail
            exact bodyPost_ret (v := .agg #[.int .i64 3, .int .i64 0, .int .i64 0]) (by simp [results, Tryz.results21, go_sem, r0, r1, r2]) rfl ⟨by rw [HQ.out], by (repeat (first | with_reducible exact Below.refl _ _ | with_reducible assumption | with_reducible refine Below.alloc ?_ (by first | exact Nat.le_refl _ | exact Below.size (by assumption) | exact Nat.le_trans (Below.size (by assumption)) (by simp; done) | (simp; done) | (simp; omega) | omega) _ | with_reducible refine below_drewN ?_ _ | with_reducible refine Below.drew ?_ | with_reducible refine Below.setCell ?_ (by first | exact Nat.le_refl _ | (simp; done) | (simp; omega) | omega) _))⟩
          by_cases hk0 : k = 0
          · have hbd : Wd.badFault D.faults k = false := by rw [hbad]; simp [u1, u2, hk0]
            have hk1 : (k : Int) ≤ 0 := by omega
            have HBD := hide hbd
            clear hbad hbd hk0
            go_wp2_with fail
            go_round
            case rel =>
              refine ⟨k + 1, by go_num, by omega, hide (fun j hj => ?_)⟩
              rcases Nat.lt_or_ge j k with h | h
              · exact HY.out j h
              · obtain rfl : j = k := by omega
                exact HBD.out
            case measure => simp [intOf]; omega
          have hk1 : 0 < k := by omega
          have hk2 : (1 : Int) ≤ k := by omega
          have hk3 : k - 1 < D.faults.length := by omega
          obtain ⟨ad', hA', hc'⟩ := ((hF.below hbW).below HB).get hk3
          injection hA' with hA'
          subst hA'
          have e2 : wr.cell? (ad.add (k - 1)) = some (.int .i64 D.faults[k - 1]) := by simpa [kInt] using hc'.2
          rw [List.getElem?_eq_getElem hk3] at hbad
          generalize D.faults[k - 1] = f' at e2 hbad
          clear hc' hk0
          by_cases u3 : f ≤ f'
          · have hbd : Wd.badFault D.faults k = true := by rw [hbad]; simp [u3, hk1]
            have HQ := hide (Wd.worldOk_three H1.out HX.out hlt HY.out hbd)
            clear hbad hbd
            go_wp2_with fail
            exact bodyPost_ret (v := .agg #[.int .i64 3, .int .i64 0, .int .i64 0]) (by simp [results, Tryz.results21, go_sem, r0, r1, r2]) rfl ⟨by rw [HQ.out], by (repeat (first | with_reducible exact Below.refl _ _ | with_reducible assumption | with_reducible refine Below.alloc ?_ (by first | exact Nat.le_refl _ | exact Below.size (by assumption) | exact Nat.le_trans (Below.size (by assumption)) (by simp; done) | (simp; done) | (simp; omega) | omega) _ | with_reducible refine below_drewN ?_ _ | with_reducible refine Below.drew ?_ | with_reducible refine Below.setCell ?_ (by first | exact Nat.le_refl _ | (simp; done) | (simp; omega) | omega) _))⟩
          · have hbd : Wd.badFault D.faults k = false := by rw [hbad]; simp [u1, u2, u3]
            have HBD := hide hbd
            clear hbad hbd
            go_wp2_with fail
            go_round
            case rel =>
              refine ⟨k + 1, by go_num, by omega, hide (fun j hj => ?_)⟩
              rcases Nat.lt_or_ge j k with h | h
              · exact HY.out j h
              · obtain rfl : j = k := by omega
                exact HBD.out
            case measure => simp [intOf]; omega
        · obtain rfl : k = D.faults.length := by omega
          have hmm := @run_makeMap Tryz.prog
          have hbx := (HB.block _ (by omega)).trans HBX.out
          have k1 : (wr.alloc (Obj.map #[] 0)).cell? ⟨w.heap.size, 1, none⟩ = some _ := blk_cell ((alloc_old wr _ (by omega)).trans hbx) 1
          clear k2 r0 r1 r2 f0 f1 f2 hbx
          go_wp2_with fail
          clear hmm k1
          obtain ⟨wo, rfl⟩ : ∃ wo : World, wo = wr := ⟨_, rfl⟩
          have hmade := MapIs.made wo Tryz.prog 9
          -- the modules
          go_loopw [8, 9, 83] (fun _ _ i wx => ∃ (k : Nat) (f : Lit → Option Value), i = .int .i64 k ∧ k ≤ D.mods.length ∧ Hid (∀ j, j < k → Wd.badMod D.mods j = false) ∧ Hid (∀ nm : Str, f (.string nm.data.toList) = if Wd.metMod D.mods k nm = true then some (.bool true) else none) ∧ MapIs wx Tryz.prog 9 wo.heap.size k f ∧ Below wo.heap.size wo wx) (fun _ _ i _ => D.mods.length - (intOf i).toNat)
          case atStart => exact ⟨0, _, rfl, by omega, hide (fun j hj => absurd hj (by omega)), hide (fun nm => by simp [Wd.metMod]), hmade, by (repeat (first | with_reducible exact Below.refl _ _ | with_reducible assumption | with_reducible refine Below.alloc ?_ (by first | exact Nat.le_refl _ | exact Below.size (by assumption) | exact Nat.le_trans (Below.size (by assumption)) (by simp; done) | (simp; done) | (simp; omega) | omega) _ | with_reducible refine below_drewN ?_ _ | with_reducible refine Below.drew ?_ | with_reducible refine Below.setCell ?_ (by first | exact Nat.le_refl _ | (simp; done) | (simp; omega) | omega) _))⟩
          case round =>
            obtain ⟨k, f, rfl, hk, HZ, HF, HM, HD⟩ := hrel
            have HD0 := below_then hBB hBB.size HD
            by_cases hlt : k < D.mods.length
            · obtain ⟨ad, hA, hc0, A4, c4, hc4, hl4, hm4, hs4⟩ := (hM.below HD0).get hlt
              subst hA
              have e1 : wr.cell? (ad.add (k * 2)) = some (.string D.mods[k].name) := hc0.2
              have e2 : wr.cell? ⟨(ad.add (k * 2)).block, (ad.add (k * 2)).off + 1, none⟩ = some (.slice A4 D.mods[k].lines.length c4) := by have := hc4.2; rwa [add_pos _ _ (by omega)] at this
              have hbad := Wd.badMod_at (List.getElem?_eq_getElem hlt)
              have hrs := hz.m D.mods[k] (List.getElem_mem _)
              clear hc0 hc4 hs4
              have HMK := hide (List.getElem?_eq_getElem hlt)
              generalize D.mods[k] = m at e1 e2 hbad hrs hl4 HMK
              obtain ⟨nm, ls⟩ := m
              replace hrs : nm.size ≤ 1048576 := hrs
              replace hbad : Wd.badMod D.mods k = (!(decide ((Nm.clean nm).1 = 0) && decide ((Nm.clean nm).2 = nm)) || Wd.metMod D.mods k nm || decide (60 < ls.length)) := hbad
              replace e1 : wr.cell? (ad.add (k * 2)) = some (.string nm) := e1
              go_wp2_with fail
              generalize hW : wr.alloc (Obj.cells #[.string nm, .slice A4 ls.length c4] 75) = W
              have BW : Below wr.heap.size wr W := by rw [← hW]; (repeat (first | with_reducible exact Below.refl _ _ | with_reducible assumption | with_reducible refine Below.alloc ?_ (by first | exact Nat.le_refl _ | exact Below.size (by assumption) | exact Nat.le_trans (Below.size (by assumption)) (by simp; done) | (simp; done) | (simp; omega) | omega) _ | with_reducible refine below_drewN ?_ _ | with_reducible refine Below.drew ?_ | with_reducible refine Below.setCell ?_ (by first | exact Nat.le_refl _ | (simp; done) | (simp; omega) | omega) _))
              have k0 : W.cell? ⟨wr.heap.size, 0, none⟩ = some (.string nm) := by rw [← hW]; exact blk_cell (heap_alloc_new wr _) 0
              have k1 : W.cell? ⟨wr.heap.size, 1, none⟩ = some (.slice A4 ls.length c4) := by rw [← hW]; exact blk_cell (heap_alloc_new wr _) 1
              have HMW := HM.below BW
              have hlW : wr.heap.size + 1 ≤ W.heap.size := by rw [← hW]; simp
              clear hW e1 e2
              go_cut [106] (fun c wx => c = .bool (Wd.badMod D.mods k) ∧ Below W.heap.size W wx)
              case first =>
                have hmW := (hm.below HD0).below BW
                have hcc := fun (w' : World) (hb : Below W.heap.size W w') => iClean_calls nm w' (by omega) (hmW.below hb)
                obtain ⟨q1, q2, hq⟩ : ∃ q1 q2, Nm.clean nm = (q1, q2) := ⟨_, _, rfl⟩
                rw [hq] at hcc hbad
                replace hbad : Wd.badMod D.mods k = (!(decide (q1 = 0) && decide (q2 = nm)) || Wd.metMod D.mods k nm || decide (60 < ls.length)) := hbad
                have HCC := hide hcc
                clear hcc hq hmW
                have hng := named_guard
                have hfm := HF.out nm
                have hzb : ∀ w : World, (zeroValue 4).run Tryz.prog w = .ok (.bool false) w := fun _ => by kernel_rfl
                by_cases hg : q1 = 0 ∧ q2 = nm
                · obtain ⟨rfl, rfl⟩ := hg
                  have hne := fun W : World => named_neq_same 0 q2 W
                  by_cases hmet : Wd.metMod D.mods k q2 = true
                  · have HBD := hide (show Wd.badMod D.mods k = true by rw [hbad]; simp [hmet])
                    rw [if_pos hmet] at hfm
                    have HFM := hide hfm
                    clear hbad hmet hfm
                    refine wp_region_held_drew (S := fun w' => Below W.heap.size W w' ∧ w'.cell? ⟨wr.heap.size, 0, none⟩ = some (.string q2) ∧ w'.cell? ⟨wr.heap.size, 1, none⟩ = some (.slice A4 ls.length c4)) (by kernel_rfl) ⟨Below.drew (Below.refl _ _), k0, k1⟩ (fun hHeld => ?_)
                    (refine wpAnyH_take (i := 0) (oi := ⟨some 88, _, _, _, _, _⟩) (v := .pointer (some ⟨wr.heap.size, 0, none⟩)) rfl (by kernel_rfl) (by kernel_rfl) (by kernel_rfl) (fun _ _ _ h => h) (Or.inl ⟨by rfl, ?_⟩) (by assumption) ?_; (focus (intro w hSw; (try dsimp only at hSw); go_simp; done)); try simp only [Act.put, List.setIfInBounds_toArray, List.set_cons_zero, List.set_cons_succ])
                    (refine wpAnyH_take (i := 1) (oi := ⟨some 89, _, _, _, _, _⟩) (v := .string q2) rfl (by kernel_rfl) (by kernel_rfl) (by kernel_rfl) (fun _ _ _ h => h) (Or.inl ⟨by rfl, ?_⟩) (by assumption) ?_; (focus (intro w hSw; (try dsimp only at hSw); go_simp; done)); try simp only [Act.put, List.setIfInBounds_toArray, List.set_cons_zero, List.set_cons_succ])
                    (refine wpAnyH_take (i := 3) (oi := ⟨some 91, _, _, _, _, _⟩) (v := .pointer (some ⟨wr.heap.size, 0, none⟩)) rfl (by kernel_rfl) (by kernel_rfl) (by kernel_rfl) (fun _ _ _ h => h) (Or.inl ⟨by rfl, ?_⟩) (by assumption) ?_; (focus (intro w hSw; (try dsimp only at hSw); go_simp; done)); try simp only [Act.put, List.setIfInBounds_toArray, List.set_cons_zero, List.set_cons_succ])
                    (refine wpAnyH_take (i := 4) (oi := ⟨some 92, _, _, _, _, _⟩) (v := .string q2) rfl (by kernel_rfl) (by kernel_rfl) (by kernel_rfl) (fun _ _ _ h => h) (Or.inl ⟨by rfl, ?_⟩) (by assumption) ?_; (focus (intro w hSw; (try dsimp only at hSw); go_simp; done)); try simp only [Act.put, List.setIfInBounds_toArray, List.set_cons_zero, List.set_cons_succ])
                    (refine wpAnyH_take (i := 5) (oi := ⟨some 93, _, _, _, _, _⟩) (v := .agg #[.int .i64 0, .string q2]) rfl (by kernel_rfl) (by kernel_rfl) (by kernel_rfl) (fun _ _ _ h => h) (Or.inl ⟨by rfl, ?_⟩) (by assumption) ?_; (focus (intro w hSw; (try dsimp only at hSw); go_simp; done)); try simp only [Act.put, List.setIfInBounds_toArray, List.set_cons_zero, List.set_cons_succ])
                    refine wpAnyH_ready (rs := [2]) (by kernel_rfl) (by simp) ?_
                    refine AllReadyH.cons (o := ⟨some 90, _, _, _, _, _⟩) rfl (fun K hK => ?_) AllReadyH.nil
                    go_simp
                    refine (HCC.out _ hHeld.1).mono ?_
                    rintro e w' ⟨rfl, hb'⟩
                    refine hK.out _ _ (held_step2 (by assumption) (by simpa using hb')) (fun hHeld => ?_)
                    clear hK K
                    skip
                    (refine wpAnyH_take (i := 6) (oi := ⟨some 94, _, _, _, _, _⟩) (v := .bool false) rfl (by kernel_rfl) (by kernel_rfl) (by kernel_rfl) (fun _ _ _ h => h) (Or.inl ⟨by rfl, ?_⟩) (by assumption) ?_; (focus (intro w hSw; (try dsimp only at hSw); go_simp; done)); try simp only [Act.put, List.setIfInBounds_toArray, List.set_cons_zero, List.set_cons_succ])
                    (refine wpAnyH_take (i := 7) (oi := ⟨some 95, _, _, _, _, _⟩) (v := .bool false) rfl (by kernel_rfl) (by kernel_rfl) (by kernel_rfl) (fun _ _ _ h => h) (Or.inl ⟨by rfl, ?_⟩) (by assumption) ?_; (focus (intro w hSw; (try dsimp only at hSw); go_simp; done)); try simp only [Act.put, List.setIfInBounds_toArray, List.set_cons_zero, List.set_cons_succ])
                    (refine wpAnyH_take (i := 8) (oi := ⟨some 96, _, _, _, _, _⟩) (v := .map (some wo.heap.size)) rfl (by kernel_rfl) (by kernel_rfl) (by kernel_rfl) (fun _ _ _ h => h) (Or.inl ⟨by rfl, ?_⟩) (by assumption) ?_; (focus (intro w hSw; (try dsimp only at hSw); go_simp; done)); try simp only [Act.put, List.setIfInBounds_toArray, List.set_cons_zero, List.set_cons_succ])
                    (refine wpAnyH_take (i := 9) (oi := ⟨some 97, _, _, _, _, _⟩) (v := .pointer (some ⟨wr.heap.size, 0, none⟩)) rfl (by kernel_rfl) (by kernel_rfl) (by kernel_rfl) (fun _ _ _ h => h) (Or.inl ⟨by rfl, ?_⟩) (by assumption) ?_; (focus (intro w hSw; (try dsimp only at hSw); go_simp; done)); try simp only [Act.put, List.setIfInBounds_toArray, List.set_cons_zero, List.set_cons_succ])
                    (refine wpAnyH_take (i := 10) (oi := ⟨some 98, _, _, _, _, _⟩) (v := .string q2) rfl (by kernel_rfl) (by kernel_rfl) (by kernel_rfl) (fun _ _ _ h => h) (Or.inl ⟨by rfl, ?_⟩) (by assumption) ?_; (focus (intro w hSw; (try dsimp only at hSw); go_simp; done)); try simp only [Act.put, List.setIfInBounds_toArray, List.set_cons_zero, List.set_cons_succ])
                    (refine wpAnyH_take (i := 11) (oi := ⟨some 99, _, _, _, _, _⟩) (v := .bool true) rfl (by kernel_rfl) (by kernel_rfl) (by kernel_rfl) (fun _ _ _ h => h) (Or.inl ⟨by rfl, ?_⟩) (by assumption) ?_; (focus (intro w hSw; (try dsimp only at hSw);  have hlk := (HMW.below hSw.1).look (string_keyed Tryz.underlying9) Tryz.underlying104 (hzb _) (keyOf_string_mk Tryz.underlying9 (show q2.size ≤ maxLen by unfold maxLen; omega)) trivial; rw [HFM.out] at hlk; go_simp; done)); try simp only [Act.put, List.setIfInBounds_toArray, List.set_cons_zero, List.set_cons_succ])
                    (refine wpAnyH_take (i := 12) (oi := ⟨some 100, _, _, _, _, _⟩) (v := .bool true) rfl (by kernel_rfl) (by kernel_rfl) (by kernel_rfl) (fun _ _ _ h => h) (Or.inl ⟨by rfl, ?_⟩) (by assumption) ?_; (focus (intro w hSw; (try dsimp only at hSw); go_simp; done)); try simp only [Act.put, List.setIfInBounds_toArray, List.set_cons_zero, List.set_cons_succ])
                    (refine wpAnyH_take (i := 13) (oi := ⟨some 101, _, _, _, _, _⟩) (v := .bool true) rfl (by kernel_rfl) (by kernel_rfl) (by kernel_rfl) (fun _ _ _ h => h) (Or.inl ⟨by rfl, ?_⟩) (by assumption) ?_; (focus (intro w hSw; (try dsimp only at hSw); go_simp; done)); try simp only [Act.put, List.setIfInBounds_toArray, List.set_cons_zero, List.set_cons_succ])
                    (refine wpAnyH_take (i := 14) (oi := ⟨some 102, _, _, _, _, _⟩) (v := undef) rfl (by kernel_rfl) (by kernel_rfl) (by kernel_rfl) (fun _ _ _ h => h) (Or.inr ⟨by rfl, rfl⟩) (by assumption) ?_; try simp only [Act.put, List.setIfInBounds_toArray, List.set_cons_zero, List.set_cons_succ])
                    (refine wpAnyH_take (i := 15) (oi := ⟨some 103, _, _, _, _, _⟩) (v := undef) rfl (by kernel_rfl) (by kernel_rfl) (by kernel_rfl) (fun _ _ _ h => h) (Or.inr ⟨by rfl, rfl⟩) (by assumption) ?_; try simp only [Act.put, List.setIfInBounds_toArray, List.set_cons_zero, List.set_cons_succ])
                    (refine wpAnyH_take (i := 16) (oi := ⟨some 104, _, _, _, _, _⟩) (v := undef) rfl (by kernel_rfl) (by kernel_rfl) (by kernel_rfl) (fun _ _ _ h => h) (Or.inr ⟨by rfl, rfl⟩) (by assumption) ?_; try simp only [Act.put, List.setIfInBounds_toArray, List.set_cons_zero, List.set_cons_succ])
                    (refine wpAnyH_take (i := 17) (oi := ⟨some 105, _, _, _, _, _⟩) (v := undef) rfl (by kernel_rfl) (by kernel_rfl) (by kernel_rfl) (fun _ _ _ h => h) (Or.inr ⟨by rfl, rfl⟩) (by assumption) ?_; try simp only [Act.put, List.setIfInBounds_toArray, List.set_cons_zero, List.set_cons_succ])
                    (refine wpAnyH_take (i := 18) (oi := ⟨some 106, _, _, _, _, _⟩) (v := .bool true) rfl (by kernel_rfl) (by kernel_rfl) (by kernel_rfl) (fun _ _ _ h => h) (Or.inl ⟨by rfl, ?_⟩) (by assumption) ?_; (focus (intro w hSw; (try dsimp only at hSw); go_simp; done)); try simp only [Act.put, List.setIfInBounds_toArray, List.set_cons_zero, List.set_cons_succ])
                    refine wpAnyH_done (by kernel_rfl) ?_ _
                    go_wp2_with fail
                    go_meet
                    exact ⟨by rw [HBD.out], hHeld.1⟩
                  · rw [if_neg hmet] at hfm
                    have HFM := hide hfm
                    by_cases hll : 60 < ls.length
                    · have HBD := hide (show Wd.badMod D.mods k = true by rw [hbad]; simp [hll])
                      have hlI : (60 : Int) < ls.length := by omega
                      clear hbad hmet hfm
                      refine wp_region_held_drew (S := fun w' => Below W.heap.size W w' ∧ w'.cell? ⟨wr.heap.size, 0, none⟩ = some (.string q2) ∧ w'.cell? ⟨wr.heap.size, 1, none⟩ = some (.slice A4 ls.length c4)) (by kernel_rfl) ⟨Below.drew (Below.refl _ _), k0, k1⟩ (fun hHeld => ?_)
                      (refine wpAnyH_take (i := 0) (oi := ⟨some 88, _, _, _, _, _⟩) (v := .pointer (some ⟨wr.heap.size, 0, none⟩)) rfl (by kernel_rfl) (by kernel_rfl) (by kernel_rfl) (fun _ _ _ h => h) (Or.inl ⟨by rfl, ?_⟩) (by assumption) ?_; (focus (intro w hSw; (try dsimp only at hSw); go_simp; done)); try simp only [Act.put, List.setIfInBounds_toArray, List.set_cons_zero, List.set_cons_succ])
                      (refine wpAnyH_take (i := 1) (oi := ⟨some 89, _, _, _, _, _⟩) (v := .string q2) rfl (by kernel_rfl) (by kernel_rfl) (by kernel_rfl) (fun _ _ _ h => h) (Or.inl ⟨by rfl, ?_⟩) (by assumption) ?_; (focus (intro w hSw; (try dsimp only at hSw); go_simp; done)); try simp only [Act.put, List.setIfInBounds_toArray, List.set_cons_zero, List.set_cons_succ])
                      (refine wpAnyH_take (i := 3) (oi := ⟨some 91, _, _, _, _, _⟩) (v := .pointer (some ⟨wr.heap.size, 0, none⟩)) rfl (by kernel_rfl) (by kernel_rfl) (by kernel_rfl) (fun _ _ _ h => h) (Or.inl ⟨by rfl, ?_⟩) (by assumption) ?_; (focus (intro w hSw; (try dsimp only at hSw); go_simp; done)); try simp only [Act.put, List.setIfInBounds_toArray, List.set_cons_zero, List.set_cons_succ])
                      (refine wpAnyH_take (i := 4) (oi := ⟨some 92, _, _, _, _, _⟩) (v := .string q2) rfl (by kernel_rfl) (by kernel_rfl) (by kernel_rfl) (fun _ _ _ h => h) (Or.inl ⟨by rfl, ?_⟩) (by assumption) ?_; (focus (intro w hSw; (try dsimp only at hSw); go_simp; done)); try simp only [Act.put, List.setIfInBounds_toArray, List.set_cons_zero, List.set_cons_succ])
                      (refine wpAnyH_take (i := 5) (oi := ⟨some 93, _, _, _, _, _⟩) (v := .agg #[.int .i64 0, .string q2]) rfl (by kernel_rfl) (by kernel_rfl) (by kernel_rfl) (fun _ _ _ h => h) (Or.inl ⟨by rfl, ?_⟩) (by assumption) ?_; (focus (intro w hSw; (try dsimp only at hSw); go_simp; done)); try simp only [Act.put, List.setIfInBounds_toArray, List.set_cons_zero, List.set_cons_succ])
                      refine wpAnyH_ready (rs := [2]) (by kernel_rfl) (by simp) ?_
                      refine AllReadyH.cons (o := ⟨some 90, _, _, _, _, _⟩) rfl (fun K hK => ?_) AllReadyH.nil
                      go_simp
                      refine (HCC.out _ hHeld.1).mono ?_
                      rintro e w' ⟨rfl, hb'⟩
                      refine hK.out _ _ (held_step2 (by assumption) (by simpa using hb')) (fun hHeld => ?_)
                      clear hK K
                      skip
                      (refine wpAnyH_take (i := 6) (oi := ⟨some 94, _, _, _, _, _⟩) (v := .bool false) rfl (by kernel_rfl) (by kernel_rfl) (by kernel_rfl) (fun _ _ _ h => h) (Or.inl ⟨by rfl, ?_⟩) (by assumption) ?_; (focus (intro w hSw; (try dsimp only at hSw); go_simp; done)); try simp only [Act.put, List.setIfInBounds_toArray, List.set_cons_zero, List.set_cons_succ])
                      (refine wpAnyH_take (i := 7) (oi := ⟨some 95, _, _, _, _, _⟩) (v := .bool false) rfl (by kernel_rfl) (by kernel_rfl) (by kernel_rfl) (fun _ _ _ h => h) (Or.inl ⟨by rfl, ?_⟩) (by assumption) ?_; (focus (intro w hSw; (try dsimp only at hSw); go_simp; done)); try simp only [Act.put, List.setIfInBounds_toArray, List.set_cons_zero, List.set_cons_succ])
                      (refine wpAnyH_take (i := 8) (oi := ⟨some 96, _, _, _, _, _⟩) (v := .map (some wo.heap.size)) rfl (by kernel_rfl) (by kernel_rfl) (by kernel_rfl) (fun _ _ _ h => h) (Or.inl ⟨by rfl, ?_⟩) (by assumption) ?_; (focus (intro w hSw; (try dsimp only at hSw); go_simp; done)); try simp only [Act.put, List.setIfInBounds_toArray, List.set_cons_zero, List.set_cons_succ])
                      (refine wpAnyH_take (i := 9) (oi := ⟨some 97, _, _, _, _, _⟩) (v := .pointer (some ⟨wr.heap.size, 0, none⟩)) rfl (by kernel_rfl) (by kernel_rfl) (by kernel_rfl) (fun _ _ _ h => h) (Or.inl ⟨by rfl, ?_⟩) (by assumption) ?_; (focus (intro w hSw; (try dsimp only at hSw); go_simp; done)); try simp only [Act.put, List.setIfInBounds_toArray, List.set_cons_zero, List.set_cons_succ])
                      (refine wpAnyH_take (i := 10) (oi := ⟨some 98, _, _, _, _, _⟩) (v := .string q2) rfl (by kernel_rfl) (by kernel_rfl) (by kernel_rfl) (fun _ _ _ h => h) (Or.inl ⟨by rfl, ?_⟩) (by assumption) ?_; (focus (intro w hSw; (try dsimp only at hSw); go_simp; done)); try simp only [Act.put, List.setIfInBounds_toArray, List.set_cons_zero, List.set_cons_succ])
                      (refine wpAnyH_take (i := 11) (oi := ⟨some 99, _, _, _, _, _⟩) (v := .bool false) rfl (by kernel_rfl) (by kernel_rfl) (by kernel_rfl) (fun _ _ _ h => h) (Or.inl ⟨by rfl, ?_⟩) (by assumption) ?_; (focus (intro w hSw; (try dsimp only at hSw);  have hlk := (HMW.below hSw.1).look (string_keyed Tryz.underlying9) Tryz.underlying104 (hzb _) (keyOf_string_mk Tryz.underlying9 (show q2.size ≤ maxLen by unfold maxLen; omega)) trivial; rw [HFM.out] at hlk; go_simp; done)); try simp only [Act.put, List.setIfInBounds_toArray, List.set_cons_zero, List.set_cons_succ])
                      (refine wpAnyH_take (i := 12) (oi := ⟨some 100, _, _, _, _, _⟩) (v := .bool false) rfl (by kernel_rfl) (by kernel_rfl) (by kernel_rfl) (fun _ _ _ h => h) (Or.inl ⟨by rfl, ?_⟩) (by assumption) ?_; (focus (intro w hSw; (try dsimp only at hSw); go_simp; done)); try simp only [Act.put, List.setIfInBounds_toArray, List.set_cons_zero, List.set_cons_succ])
                      (refine wpAnyH_take (i := 13) (oi := ⟨some 101, _, _, _, _, _⟩) (v := .bool false) rfl (by kernel_rfl) (by kernel_rfl) (by kernel_rfl) (fun _ _ _ h => h) (Or.inl ⟨by rfl, ?_⟩) (by assumption) ?_; (focus (intro w hSw; (try dsimp only at hSw); go_simp; done)); try simp only [Act.put, List.setIfInBounds_toArray, List.set_cons_zero, List.set_cons_succ])
                      (refine wpAnyH_take (i := 14) (oi := ⟨some 102, _, _, _, _, _⟩) (v := .pointer (some ⟨wr.heap.size, 1, none⟩)) rfl (by kernel_rfl) (by kernel_rfl) (by kernel_rfl) (fun _ _ _ h => h) (Or.inl ⟨by rfl, ?_⟩) (by assumption) ?_; (focus (intro w hSw; (try dsimp only at hSw); go_simp; done)); try simp only [Act.put, List.setIfInBounds_toArray, List.set_cons_zero, List.set_cons_succ])
                      (refine wpAnyH_take (i := 15) (oi := ⟨some 103, _, _, _, _, _⟩) (v := .slice A4 ls.length c4) rfl (by kernel_rfl) (by kernel_rfl) (by kernel_rfl) (fun _ _ _ h => h) (Or.inl ⟨by rfl, ?_⟩) (by assumption) ?_; (focus (intro w hSw; (try dsimp only at hSw); go_simp; done)); try simp only [Act.put, List.setIfInBounds_toArray, List.set_cons_zero, List.set_cons_succ])
                      (refine wpAnyH_take (i := 16) (oi := ⟨some 104, _, _, _, _, _⟩) (v := .int .i64 ls.length) rfl (by kernel_rfl) (by kernel_rfl) (by kernel_rfl) (fun _ _ _ h => h) (Or.inl ⟨by rfl, ?_⟩) (by assumption) ?_; (focus (intro w hSw; (try dsimp only at hSw); go_simp; done)); try simp only [Act.put, List.setIfInBounds_toArray, List.set_cons_zero, List.set_cons_succ])
                      (refine wpAnyH_take (i := 17) (oi := ⟨some 105, _, _, _, _, _⟩) (v := .bool true) rfl (by kernel_rfl) (by kernel_rfl) (by kernel_rfl) (fun _ _ _ h => h) (Or.inl ⟨by rfl, ?_⟩) (by assumption) ?_; (focus (intro w hSw; (try dsimp only at hSw); go_simp; done)); try simp only [Act.put, List.setIfInBounds_toArray, List.set_cons_zero, List.set_cons_succ])
                      (refine wpAnyH_take (i := 18) (oi := ⟨some 106, _, _, _, _, _⟩) (v := .bool true) rfl (by kernel_rfl) (by kernel_rfl) (by kernel_rfl) (fun _ _ _ h => h) (Or.inl ⟨by rfl, ?_⟩) (by assumption) ?_; (focus (intro w hSw; (try dsimp only at hSw); go_simp; done)); try simp only [Act.put, List.setIfInBounds_toArray, List.set_cons_zero, List.set_cons_succ])
                      refine wpAnyH_done (by kernel_rfl) ?_ _
                      go_wp2_with fail
                      go_meet
                      exact ⟨by rw [HBD.out], hHeld.1⟩
                    · have HBD := hide (show Wd.badMod D.mods k = false by rw [hbad]; simp [hll, hmet])
                      have hlI : (ls.length : Int) ≤ 60 := by omega
                      clear hbad hmet hfm
                      refine wp_region_held_drew (S := fun w' => Below W.heap.size W w' ∧ w'.cell? ⟨wr.heap.size, 0, none⟩ = some (.string q2) ∧ w'.cell? ⟨wr.heap.size, 1, none⟩ = some (.slice A4 ls.length c4)) (by kernel_rfl) ⟨Below.drew (Below.refl _ _), k0, k1⟩ (fun hHeld => ?_)
                      (refine wpAnyH_take (i := 0) (oi := ⟨some 88, _, _, _, _, _⟩) (v := .pointer (some ⟨wr.heap.size, 0, none⟩)) rfl (by kernel_rfl) (by kernel_rfl) (by kernel_rfl) (fun _ _ _ h => h) (Or.inl ⟨by rfl, ?_⟩) (by assumption) ?_; (focus (intro w hSw; (try dsimp only at hSw); go_simp; done)); try simp only [Act.put, List.setIfInBounds_toArray, List.set_cons_zero, List.set_cons_succ])
                      (refine wpAnyH_take (i := 1) (oi := ⟨some 89, _, _, _, _, _⟩) (v := .string q2) rfl (by kernel_rfl) (by kernel_rfl) (by kernel_rfl) (fun _ _ _ h => h) (Or.inl ⟨by rfl, ?_⟩) (by assumption) ?_; (focus (intro w hSw; (try dsimp only at hSw); go_simp; done)); try simp only [Act.put, List.setIfInBounds_toArray, List.set_cons_zero, List.set_cons_succ])
                      (refine wpAnyH_take (i := 3) (oi := ⟨some 91, _, _, _, _, _⟩) (v := .pointer (some ⟨wr.heap.size, 0, none⟩)) rfl (by kernel_rfl) (by kernel_rfl) (by kernel_rfl) (fun _ _ _ h => h) (Or.inl ⟨by rfl, ?_⟩) (by assumption) ?_; (focus (intro w hSw; (try dsimp only at hSw); go_simp; done)); try simp only [Act.put, List.setIfInBounds_toArray, List.set_cons_zero, List.set_cons_succ])
                      (refine wpAnyH_take (i := 4) (oi := ⟨some 92, _, _, _, _, _⟩) (v := .string q2) rfl (by kernel_rfl) (by kernel_rfl) (by kernel_rfl) (fun _ _ _ h => h) (Or.inl ⟨by rfl, ?_⟩) (by assumption) ?_; (focus (intro w hSw; (try dsimp only at hSw); go_simp; done)); try simp only [Act.put, List.setIfInBounds_toArray, List.set_cons_zero, List.set_cons_succ])
                      (refine wpAnyH_take (i := 5) (oi := ⟨some 93, _, _, _, _, _⟩) (v := .agg #[.int .i64 0, .string q2]) rfl (by kernel_rfl) (by kernel_rfl) (by kernel_rfl) (fun _ _ _ h => h) (Or.inl ⟨by rfl, ?_⟩) (by assumption) ?_; (focus (intro w hSw; (try dsimp only at hSw); go_simp; done)); try simp only [Act.put, List.setIfInBounds_toArray, List.set_cons_zero, List.set_cons_succ])
                      refine wpAnyH_ready (rs := [2]) (by kernel_rfl) (by simp) ?_
                      refine AllReadyH.cons (o := ⟨some 90, _, _, _, _, _⟩) rfl (fun K hK => ?_) AllReadyH.nil
                      go_simp
                      refine (HCC.out _ hHeld.1).mono ?_
                      rintro e w' ⟨rfl, hb'⟩
                      refine hK.out _ _ (held_step2 (by assumption) (by simpa using hb')) (fun hHeld => ?_)
                      clear hK K
                      skip
                      (refine wpAnyH_take (i := 6) (oi := ⟨some 94, _, _, _, _, _⟩) (v := .bool false) rfl (by kernel_rfl) (by kernel_rfl) (by kernel_rfl) (fun _ _ _ h => h) (Or.inl ⟨by rfl, ?_⟩) (by assumption) ?_; (focus (intro w hSw; (try dsimp only at hSw); go_simp; done)); try simp only [Act.put, List.setIfInBounds_toArray, List.set_cons_zero, List.set_cons_succ])
                      (refine wpAnyH_take (i := 7) (oi := ⟨some 95, _, _, _, _, _⟩) (v := .bool false) rfl (by kernel_rfl) (by kernel_rfl) (by kernel_rfl) (fun _ _ _ h => h) (Or.inl ⟨by rfl, ?_⟩) (by assumption) ?_; (focus (intro w hSw; (try dsimp only at hSw); go_simp; done)); try simp only [Act.put, List.setIfInBounds_toArray, List.set_cons_zero, List.set_cons_succ])
                      (refine wpAnyH_take (i := 8) (oi := ⟨some 96, _, _, _, _, _⟩) (v := .map (some wo.heap.size)) rfl (by kernel_rfl) (by kernel_rfl) (by kernel_rfl) (fun _ _ _ h => h) (Or.inl ⟨by rfl, ?_⟩) (by assumption) ?_; (focus (intro w hSw; (try dsimp only at hSw); go_simp; done)); try simp only [Act.put, List.setIfInBounds_toArray, List.set_cons_zero, List.set_cons_succ])
                      (refine wpAnyH_take (i := 9) (oi := ⟨some 97, _, _, _, _, _⟩) (v := .pointer (some ⟨wr.heap.size, 0, none⟩)) rfl (by kernel_rfl) (by kernel_rfl) (by kernel_rfl) (fun _ _ _ h => h) (Or.inl ⟨by rfl, ?_⟩) (by assumption) ?_; (focus (intro w hSw; (try dsimp only at hSw); go_simp; done)); try simp only [Act.put, List.setIfInBounds_toArray, List.set_cons_zero, List.set_cons_succ])
                      (refine wpAnyH_take (i := 10) (oi := ⟨some 98, _, _, _, _, _⟩) (v := .string q2) rfl (by kernel_rfl) (by kernel_rfl) (by kernel_rfl) (fun _ _ _ h => h) (Or.inl ⟨by rfl, ?_⟩) (by assumption) ?_; (focus (intro w hSw; (try dsimp only at hSw); go_simp; done)); try simp only [Act.put, List.setIfInBounds_toArray, List.set_cons_zero, List.set_cons_succ])
                      (refine wpAnyH_take (i := 11) (oi := ⟨some 99, _, _, _, _, _⟩) (v := .bool false) rfl (by kernel_rfl) (by kernel_rfl) (by kernel_rfl) (fun _ _ _ h => h) (Or.inl ⟨by rfl, ?_⟩) (by assumption) ?_; (focus (intro w hSw; (try dsimp only at hSw);  have hlk := (HMW.below hSw.1).look (string_keyed Tryz.underlying9) Tryz.underlying104 (hzb _) (keyOf_string_mk Tryz.underlying9 (show q2.size ≤ maxLen by unfold maxLen; omega)) trivial; rw [HFM.out] at hlk; go_simp; done)); try simp only [Act.put, List.setIfInBounds_toArray, List.set_cons_zero, List.set_cons_succ])
                      (refine wpAnyH_take (i := 12) (oi := ⟨some 100, _, _, _, _, _⟩) (v := .bool false) rfl (by kernel_rfl) (by kernel_rfl) (by kernel_rfl) (fun _ _ _ h => h) (Or.inl ⟨by rfl, ?_⟩) (by assumption) ?_; (focus (intro w hSw; (try dsimp only at hSw); go_simp; done)); try simp only [Act.put, List.setIfInBounds_toArray, List.set_cons_zero, List.set_cons_succ])
                      (refine wpAnyH_take (i := 13) (oi := ⟨some 101, _, _, _, _, _⟩) (v := .bool false) rfl (by kernel_rfl) (by kernel_rfl) (by kernel_rfl) (fun _ _ _ h => h) (Or.inl ⟨by rfl, ?_⟩) (by assumption) ?_; (focus (intro w hSw; (try dsimp only at hSw); go_simp; done)); try simp only [Act.put, List.setIfInBounds_toArray, List.set_cons_zero, List.set_cons_succ])
                      (refine wpAnyH_take (i := 14) (oi := ⟨some 102, _, _, _, _, _⟩) (v := .pointer (some ⟨wr.heap.size, 1, none⟩)) rfl (by kernel_rfl) (by kernel_rfl) (by kernel_rfl) (fun _ _ _ h => h) (Or.inl ⟨by rfl, ?_⟩) (by assumption) ?_; (focus (intro w hSw; (try dsimp only at hSw); go_simp; done)); try simp only [Act.put, List.setIfInBounds_toArray, List.set_cons_zero, List.set_cons_succ])
                      (refine wpAnyH_take (i := 15) (oi := ⟨some 103, _, _, _, _, _⟩) (v := .slice A4 ls.length c4) rfl (by kernel_rfl) (by kernel_rfl) (by kernel_rfl) (fun _ _ _ h => h) (Or.inl ⟨by rfl, ?_⟩) (by assumption) ?_; (focus (intro w hSw; (try dsimp only at hSw); go_simp; done)); try simp only [Act.put, List.setIfInBounds_toArray, List.set_cons_zero, List.set_cons_succ])
                      (refine wpAnyH_take (i := 16) (oi := ⟨some 104, _, _, _, _, _⟩) (v := .int .i64 ls.length) rfl (by kernel_rfl) (by kernel_rfl) (by kernel_rfl) (fun _ _ _ h => h) (Or.inl ⟨by rfl, ?_⟩) (by assumption) ?_; (focus (intro w hSw; (try dsimp only at hSw); go_simp; done)); try simp only [Act.put, List.setIfInBounds_toArray, List.set_cons_zero, List.set_cons_succ])
                      (refine wpAnyH_take (i := 17) (oi := ⟨some 105, _, _, _, _, _⟩) (v := .bool false) rfl (by kernel_rfl) (by kernel_rfl) (by kernel_rfl) (fun _ _ _ h => h) (Or.inl ⟨by rfl, ?_⟩) (by assumption) ?_; (focus (intro w hSw; (try dsimp only at hSw); go_simp; done)); try simp only [Act.put, List.setIfInBounds_toArray, List.set_cons_zero, List.set_cons_succ])
                      (refine wpAnyH_take (i := 18) (oi := ⟨some 106, _, _, _, _, _⟩) (v := .bool false) rfl (by kernel_rfl) (by kernel_rfl) (by kernel_rfl) (fun _ _ _ h => h) (Or.inl ⟨by rfl, ?_⟩) (by assumption) ?_; (focus (intro w hSw; (try dsimp only at hSw); go_simp; done)); try simp only [Act.put, List.setIfInBounds_toArray, List.set_cons_zero, List.set_cons_succ])
                      refine wpAnyH_done (by kernel_rfl) ?_ _
                      go_wp2_with fail
                      go_meet
                      exact ⟨by rw [HBD.out], hHeld.1⟩
                · have hv : (!((q1 == 0) && (q2.toList == nm.toList))) = true := by
                    by_cases g : q1 = 0
                    · have := beq_f (fun e => hg ⟨g, e⟩); simp [this]
                    · simp [g]
                  have hbd : Wd.badMod D.mods k = true := by
                    rw [hbad]
                    by_cases g : q1 = 0
                    · have : ¬ q2 = nm := fun e => hg ⟨g, e⟩
                      simp [this]
                    · simp [g]
                  have hne := fun W : World => (named_neq q1 0 q2 nm W).trans (by rw [hv])
                  have HBD := hide hbd
                  clear hbad hbd hv hg hfm
                  refine wp_region_held_drew (S := fun w' => Below W.heap.size W w' ∧ w'.cell? ⟨wr.heap.size, 0, none⟩ = some (.string nm) ∧ w'.cell? ⟨wr.heap.size, 1, none⟩ = some (.slice A4 ls.length c4)) (by kernel_rfl) ⟨Below.drew (Below.refl _ _), k0, k1⟩ (fun hHeld => ?_)
                  (refine wpAnyH_take (i := 0) (oi := ⟨some 88, _, _, _, _, _⟩) (v := .pointer (some ⟨wr.heap.size, 0, none⟩)) rfl (by kernel_rfl) (by kernel_rfl) (by kernel_rfl) (fun _ _ _ h => h) (Or.inl ⟨by rfl, ?_⟩) (by assumption) ?_; (focus (intro w hSw; (try dsimp only at hSw); go_simp; done)); try simp only [Act.put, List.setIfInBounds_toArray, List.set_cons_zero, List.set_cons_succ])
                  (refine wpAnyH_take (i := 1) (oi := ⟨some 89, _, _, _, _, _⟩) (v := .string nm) rfl (by kernel_rfl) (by kernel_rfl) (by kernel_rfl) (fun _ _ _ h => h) (Or.inl ⟨by rfl, ?_⟩) (by assumption) ?_; (focus (intro w hSw; (try dsimp only at hSw); go_simp; done)); try simp only [Act.put, List.setIfInBounds_toArray, List.set_cons_zero, List.set_cons_succ])
                  (refine wpAnyH_take (i := 3) (oi := ⟨some 91, _, _, _, _, _⟩) (v := .pointer (some ⟨wr.heap.size, 0, none⟩)) rfl (by kernel_rfl) (by kernel_rfl) (by kernel_rfl) (fun _ _ _ h => h) (Or.inl ⟨by rfl, ?_⟩) (by assumption) ?_; (focus (intro w hSw; (try dsimp only at hSw); go_simp; done)); try simp only [Act.put, List.setIfInBounds_toArray, List.set_cons_zero, List.set_cons_succ])
                  (refine wpAnyH_take (i := 4) (oi := ⟨some 92, _, _, _, _, _⟩) (v := .string nm) rfl (by kernel_rfl) (by kernel_rfl) (by kernel_rfl) (fun _ _ _ h => h) (Or.inl ⟨by rfl, ?_⟩) (by assumption) ?_; (focus (intro w hSw; (try dsimp only at hSw); go_simp; done)); try simp only [Act.put, List.setIfInBounds_toArray, List.set_cons_zero, List.set_cons_succ])
                  (refine wpAnyH_take (i := 5) (oi := ⟨some 93, _, _, _, _, _⟩) (v := .agg #[.int .i64 0, .string nm]) rfl (by kernel_rfl) (by kernel_rfl) (by kernel_rfl) (fun _ _ _ h => h) (Or.inl ⟨by rfl, ?_⟩) (by assumption) ?_; (focus (intro w hSw; (try dsimp only at hSw); go_simp; done)); try simp only [Act.put, List.setIfInBounds_toArray, List.set_cons_zero, List.set_cons_succ])
                  refine wpAnyH_ready (rs := [2]) (by kernel_rfl) (by simp) ?_
                  refine AllReadyH.cons (o := ⟨some 90, _, _, _, _, _⟩) rfl (fun K hK => ?_) AllReadyH.nil
                  go_simp
                  refine (HCC.out _ hHeld.1).mono ?_
                  rintro e w' ⟨rfl, hb'⟩
                  refine hK.out _ _ (held_step2 (by assumption) (by simpa using hb')) (fun hHeld => ?_)
                  clear hK K
                  skip
                  (refine wpAnyH_take (i := 6) (oi := ⟨some 94, _, _, _, _, _⟩) (v := .bool true) rfl (by kernel_rfl) (by kernel_rfl) (by kernel_rfl) (fun _ _ _ h => h) (Or.inl ⟨by rfl, ?_⟩) (by assumption) ?_; (focus (intro w hSw; (try dsimp only at hSw); go_simp; done)); try simp only [Act.put, List.setIfInBounds_toArray, List.set_cons_zero, List.set_cons_succ])
                  (refine wpAnyH_take (i := 7) (oi := ⟨some 95, _, _, _, _, _⟩) (v := .bool true) rfl (by kernel_rfl) (by kernel_rfl) (by kernel_rfl) (fun _ _ _ h => h) (Or.inl ⟨by rfl, ?_⟩) (by assumption) ?_; (focus (intro w hSw; (try dsimp only at hSw); go_simp; done)); try simp only [Act.put, List.setIfInBounds_toArray, List.set_cons_zero, List.set_cons_succ])
                  (refine wpAnyH_take (i := 8) (oi := ⟨some 96, _, _, _, _, _⟩) (v := undef) rfl (by kernel_rfl) (by kernel_rfl) (by kernel_rfl) (fun _ _ _ h => h) (Or.inr ⟨by rfl, rfl⟩) (by assumption) ?_; try simp only [Act.put, List.setIfInBounds_toArray, List.set_cons_zero, List.set_cons_succ])
                  (refine wpAnyH_take (i := 9) (oi := ⟨some 97, _, _, _, _, _⟩) (v := undef) rfl (by kernel_rfl) (by kernel_rfl) (by kernel_rfl) (fun _ _ _ h => h) (Or.inr ⟨by rfl, rfl⟩) (by assumption) ?_; try simp only [Act.put, List.setIfInBounds_toArray, List.set_cons_zero, List.set_cons_succ])
                  (refine wpAnyH_take (i := 10) (oi := ⟨some 98, _, _, _, _, _⟩) (v := undef) rfl (by kernel_rfl) (by kernel_rfl) (by kernel_rfl) (fun _ _ _ h => h) (Or.inr ⟨by rfl, rfl⟩) (by assumption) ?_; try simp only [Act.put, List.setIfInBounds_toArray, List.set_cons_zero, List.set_cons_succ])
                  (refine wpAnyH_take (i := 11) (oi := ⟨some 99, _, _, _, _, _⟩) (v := undef) rfl (by kernel_rfl) (by kernel_rfl) (by kernel_rfl) (fun _ _ _ h => h) (Or.inr ⟨by rfl, rfl⟩) (by assumption) ?_; try simp only [Act.put, List.setIfInBounds_toArray, List.set_cons_zero, List.set_cons_succ])
                  (refine wpAnyH_take (i := 12) (oi := ⟨some 100, _, _, _, _, _⟩) (v := .bool true) rfl (by kernel_rfl) (by kernel_rfl) (by kernel_rfl) (fun _ _ _ h => h) (Or.inl ⟨by rfl, ?_⟩) (by assumption) ?_; (focus (intro w hSw; (try dsimp only at hSw); go_simp; done)); try simp only [Act.put, List.setIfInBounds_toArray, List.set_cons_zero, List.set_cons_succ])
                  (refine wpAnyH_take (i := 13) (oi := ⟨some 101, _, _, _, _, _⟩) (v := .bool true) rfl (by kernel_rfl) (by kernel_rfl) (by kernel_rfl) (fun _ _ _ h => h) (Or.inl ⟨by rfl, ?_⟩) (by assumption) ?_; (focus (intro w hSw; (try dsimp only at hSw); go_simp; done)); try simp only [Act.put, List.setIfInBounds_toArray, List.set_cons_zero, List.set_cons_succ])
                  (refine wpAnyH_take (i := 14) (oi := ⟨some 102, _, _, _, _, _⟩) (v := undef) rfl (by kernel_rfl) (by kernel_rfl) (by kernel_rfl) (fun _ _ _ h => h) (Or.inr ⟨by rfl, rfl⟩) (by assumption) ?_; try simp only [Act.put, List.setIfInBounds_toArray, List.set_cons_zero, List.set_cons_succ])
                  (refine wpAnyH_take (i := 15) (oi := ⟨some 103, _, _, _, _, _⟩) (v := undef) rfl (by kernel_rfl) (by kernel_rfl) (by kernel_rfl) (fun _ _ _ h => h) (Or.inr ⟨by rfl, rfl⟩) (by assumption) ?_; try simp only [Act.put, List.setIfInBounds_toArray, List.set_cons_zero, List.set_cons_succ])
                  (refine wpAnyH_take (i := 16) (oi := ⟨some 104, _, _, _, _, _⟩) (v := undef) rfl (by kernel_rfl) (by kernel_rfl) (by kernel_rfl) (fun _ _ _ h => h) (Or.inr ⟨by rfl, rfl⟩) (by assumption) ?_; try simp only [Act.put, List.setIfInBounds_toArray, List.set_cons_zero, List.set_cons_succ])
                  (refine wpAnyH_take (i := 17) (oi := ⟨some 105, _, _, _, _, _⟩) (v := undef) rfl (by kernel_rfl) (by kernel_rfl) (by kernel_rfl) (fun _ _ _ h => h) (Or.inr ⟨by rfl, rfl⟩) (by assumption) ?_; try simp only [Act.put, List.setIfInBounds_toArray, List.set_cons_zero, List.set_cons_succ])
                  (refine wpAnyH_take (i := 18) (oi := ⟨some 106, _, _, _, _, _⟩) (v := .bool true) rfl (by kernel_rfl) (by kernel_rfl) (by kernel_rfl) (fun _ _ _ h => h) (Or.inl ⟨by rfl, ?_⟩) (by assumption) ?_; (focus (intro w hSw; (try dsimp only at hSw); go_simp; done)); try simp only [Act.put, List.setIfInBounds_toArray, List.set_cons_zero, List.set_cons_succ])
                  refine wpAnyH_done (by kernel_rfl) ?_ _
                  go_wp2_with fail
                  go_meet
                  exact ⟨by rw [HBD.out], hHeld.1⟩
              case rest =>
                obtain ⟨hbv, BX⟩ := hcut
                have HDX : Below wo.heap.size wo wc := below_then (below_then HD HD.size BW) (Nat.le_trans HD.size BW.size) BX
                have HD0X := below_then hBB hBB.size HDX
                have HBX0 := below_then HB HB.size HDX
                have x0 : wc.cell? ⟨wr.heap.size, 0, none⟩ = some (.string nm) := (BX.cell (p := ⟨wr.heap.size, 0, none⟩) hlW).trans k0
                have HMX := HMW.below BX
                have zX := HD0X.size
                have zD := HD.size
                clear k0 k1 HMW HM BX BW HD HD0 HB hbad
                by_cases hbb : Wd.badMod D.mods k = true
                · rw [hbb] at hbv
                  subst hbv
                  have HQ := hide (Wd.worldOk_four H1.out HX.out HY.out hlt HZ.out hbb)
                  have hblk := (HBX0.block _ (by omega)).trans HR0.out
                  have r0 : wc.cell? ⟨w.heap.size + 1, 0, none⟩ = some _ := blk_cell hblk 0
                  have r1 : wc.cell? ⟨w.heap.size + 1, 1, none⟩ = some _ := blk_cell hblk 1
                  have r2 : wc.cell? ⟨w.heap.size + 1, 2, none⟩ = some _ := blk_cell hblk 2
                  have f0 := blk_free hblk 0
                  have f1 := blk_free hblk 1
                  have f2 := blk_free hblk 2
                  clear hblk
                  clear hbb x0 HMX HF
                  go_wp2_with fail
                  exact bodyPost_ret (v := .agg #[.int .i64 4, .int .i64 k, .int .i64 0]) (by simp [results, Tryz.results21, go_sem, r0, r1, r2]) rfl ⟨by rw [HQ.out], by (repeat (first | with_reducible exact Below.refl _ _ | with_reducible assumption | with_reducible refine Below.alloc ?_ (by first | exact Nat.le_refl _ | exact Below.size (by assumption) | exact Nat.le_trans (Below.size (by assumption)) (by simp; done) | (simp; done) | (simp; omega) | omega) _ | with_reducible refine below_drewN ?_ _ | with_reducible refine Below.drew ?_ | with_reducible refine Below.setCell ?_ (by first | exact Nat.le_refl _ | (simp; done) | (simp; omega) | omega) _))⟩
                · have hbb : Wd.badMod D.mods k = false := by simpa using hbb
                  rw [hbb] at hbv
                  subst hbv
                  have HBB := hide hbb
                  clear hbb
                  go_wp2_with (at_mapUpdate; refine wpList_put rfl _ _ _ 104 rfl (string_keyed Tryz.underlying9) Tryz.underlying104 rfl HMX (by unfold maxLen; omega) (.string nm) (.bool true) (.string nm.data.toList) rfl rfl (keyOf_string_mk Tryz.underlying9 (show nm.size ≤ maxLen by unfold maxLen; omega)) trivial ?_; intro w5 HM5 HG5)
                  go_roundw
                  case rel =>
                    refine ⟨k + 1, _, by go_num, by omega, hide (fun j hj => ?_), hide (fun nm' => ?_), HM5, HDX.grown HG5 HDX.size (fun b hb => by injection hb with hb; omega)⟩
                    · rcases Nat.lt_or_ge j k with h | h
                      · exact HZ.out j h
                      · obtain rfl : j = k := by omega
                        exact HBB.out
                    · rw [Wd.metMod_snoc _ _ _ HMK.out]
                      by_cases he : nm = nm'
                      · subst he
                        rw [put_same _ (show WideAt.IsKeyLit (Lit.string nm.data.toList) from trivial)]; simp
                      · rw [put_other _ _ (fun e => he (by injection e with e; cases nm; cases nm'; simp_all [Array.toList_inj])), HF.out nm']
                        simp [he]
                  case measure => simp [intOf]; omega
            · obtain rfl : k = D.mods.length := by omega
              have HDB := below_then HB HB.size HD
              have hbx := (HDB.block _ (by omega)).trans HBX.out
              have k1 : wr.cell? ⟨w.heap.size, 1, none⟩ = some _ := blk_cell hbx 1
              clear HM HF hbx
              go_wp2_with fail
              clear k1
              obtain ⟨wl, rfl⟩ : ∃ wl : World, wl = wr := ⟨_, rfl⟩
              -- the lines
              go_loopw [10, 11, 116] (fun _ _ i wr => ∃ (k : Nat), i = .int .i64 k ∧ k ≤ D.mods.length ∧ Hid (∀ j, j < k → Wd.badLineOf D.mods j = none) ∧ Below wl.heap.size wl wr) (fun _ _ i _ => D.mods.length - (intOf i).toNat)
              case atStart => exact ⟨0, rfl, by omega, hide (fun j hj => absurd hj (by omega)), Below.refl _ _⟩
              case round =>
                obtain ⟨k, rfl, hk, HL, HE⟩ := hrel
                have HE0 := below_then HD0 HD0.size HE
                by_cases hlt : k < D.mods.length
                · obtain ⟨ad, hA, hc0, A4, c4, hc4, hl4, hm4, hs4⟩ := (hM.below HE0).get hlt
                  subst hA
                  have e1 : wr.cell? (ad.add (k * 2)) = some (.string D.mods[k].name) := hc0.2
                  have e2 : wr.cell? ⟨(ad.add (k * 2)).block, (ad.add (k * 2)).off + 1, none⟩ = some (.slice A4 D.mods[k].lines.length c4) := by have := hc4.2; rwa [add_pos _ _ (by omega)] at this
                  have HMK := hide (List.getElem?_eq_getElem hlt)
                  have hnb := HZ.out k hlt
                  rw [Wd.badMod_at (List.getElem?_eq_getElem hlt)] at hnb
                  have hle : D.mods[k].lines.length ≤ 60 := by
                    have : decide (60 < D.mods[k].lines.length) = false := by
                      cases h60 : decide (60 < D.mods[k].lines.length)
                      · rfl
                      · rw [h60] at hnb; simp at hnb
                    simpa using this
                  clear hc0 hc4 hnb
                  generalize D.mods[k] = m at e1 e2 hl4 hs4 HMK hle
                  obtain ⟨nm, ls⟩ := m
                  replace e1 : wr.cell? (ad.add (k * 2)) = some (.string nm) := e1
                  replace hs4 : Sl kLine wr S A4 ls := hs4
                  replace hle : ls.length ≤ 60 := hle
                  go_wp2_with fail
                  generalize hW : wr.alloc (Obj.cells #[.string nm, .slice A4 ls.length c4] 75) = W
                  have BW : Below wr.heap.size wr W := by rw [← hW]; (repeat (first | with_reducible exact Below.refl _ _ | with_reducible assumption | with_reducible refine Below.alloc ?_ (by first | exact Nat.le_refl _ | exact Below.size (by assumption) | exact Nat.le_trans (Below.size (by assumption)) (by simp; done) | (simp; done) | (simp; omega) | omega) _ | with_reducible refine below_drewN ?_ _ | with_reducible refine Below.drew ?_ | with_reducible refine Below.setCell ?_ (by first | exact Nat.le_refl _ | (simp; done) | (simp; omega) | omega) _))
                  have HBK := hide (show W.heap[wr.heap.size]? = some (Obj.cells #[.string nm, .slice A4 ls.length c4] 75 (0, 0)) by rw [← hW]; exact heap_alloc_new wr _)
                  have hlW : wr.heap.size + 1 ≤ W.heap.size := by rw [← hW]; simp
                  have hsW := hs4.below BW
                  have HEW := below_then HE HE.size BW
                  have zE := HE.size
                  clear hW e1 e2 BW HE HE0 hs4
                  have m1 : W.cell? ⟨wr.heap.size, 1, none⟩ = some (.slice A4 ls.length c4) := blk_cell HBK.out 1
                  go_wp2_with fail
                  clear m1
                  obtain ⟨wm, rfl⟩ : ∃ wm : World, wm = wr := ⟨_, rfl⟩
                  go_loopw [12, 13, 124] (fun _ _ i wr => ∃ (q : Nat), i = .int .i64 q ∧ q ≤ ls.length ∧ Hid (∀ j, j < q → Wd.badLineAt ⟨nm, ls⟩ j = false) ∧ Below W.heap.size W wr) (fun _ _ i _ => ls.length - (intOf i).toNat)
                  case atStart => exact ⟨0, rfl, by omega, hide (fun j hj => absurd hj (by omega)), Below.refl _ _⟩
                  case round =>
                    obtain ⟨q, rfl, hq, HK, HG⟩ := hrel
                    have HGL := below_then HEW HEW.size HG
                    have HG0 := below_then HD0 HD0.size HGL
                    by_cases hql : q < ls.length
                    · obtain ⟨al, hA, l0, l1, l2, l3⟩ := (hsW.below HG).get hql
                      subst hA
                      have e0 : wr.cell? (al.add (q * 4)) = some (.int .i64 ls[q].op) := l0.2
                      have e1 : wr.cell? ⟨(al.add (q * 4)).block, (al.add (q * 4)).off + 1, none⟩ = some (.string ls[q].name) := by have := l1.2; rwa [add_pos _ _ (by omega)] at this
                      have e2 : wr.cell? ⟨(al.add (q * 4)).block, (al.add (q * 4)).off + 2, none⟩ = some (.int .i64 ls[q].num) := by have := l2.2; rwa [add_pos _ _ (by omega)] at this
                      have e3 : wr.cell? ⟨(al.add (q * 4)).block, (al.add (q * 4)).off + 3, none⟩ = some (.int .i64 ls[q].skip) := by have := l3.2; rwa [add_pos _ _ (by omega)] at this
                      have hbl := Wd.badLineAt_at (m := ⟨nm, ls⟩) (List.getElem?_eq_getElem hql)
                      clear l0 l1 l2 l3
                      replace hbl : Wd.badLineAt ⟨nm, ls⟩ q = !Wd.lineOk ls[q] ((ls.length : Int) - q - 1) := hbl
                      generalize ls[q] = l at e0 e1 e2 e3 hbl
                      have zG := HG.size
                      have b1 : (wr.alloc (Obj.cells #[.int .i64 l.op, .string l.name, .int .i64 l.num, .int .i64 l.skip] 106)).cell? ⟨wm.heap.size, 1, none⟩ = some _ := blk_cell ((alloc_old wr _ (by omega)).trans ((HG.block _ hlW).trans HBK.out)) 1
                      by_cases hok : Wd.lineOk l ((ls.length : Int) - q - 1) = true
                      · have HOK := hide hok
                        have HBL := hide (show Wd.badLineAt ⟨nm, ls⟩ q = false by rw [hbl, hok]; rfl)
                        clear hbl hok
                        go_wp2_with fail
                        refine (lineOk_calls l _ _).mono ?_
                        rw [HOK.out]
                        rintro e w6 ⟨rfl, hb6⟩
                        have HG6 : Below W.heap.size W w6 := below_then (HG.alloc HG.size _) (by simp; omega) hb6
                        clear hb6 b1 e0 e1 e2 e3 HG
                        go_wp2_with fail
                        go_roundw
                        case rel =>
                          refine ⟨q + 1, by go_num, by omega, hide (fun j hj => ?_), HG6⟩
                          rcases Nat.lt_or_ge j q with h | h
                          · exact HK.out j h
                          · obtain rfl : j = q := by omega
                            exact HBL.out
                        case measure => simp [intOf]; omega
                      · have hok : Wd.lineOk l ((ls.length : Int) - q - 1) = false := by simpa using hok
                        have HOK := hide hok
                        have hbl1 : Wd.badLineAt ⟨nm, ls⟩ q = true := by rw [hbl, hok]; rfl
                        have HQ := hide (Wd.worldOk_five H1.out HX.out HY.out HZ.out HMK.out HL.out hql HK.out hbl1)
                        clear hbl hok hbl1
                        go_wp2_with fail
                        refine (lineOk_calls l _ _).mono ?_
                        rw [HOK.out]
                        rintro e w6 ⟨rfl, hb6⟩
                        have HG6 : Below W.heap.size W w6 := below_then (HG.alloc HG.size _) (by simp; omega) hb6
                        have HGL6 := below_then HEW HEW.size HG6
                        have HG06 := below_then HD0 HD0.size HGL6
                        have HB06 := below_then HDB HDB.size HGL6
                        have z6 := HGL6.size
                        have hblk := (HB06.block _ (by omega)).trans HR0.out
                        have r0 : w6.cell? ⟨w.heap.size + 1, 0, none⟩ = some _ := blk_cell hblk 0
                        have r1 : w6.cell? ⟨w.heap.size + 1, 1, none⟩ = some _ := blk_cell hblk 1
                        have r2 : w6.cell? ⟨w.heap.size + 1, 2, none⟩ = some _ := blk_cell hblk 2
                        have f0 := blk_free hblk 0
                        have f1 := blk_free hblk 1
                        have f2 := blk_free hblk 2
                        clear hblk
                        clear hb6 b1 e0 e1 e2 e3 HG HGL HG0 HG6
                        go_wp2_with fail
                        exact bodyPost_ret (v := .agg #[.int .i64 5, .int .i64 k, .int .i64 q]) (by simp [results, Tryz.results21, go_sem, r0, r1, r2]) rfl ⟨by rw [HQ.out], by (repeat (first | with_reducible exact Below.refl _ _ | with_reducible assumption | with_reducible refine Below.alloc ?_ (by first | exact Nat.le_refl _ | exact Below.size (by assumption) | exact Nat.le_trans (Below.size (by assumption)) (by simp; done) | (simp; done) | (simp; omega) | omega) _ | with_reducible refine below_drewN ?_ _ | with_reducible refine Below.drew ?_ | with_reducible refine Below.setCell ?_ (by first | exact Nat.le_refl _ | (simp; done) | (simp; omega) | omega) _))⟩
                    · obtain rfl : q = ls.length := by omega
                      go_wp2_with fail
                      go_roundw
                      case rel =>
                        refine ⟨k + 1, by go_num, by omega, hide (fun j hj => ?_), HGL⟩
                        rcases Nat.lt_or_ge j k with h | h
                        · exact HL.out j h
                        · obtain rfl : j = k := by omega
                          unfold Wd.badLineOf
                          rw [HMK.out]
                          exact Wd.first_none HK.out
                      case measure => simp [intOf]; omega
                · obtain rfl : k = D.mods.length := by omega
                  have HQ := hide (Wd.worldOk_zero H1.out HX.out HY.out HZ.out HL.out)
                  have HBE := below_then HDB HDB.size HE
                  have zE := HE.size
                  have hblk := (HBE.block _ (by omega)).trans HR0.out
                  have r0 : wr.cell? ⟨w.heap.size + 1, 0, none⟩ = some _ := blk_cell hblk 0
                  have r1 : wr.cell? ⟨w.heap.size + 1, 1, none⟩ = some _ := blk_cell hblk 1
                  have r2 : wr.cell? ⟨w.heap.size + 1, 2, none⟩ = some _ := blk_cell hblk 2
                  have f0 := blk_free hblk 0
                  have f1 := blk_free hblk 1
                  have f2 := blk_free hblk 2
                  clear hblk
                  go_wp2_with fail
                  exact bodyPost_ret (v := .agg #[.int .i64 0, .int .i64 0, .int .i64 0]) (by simp [results, Tryz.results21, go_sem, r0, r1, r2]) rfl ⟨by rw [HQ.out], by (repeat (first | with_reducible exact Below.refl _ _ | with_reducible assumption | with_reducible refine Below.alloc ?_ (by first | exact Nat.le_refl _ | exact Below.size (by assumption) | exact Nat.le_trans (Below.size (by assumption)) (by simp; done) | (simp; done) | (simp; omega) | omega) _ | with_reducible refine below_drewN ?_ _ | with_reducible refine Below.drew ?_ | with_reducible refine Below.setCell ?_ (by first | exact Nat.le_refl _ | (simp; done) | (simp; omega) | omega) _))⟩
end Go.Proofs.YtkhlicmlnjccdaaGreatDoor
