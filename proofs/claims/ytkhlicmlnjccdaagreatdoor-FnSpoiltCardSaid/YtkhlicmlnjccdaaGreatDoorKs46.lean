/-
  Walks: the program's graph: what a name finds, the edges.
-/
import Derived.Test.YtkhlicmlnjccdaaGreatDoorKs45
import Derived.Test.YtkhlicmlnjccdaaGreatDoorKs39
import Derived.Test.YtkhlicmlnjccdaaGreatDoorKs27
import Derived.Test.YtkhlicmlnjccdaaGreatDoorKs1
namespace Go.Proofs.YtkhlicmlnjccdaaGreatDoor
open Go.RowKit Mem

set_option maxRecDepth 100000 in
set_option maxHeartbeats 2000000 in
theorem gfind_calls (D : WorldD) (vR vM vF : Value) (S : Nat → Prop) (w : World) (h : WIn w S vR vM vF D) (hz : WSz D) (hml : ML w) (frm name : Str) (hf : frm.size ≤ 1048576) (hn : name.size ≤ 1048576) :
    Calls Tryz.prog 61 #[.agg #[vR, vM, vF], .string frm, .string name] w fun e w' => e = .returned (.int .i64 (idxI (Gr.to D frm name))) ∧ Below w.heap.size w w' := by
  obtain ⟨⟨A1, c1, rfl, hc1, hd1, hR⟩, ⟨A2, c2, rfl, hc2, hd2, hM⟩, ⟨A3, c3, rfl, _, _, _⟩⟩ := id h
  have hb0 : Below w.heap.size w (w.alloc (Obj.cells #[.slice A1 D.roots.length c1, .slice A2 D.mods.length c2, .slice A3 D.faults.length c3] 27)) := by (repeat (first | with_reducible exact Below.refl _ _ | with_reducible assumption | with_reducible refine Below.alloc ?_ (by first | exact Nat.le_refl _ | exact Below.size (by assumption) | exact Nat.le_trans (Below.size (by assumption)) (by simp; done) | (simp; done) | (simp; omega) | omega) _ | with_reducible refine below_drewN ?_ _ | with_reducible refine Below.drew ?_ | with_reducible refine Below.setCell ?_ (by first | exact Nat.le_refl _ | (simp; done) | (simp; omega) | omega) _))
  have hblk := heap_alloc_new w (Obj.cells #[.slice A1 D.roots.length c1, .slice A2 D.mods.length c2, .slice A3 D.faults.length c3] 27)
  have hsz := (show w.heap.size < (w.alloc (Obj.cells #[.slice A1 D.roots.length c1, .slice A2 D.mods.length c2, .slice A3 D.faults.length c3] 27)).heap.size by simp)
  have hct := fun W hR hm => iTries_calls A1 c1 D.roots.length D.roots frm name S W hR rfl (by omega) hz.r (by omega) (by omega) hm
  have hq : Gr.to D frm name = Gr.toOf D (Nm.tries D.roots frm name) := rfl
  generalize Nm.tries D.roots frm name = ts at hct hq
  generalize Gr.to D frm name = res at hq ⊢
  have HQ := hide hq
  have HCT := hide hct
  have HBK := hide hblk
  clear hct hq hblk h
  go_enter Tryz.func61, Tryz.ntmps61
  go_wp2_with fail
  generalize w.alloc (Obj.cells #[.slice A1 D.roots.length c1, .slice A2 D.mods.length c2, .slice A3 D.faults.length c3] 27) = W0 at hb0 HBK hsz ⊢
  refine (HCT.out W0 (hR.below hb0) (hml.below hb0)).mono ?_
  rintro e w1 ⟨v8, rfl, H8, hb1⟩
  obtain ⟨A8, c8, hv8, hc8, hd8, hsl⟩ := H8.slV
  subst hv8
  have HB1 := below_then hb0 hb0.size hb1
  have HBK1 := hide ((hb1.block _ hsz).trans HBK.out)
  have hz1 : w.heap.size < w1.heap.size := Nat.lt_of_lt_of_le hsz hb1.size
  have hlm := mem_maxLen _ (show ts.length ≤ maxLen by omega)
  have hlm2 := mem_maxLen _ (show D.mods.length ≤ maxLen by omega)
  clear H8 HCT hb1 HBK
  go_wp2_with fail
  go_loopw [8, 17] (fun _ i wr => ∃ k : Nat, i = .int .i64 k ∧ k ≤ ts.length ∧ Hid (res = Gr.toOf D (ts.drop k)) ∧ Below w1.heap.size w1 wr) (fun _ i _ => ts.length - (intOf i).toNat)
  case atStart => exact ⟨0, rfl, by omega, HQ, Below.refl _ _⟩
  case round =>
    obtain ⟨k, rfl, hk, HL, HB⟩ := hrel
    have HBB := below_then HB1 HB1.size HB
    by_cases hlt : k < ts.length
    · obtain ⟨ad, hA, hc⟩ := (hsl.below HB).get hlt
      subst hA
      have e0 : wr.cell? (ad.add k) = some (.string ts[k]) := by simpa [fStr, kStr] using hc.2
      have hdr := drop_eq hlt
      clear hc
      generalize ts[k] = n at e0 hdr
      have HL2 := hide (HL.out.trans (by rw [hdr]))
      have hbk := (HB.block _ hz1).trans HBK1.out
      have k1 : wr.cell? ⟨w.heap.size, 1, none⟩ = some (.slice A2 D.mods.length c2) := blk_cell hbk 1
      have zr := HB.size
      obtain ⟨wm, hwm⟩ : ∃ wm : World, wm = wr := ⟨_, rfl⟩
      have HBm := HB
      have HBBm := HBB
      rw [← hwm] at HBm HBBm
      clear hdr hbk HB HBB
      go_wp2_with fail
      clear k1 e0
      rw [← hwm]
      clear hwm zr
      go_loopw [9, 10, 24] (fun _ _ i wr => ∃ j : Nat, i = .int .i64 j ∧ j ≤ D.mods.length ∧ Hid (∀ q, q < j → ∀ u, D.mods[q]? = some u → u.name ≠ n) ∧ Below wm.heap.size wm wr) (fun _ _ i _ => D.mods.length - (intOf i).toNat)
      case atStart => exact ⟨0, rfl, by omega, hide (fun j hj => absurd hj (by omega)), Below.refl _ _⟩
      case round =>
        obtain ⟨j, rfl, hj, HN, HG⟩ := hrel
        have HGG := below_then HBBm HBBm.size HG
        have HG1 := below_then HBm HBm.size HG
        by_cases hjl : j < D.mods.length
        · obtain ⟨bd, hA, hc0, A4, c4, hc4, hl4, hm4, hs4⟩ := (hM.below HGG).get hjl
          subst hA
          have e1 : wr.cell? (bd.add (j * 2)) = some (.string D.mods[j].name) := hc0.2
          have e2 : wr.cell? ⟨(bd.add (j * 2)).block, (bd.add (j * 2)).off + 1, none⟩ = some (.slice A4 D.mods[j].lines.length c4) := by have := hc4.2; rwa [add_pos _ _ (by omega)] at this
          have hx := hide (List.getElem?_eq_getElem hjl)
          clear hc0 hc4 hs4
          generalize D.mods[j] = x at e1 e2 hx hl4
          obtain ⟨xn, xl⟩ := x
          replace e1 : wr.cell? (bd.add (j * 2)) = some (.string xn) := e1
          by_cases he : xn = n
          · have e3 := beq_t he
            have HQ := hide (HL2.out.trans (Gr.toOf_some (Ld.modAt_at hx.out he HN.out)))
            clear he
            go_wp2_with fail
            go_ret
            exact ⟨ret_int (by rw [HQ.out]; rfl), by (repeat (first | with_reducible exact Below.refl _ _ | with_reducible assumption | with_reducible refine Below.alloc ?_ (by first | exact Nat.le_refl _ | exact Below.size (by assumption) | exact Nat.le_trans (Below.size (by assumption)) (by simp; done) | (simp; done) | (simp; omega) | omega) _ | with_reducible refine below_drewN ?_ _ | with_reducible refine Below.drew ?_ | with_reducible refine Below.setCell ?_ (by first | exact Nat.le_refl _ | (simp; done) | (simp; omega) | omega) _))⟩
          · have e3 := beq_f he
            have HE := hide he
            clear he
            go_wp2_with fail
            go_roundw
            case rel =>
              refine ⟨j + 1, by go_num, by omega, hide (fun q hq u hu => ?_), by (repeat (first | with_reducible exact Below.refl _ _ | with_reducible assumption | with_reducible refine Below.alloc ?_ (by first | exact Nat.le_refl _ | exact Below.size (by assumption) | exact Nat.le_trans (Below.size (by assumption)) (by simp; done) | (simp; done) | (simp; omega) | omega) _ | with_reducible refine below_drewN ?_ _ | with_reducible refine Below.drew ?_ | with_reducible refine Below.setCell ?_ (by first | exact Nat.le_refl _ | (simp; done) | (simp; omega) | omega) _))⟩
              rcases Nat.lt_or_ge q j with h | h
              · exact HN.out q h u hu
              · obtain rfl : q = j := by omega
                rw [hx.out] at hu
                obtain rfl := Option.some.inj hu
                exact HE.out
            case measure => simp [intOf]; omega
        · obtain rfl : j = D.mods.length := by omega
          have HR := hide (HL2.out.trans (Gr.toOf_none (Ld.modAt_no (l := D.mods) (n := n) (fun q u hu => HN.out q (by
            rcases Nat.lt_or_ge q D.mods.length with h | h
            · exact h
            · rw [List.getElem?_eq_none h] at hu; simp at hu) u hu))))
          go_wp2_with fail
          go_roundw
          case rel => exact ⟨k + 1, by go_num, by omega, HR, HG1⟩
          case measure => simp [intOf]; omega
    · obtain rfl : k = ts.length := by omega
      have HR := hide (HL.out.trans (by rw [List.drop_length]; rfl : Gr.toOf D (ts.drop ts.length) = none))
      go_wp2_with fail
      go_ret
      exact ⟨ret_int (by rw [HR.out]; rfl), HBB⟩

set_option maxRecDepth 100000 in
set_option maxHeartbeats 4000000 in
theorem iEdges_calls (D : WorldD) (vR vM vF : Value) (S : Nat → Prop) (w : World) (h : WIn w S vR vM vF D) (hz : WSz D) (hml : ML w) :
    Calls Tryz.prog 23 #[.agg #[vR, vM, vF]] w (RetOwn fEdge w 111 (Gr.edges D)) := by
  obtain ⟨⟨A1, c1, rfl, hc1, hd1, hR⟩, ⟨A2, c2, rfl, hc2, hd2, hM⟩, ⟨A3, c3, rfl, _, _, _⟩⟩ := id h
  have hb0 : Below w.heap.size w (w.alloc (Obj.cells #[.slice A1 D.roots.length c1, .slice A2 D.mods.length c2, .slice A3 D.faults.length c3] 27)) := by (repeat (first | with_reducible exact Below.refl _ _ | with_reducible assumption | with_reducible refine Below.alloc ?_ (by first | exact Nat.le_refl _ | exact Below.size (by assumption) | exact Nat.le_trans (Below.size (by assumption)) (by simp; done) | (simp; done) | (simp; omega) | omega) _ | with_reducible refine below_drewN ?_ _ | with_reducible refine Below.drew ?_ | with_reducible refine Below.setCell ?_ (by first | exact Nat.le_refl _ | (simp; done) | (simp; omega) | omega) _))
  have hblk := heap_alloc_new w (Obj.cells #[.slice A1 D.roots.length c1, .slice A2 D.mods.length c2, .slice A3 D.faults.length c3] 27)
  have hsz := (show w.heap.size < (w.alloc (Obj.cells #[.slice A1 D.roots.length c1, .slice A2 D.mods.length c2, .slice A3 D.faults.length c3] 27)).heap.size by simp)
  have hok := iWorldOk_calls D _ _ _ S _ (h.below hb0) hz (hml.below hb0)
  have hwg := wr_guard
  by_cases h0 : (Wd.worldOk D).1 = 0
  · rw [Wd.worldOk_zero_of h0] at hok
    have hne := wr_zero
    have hEd := Gr.edges_ok h0
    have hwk := Wd.wok_of h0
    have hlm : D.mods.length ≤ 60 := hwk.mods
    have HLL := hide hwk.lines
    have hul := hide (Gr.edgesUp_len (D := D) hwk.lines)
    generalize Gr.edges D = res at hEd ⊢
    have HED := hide hEd
    have HOK := hide hok
    have HBK := hide hblk
    have HZ := hide hz
    have hlmI : (D.mods.length : Int) ≤ 60 := by omega
    clear hok hEd hwk hblk hz h0
    go_enter Tryz.func23, Tryz.ntmps23
    go_wp2_with fail
    refine HOK.out.mono ?_
    rintro e w1 ⟨rfl, hb1⟩
    have HB1 := below_then hb0 hb0.size hb1
    have hbk1 := (hb1.block _ hsz).trans HBK.out
    have hz1 : w.heap.size < w1.heap.size := Nat.lt_of_lt_of_le hsz hb1.size
    have k1 : w1.cell? ⟨w.heap.size, 1, none⟩ = some (.slice A2 D.mods.length c2) := blk_cell hbk1 1
    have HBK1 := hide hbk1
    clear HOK hb1 hbk1 HBK
    go_wp2_with fail
    clear k1
    go_loopw [3, 4, 5, 15] (fun v _ _ i wr => ∃ (k : Nat), i = .int .i64 k ∧ k ≤ D.mods.length ∧ Own fEdge wr w1.heap.size 111 v (Gr.edgesUp D k) ∧ Below w1.heap.size w1 wr) (fun _ _ _ i _ => D.mods.length - (intOf i).toNat)
    case atStart => exact ⟨0, rfl, by omega, Own.nil _ _ _, Below.refl _ _⟩
    case round =>
      obtain ⟨k, rfl, hk, HO, HB⟩ := hrel
      have HBB := below_then HB1 HB1.size HB
      by_cases hlt : k < D.mods.length
      · obtain ⟨ad, hA, hc0, A4, c4, hc4, hl4, hm4, hs4⟩ := hM.get hlt
        subst hA
        have e1 : wr.cell? (ad.add (k * 2)) = some (.string D.mods[k].name) := (HBB.cell (World.block_lt_of_cell? _ _ hc0.2)).trans hc0.2
        have e2 : wr.cell? ⟨(ad.add (k * 2)).block, (ad.add (k * 2)).off + 1, none⟩ = some (.slice A4 D.mods[k].lines.length c4) := by have := (HBB.cell (World.block_lt_of_cell? _ _ hc4.2)).trans hc4.2; rwa [add_pos _ _ (by omega)] at this
        have HMK := hide (List.getElem?_eq_getElem hlt)
        have hle := HLL.out _ (List.getElem_mem hlt)
        have hnm := HZ.out.m _ (List.getElem_mem hlt)
        have HNM := hide (HZ.out.l _ (List.getElem_mem hlt))
        clear hc0 hc4
        generalize D.mods[k] = m at e1 e2 hl4 hs4 HMK hle hnm HNM
        obtain ⟨nm, ls⟩ := m
        replace e1 : wr.cell? (ad.add (k * 2)) = some (.string nm) := e1
        have HS4 := hide (show Sl kLine w S A4 ls from hs4)
        clear hs4
        replace hle : ls.length ≤ 60 := hle
        replace hnm : nm.size ≤ 1048576 := hnm
        have hleI : (ls.length : Int) ≤ 60 := by omega
        have hbW : Below wr.heap.size wr (wr.alloc (Obj.cells #[.string nm, .slice A4 ls.length c4] 75)) := by (repeat (first | with_reducible exact Below.refl _ _ | with_reducible assumption | with_reducible refine Below.alloc ?_ (by first | exact Nat.le_refl _ | exact Below.size (by assumption) | exact Nat.le_trans (Below.size (by assumption)) (by simp; done) | (simp; done) | (simp; omega) | omega) _ | with_reducible refine below_drewN ?_ _ | with_reducible refine Below.drew ?_ | with_reducible refine Below.setCell ?_ (by first | exact Nat.le_refl _ | (simp; done) | (simp; omega) | omega) _))
        have hnW := heap_alloc_new wr (Obj.cells #[.string nm, .slice A4 ls.length c4] 75)
        have hzW : wr.heap.size < (wr.alloc (Obj.cells #[.string nm, .slice A4 ls.length c4] 75)).heap.size := by simp
        go_upto_region 7 with fail
        generalize wr.alloc (Obj.cells #[.string nm, .slice A4 ls.length c4] 75) = W at hbW hnW hzW ⊢
        have HOW := HO.below hbW
        have HBW := below_then HB HB.size hbW
        have HBK := hide hnW
        have m1 : W.cell? ⟨wr.heap.size, 1, none⟩ = some (.slice A4 ls.length c4) := blk_cell hnW 1
        have zr := HB.size
        obtain ⟨pb, hpb⟩ : ∃ pb, wr.heap.size = pb := ⟨_, rfl⟩
        rw [hpb] at HBK m1 hzW zr ⊢
        clear hbW hnW e1 e2 HB HO HBB hpb
        go_wp2_with fail
        clear m1
        obtain ⟨wm, rfl⟩ : ∃ wm : World, wm = wr := ⟨_, rfl⟩
        go_loopw [3, 6, 7, 23] (fun v _ _ i wr => ∃ (q : Nat), i = .int .i64 q ∧ q ≤ ls.length ∧ Own fEdge wr w1.heap.size 111 v (Gr.edgesUp D k ++ Gr.edgesIn D k ⟨nm, ls⟩ q) ∧ Hid (wr.heap[pb]? = some (.cells #[.string nm, .slice A4 ls.length c4] 75 (0, 0))) ∧ Below w1.heap.size w1 wr ∧ pb < wr.heap.size) (fun _ _ _ i _ => ls.length - (intOf i).toNat)
        case atStart => exact ⟨0, rfl, by omega, by simpa [Gr.edgesIn] using HOW, HBK, HBW, hzW⟩
        case round =>
          clear HOW HBW HBK hzW
          obtain ⟨q, rfl, hq, HO, HBK, HG, hpl⟩ := hrel
          have HGG := below_then HB1 HB1.size HG
          by_cases hql : q < ls.length
          · obtain ⟨al, hA, l0, l1, l2, l3⟩ := (HS4.out.below HGG).get hql
            subst hA
            have e0 : wr.cell? (al.add (q * 4)) = some (.int .i64 ls[q].op) := l0.2
            have e1 : wr.cell? ⟨(al.add (q * 4)).block, (al.add (q * 4)).off + 1, none⟩ = some (.string ls[q].name) := by have := l1.2; rwa [add_pos _ _ (by omega)] at this
            have e2 : wr.cell? ⟨(al.add (q * 4)).block, (al.add (q * 4)).off + 2, none⟩ = some (.int .i64 ls[q].num) := by have := l2.2; rwa [add_pos _ _ (by omega)] at this
            have e3 : wr.cell? ⟨(al.add (q * 4)).block, (al.add (q * 4)).off + 3, none⟩ = some (.int .i64 ls[q].skip) := by have := l3.2; rwa [add_pos _ _ (by omega)] at this
            have hin := hide (Gr.edgesIn_at (D := D) (i := k) (m := ⟨nm, ls⟩) (List.getElem?_eq_getElem hql))
            have hls := HNM.out _ (List.getElem_mem hql)
            clear l0 l1 l2 l3
            generalize ls[q] = l at e0 e1 e2 e3 hin hls
            obtain ⟨lo, ln, lu, lk⟩ := l
            replace e0 : wr.cell? (al.add (q * 4)) = some (.int .i64 lo) := e0
            replace hls : ln.size ≤ 1048576 := hls
            have hbL : Below wr.heap.size wr (wr.alloc (Obj.cells #[.int .i64 lo, .string ln, .int .i64 lu, .int .i64 lk] 106)) := by (repeat (first | with_reducible exact Below.refl _ _ | with_reducible assumption | with_reducible refine Below.alloc ?_ (by first | exact Nat.le_refl _ | exact Below.size (by assumption) | exact Nat.le_trans (Below.size (by assumption)) (by simp; done) | (simp; done) | (simp; omega) | omega) _ | with_reducible refine below_drewN ?_ _ | with_reducible refine Below.drew ?_ | with_reducible refine Below.setCell ?_ (by first | exact Nat.le_refl _ | (simp; done) | (simp; omega) | omega) _))
            have hnL := heap_alloc_new wr (Obj.cells #[.int .i64 lo, .string ln, .int .i64 lu, .int .i64 lk] 106)
            have hzL : wr.heap.size < (wr.alloc (Obj.cells #[.int .i64 lo, .string ln, .int .i64 lu, .int .i64 lk] 106)).heap.size := by simp
            go_upto_region 10 with fail
            generalize wr.alloc (Obj.cells #[.int .i64 lo, .string ln, .int .i64 lu, .int .i64 lk] 106) = WL at hbL hnL hzL ⊢
            have HOL := HO.below hbL
            have HGL := below_then HG HG.size hbL
            have HGGL := below_then HGG HGG.size hbL
            have hbkL := (hbL.block _ hpl).trans HBK.out
            have n0 : WL.cell? ⟨wr.heap.size, 0, none⟩ = some (.int .i64 lo) := blk_cell hnL 0
            have n1 : WL.cell? ⟨wr.heap.size, 1, none⟩ = some (.string ln) := blk_cell hnL 1
            have p0 : WL.cell? ⟨pb, 0, none⟩ = some (.string nm) := blk_cell hbkL 0
            have hbwL := ((below_then HG HG.size hbL).block _ hz1).trans HBK1.out
            have k0 : WL.cell? ⟨w.heap.size, 0, none⟩ = some (.slice A1 D.roots.length c1) := blk_cell hbwL 0
            have k1 : WL.cell? ⟨w.heap.size, 1, none⟩ = some _ := blk_cell hbwL 1
            have k2 : WL.cell? ⟨w.heap.size, 2, none⟩ = some (.slice A3 D.faults.length c3) := blk_cell hbwL 2
            have HBKL := hide hbkL
            have HBWL := hide hbwL
            clear hbL hnL hbkL hbwL HO HG HGG e0 e1 e2 e3 HBK
            by_cases hop : lo = 3 ∨ lo = 4
            · have hin2 := hide (hin.out.trans (show _ = Gr.edgesIn D k ⟨nm, ls⟩ q ++ [⟨k, q, idxI (Gr.to D nm ln)⟩] by unfold Gr.edge1; rw [if_pos hop]))
              have hto := gfind_calls D _ _ _ S WL (h.below HGGL) HZ.out (hml.below HGGL) nm ln hnm hls
              obtain ⟨td, htd⟩ : ∃ td, idxI (Gr.to D nm ln) = td := ⟨_, rfl⟩
              rw [htd] at hin2 hto
              have HTO := hide hto
              have hcase : (((lo == 3) = true)) ∨ ((lo == 3) = false ∧ (lo == 4) = true) := by
                rcases hop with h | h
                · exact .inl (by simpa using h)
                · exact .inr ⟨by rw [h]; rfl, by simpa using h⟩
              clear hin hto htd hop
              rcases hcase with hA1 | ⟨hA1, hA2⟩
              all_goals
                go_wp2_with fail
                refine HTO.out.mono ?_
                rintro e w5 ⟨rfl, hb5⟩
                have HO5 := HOL.below hb5
                have HG5 := below_then HGL HGL.size hb5
                have hbk5 := (hb5.block _ (Nat.lt_of_lt_of_le hpl (by omega))).trans HBKL.out
                obtain ⟨A9, c9, hv9, hoc, hom, _⟩ := HO5.slV
                subst hv9
                have hlen : (Gr.edgesUp D k ++ Gr.edgesIn D k ⟨nm, ls⟩ q).length ≤ 3660 := by
                  rw [List.length_append]
                  have h1 := hul.out k
                  have h2 := Gr.edgesIn_len D k ⟨nm, ls⟩ q
                  omega
                have HRES := hide (show Gr.edgesUp D k ++ Gr.edgesIn D k ⟨nm, ls⟩ (q + 1) = (Gr.edgesUp D k ++ Gr.edgesIn D k ⟨nm, ls⟩ q) ++ [⟨k, q, td⟩] by rw [hin2.out, List.append_assoc])
                generalize Gr.edgesUp D k ++ Gr.edgesIn D k ⟨nm, ls⟩ q = out at HO5 hlen HRES hoc ⊢
                have hzz : WL.heap.size ≤ w5.heap.size := hb5.size
                clear HTO hb5 HOL HGL HGGL HBKL HBWL n0 n1 p0 k0 k1 k2 hin2
                go_wp2_with (at_builtin; refine append_own_g fEdge w1.heap.size rfl _ _ 54 111 (.agg #[.int .i64 0, .int .i64 0, .int .i64 0]) 24 rfl Tryz.underlying54 info_edge rfl (by omega) (.slice A9 out.length c9) out ⟨k, q, td⟩ #[.int .i64 k, .int .i64 q, .int .i64 td] rfl rfl w5.heap.size rfl rfl HO5 HG5 HG5.size (by omega) ?_; intro v1 w6 hown hbel hgr _; have hbk6 := hide ((hgr.block pb (by omega) (not_row (apart_blk HO5 hbk5 (by decide)))).trans hbk5); have hpl6 : pb < w6.heap.size := Nat.lt_of_lt_of_le (by omega) hgr.size; clear hgr HO5 hbk5 HG5)
                go_roundw
                case rel => exact ⟨q + 1, by go_num, by omega, by rw [HRES.out]; exact hown, hbk6, hbel, hpl6⟩
                case measure => simp [intOf]; omega
            · have hin2 := hide (hin.out.trans (show _ = Gr.edgesIn D k ⟨nm, ls⟩ q by unfold Gr.edge1; rw [if_neg hop, List.append_nil]))
              have hA1 : (lo == 3) = false := by
                have : lo ≠ 3 := fun e => hop (.inl e)
                simpa using this
              have hA2 : (lo == 4) = false := by
                have : lo ≠ 4 := fun e => hop (.inr e)
                simpa using this
              have hplL : pb < WL.heap.size := by omega
              clear hop hin
              go_wp2_with fail
              go_roundw
              case rel => exact ⟨q + 1, by go_num, by omega, by rw [hin2.out]; exact HOL, HBKL, HGL, hplL⟩
              case measure => simp [intOf]; omega
          · obtain rfl : q = ls.length := by omega
            have hup := hide (Gr.edgesUp_at HMK.out)
            go_wp2_with fail
            go_roundw
            case rel => exact ⟨k + 1, by go_num, by omega, by rw [hup.out]; exact HO, HG⟩
            case measure => simp [intOf]; omega
      · obtain rfl : k = D.mods.length := by omega
        go_wp2_with fail
        go_ret
        exact ⟨_, rfl, by rw [HED.out]; exact HO.more (by omega), HBB⟩
  · have HEd := hide (Gr.edges_bad h0)
    obtain ⟨r1, r2, r3, hq⟩ : ∃ r1 r2 r3, Wd.worldOk D = (r1, r2, r3) := ⟨_, _, _, rfl⟩
    rw [hq] at hok h0
    have hne := fun (w : World) => wr_pos (a := r1) h0 r2 r3 w
    clear hq
    have HOK := hide hok
    clear hok h0
    go_enter Tryz.func23, Tryz.ntmps23
    go_wp2_with fail
    refine HOK.out.mono ?_
    rintro e w1 ⟨rfl, hb1⟩
    have HB1 := below_then hb0 hb0.size hb1
    clear hb1
    go_wp2_with fail
    go_ret
    exact ⟨_, rfl, by rw [HEd.out]; exact Own.nil _ _ _, HB1⟩
end Go.Proofs.YtkhlicmlnjccdaaGreatDoor
