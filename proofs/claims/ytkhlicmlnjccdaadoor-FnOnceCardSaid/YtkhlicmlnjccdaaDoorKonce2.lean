/-
  FnOnce: the walk, from what a drawn world is on.
-/
import Derived.Test.YtkhlicmlnjccdaaDoorKd34
import Derived.Test.YtkhlicmlnjccdaaDoorKonce1
namespace Go.Proofs.YtkhlicmlnjccdaaDoor
open Go.RowKit Mem

set_option maxRecDepth 100000 in
set_option maxHeartbeats 4000000 in
theorem once_walk (HDR : DrawnP) (A : Option Addr) (cp nn : Nat) (code : List Int) (S : Nat → Prop) (w : World) (h : Sl kU8 w S A code) (hn : code.length = nn) (hs : ∀ x ∈ code, 0 ≤ x ∧ x ≤ 255) (hl : nn ≤ maxLen) (hm : ML w) :
    Calls Tryd.prog 16 #[.slice A nn cp] w fun e w' => e = .returned (.bool true) ∧ Below w.heap.size w w' := by
  unfold maxLen at hl
  by_cases hbig : 1048576 < nn
  · go_enter Tryd.func16, Tryd.ntmps16
    go_wp2_with fail
    go_ret
    exact ⟨rfl, by (repeat (first | with_reducible exact Below.refl _ _ | with_reducible assumption | with_reducible refine Below.alloc ?_ (by first | exact Nat.le_refl _ | exact Below.size (by assumption) | exact Nat.le_trans (Below.size (by assumption)) (by simp; done) | (simp; done) | (simp; omega) | omega) _ | with_reducible refine below_drewN ?_ _ | with_reducible refine Below.drew ?_ | with_reducible refine Below.setCell ?_ (by first | exact Nat.le_refl _ | (simp; done) | (simp; omega) | omega) _))⟩
  have hdr := HDR A cp nn code S w h hn hs (by omega)
  have HD := hide hdr
  have HM := hide hm
  clear hdr HDR h hn hs hm
  go_enter Tryd.func16, Tryd.ntmps16
  go_wp2_with fail
  refine HD.out.mono ?_
  rintro e w1 ⟨vR, vM, vF, nm, D, rfl, hin1, hsz, hnm, _, _, hb1⟩
  clear HD
  obtain ⟨⟨A1, c1, hv1, _, _, _⟩, ⟨A2, c2, hv2, _, _, _⟩, ⟨A3, c3, hv3, _, _, _⟩⟩ := id hin1
  subst hv1 hv2 hv3
  have hbA : Below w1.heap.size w1 (w1.alloc (Obj.cells #[.slice A1 D.roots.length c1, .slice A2 D.mods.length c2, .slice A3 D.faults.length c3] 46)) := by (repeat (first | with_reducible exact Below.refl _ _ | with_reducible assumption | with_reducible refine Below.alloc ?_ (by first | exact Nat.le_refl _ | exact Below.size (by assumption) | exact Nat.le_trans (Below.size (by assumption)) (by simp; done) | (simp; done) | (simp; omega) | omega) _ | with_reducible refine below_drewN ?_ _ | with_reducible refine Below.drew ?_ | with_reducible refine Below.setCell ?_ (by first | exact Nat.le_refl _ | (simp; done) | (simp; omega) | omega) _))
  have hnA := heap_alloc_new w1 (Obj.cells #[.slice A1 D.roots.length c1, .slice A2 D.mods.length c2, .slice A3 D.faults.length c3] 46)
  have hzA : w1.heap.size < (w1.alloc (Obj.cells #[.slice A1 D.roots.length c1, .slice A2 D.mods.length c2, .slice A3 D.faults.length c3] 46)).heap.size := by simp
  go_upto_region 4 with fail
  generalize w1.alloc (Obj.cells #[.slice A1 D.roots.length c1, .slice A2 D.mods.length c2, .slice A3 D.faults.length c3] 46) = W2 at hbA hnA hzA ⊢
  have B2 := below_then hb1 hb1.size hbA
  have hin2 := hin1.below hbA
  have k0 : W2.cell? ⟨w1.heap.size, 0, none⟩ = some (.slice A1 D.roots.length c1) := blk_cell hnA 0
  have k1 : W2.cell? ⟨w1.heap.size, 1, none⟩ = some (.slice A2 D.mods.length c2) := blk_cell hnA 1
  have k2 : W2.cell? ⟨w1.heap.size, 2, none⟩ = some (.slice A3 D.faults.length c3) := blk_cell hnA 2
  have hlc := iLoad_calls D _ _ _ _ W2 hin2 hsz (HM.out.below B2) nm hnm
  have hls := fun (W : World) (S : Nat → Prop) (hi : WIn W S (.slice A1 D.roots.length c1) (.slice A2 D.mods.length c2) (.slice A3 D.faults.length c3) D) => sLoad_calls D _ _ _ S W hi hsz nm hnm
  have hhid := Ld.load_once D nm (fun h0 => ⟨(Wd.wok_of h0).mods, (Wd.wok_of h0).lines⟩)
  have hsml := Ld.load_small D nm (fun h0 => ⟨(Wd.wok_of h0).mods, (Wd.wok_of h0).lines⟩)
  obtain ⟨c, st, hld⟩ : ∃ c st, Ld.load D nm = (c, st) := ⟨_, _, rfl⟩
  rw [hld] at hlc hls hhid hsml
  have HLC := hide hlc
  have HLS := hide hls
  have HH1 := hide hhid.1
  have HH2 := hide hhid.2
  have hr9 : st.recs.length ≤ 9000 := hsml.1
  have hs6 : st.states.length ≤ 60 := hsml.2.1
  have HNA := hide hnA
  have HIN := hide hin2
  clear hlc hls hhid hsml hld hnA hin1 hin2 hb1 hsz
  go_wp2_with fail
  refine (unhide HLC).mono ?_
  rintro e w3 ⟨vc, vs, vr, rfl, hrep, hb3⟩
  obtain ⟨xA, xc, hx, _, _, _⟩ := hrep.recs.slV
  subst hx
  obtain ⟨yA, yc, hy, _, _, _⟩ := hrep.states.slV
  subst hy
  obtain ⟨KK, zs, hzs, _⟩ := id hrep.rings
  obtain ⟨zA, zc, hz'⟩ := row_form hzs
  subst hz'
  clear hzs HLC
  have B3 := below_then B2 B2.size hb3
  have hrg3 := hrep.rg
  have hx3 := (hb3.block _ hzA).trans HNA.out
  have hin3 := HIN.out.below hb3
  have hz13 : w1.heap.size < w3.heap.size := Nat.lt_of_lt_of_le hzA hb3.size
  clear k0 k1 k2 hbA B2 hb3 hrep HIN HNA hzA
  dsimp only
  have hbB : Below w3.heap.size w3 (w3.alloc (Obj.cells #[.int .i64 c, .slice xA st.recs.length xc, .slice yA st.states.length yc, .int .i64 st.reads, .slice zA st.rings.length zc] 41)) := by (repeat (first | with_reducible exact Below.refl _ _ | with_reducible assumption | with_reducible refine Below.alloc ?_ (by first | exact Nat.le_refl _ | exact Below.size (by assumption) | exact Nat.le_trans (Below.size (by assumption)) (by simp; done) | (simp; done) | (simp; omega) | omega) _ | with_reducible refine below_drewN ?_ _ | with_reducible refine Below.drew ?_ | with_reducible refine Below.setCell ?_ (by first | exact Nat.le_refl _ | (simp; done) | (simp; omega) | omega) _))
  have hnB := heap_alloc_new w3 (Obj.cells #[.int .i64 c, .slice xA st.recs.length xc, .slice yA st.states.length yc, .int .i64 st.reads, .slice zA st.rings.length zc] 41)
  have hzB : w3.heap.size < (w3.alloc (Obj.cells #[.int .i64 c, .slice xA st.recs.length xc, .slice yA st.states.length yc, .int .i64 st.reads, .slice zA st.rings.length zc] 41)).heap.size := by simp
  go_upto_region 5 with fail
  generalize w3.alloc (Obj.cells #[.int .i64 c, .slice xA st.recs.length xc, .slice yA st.states.length yc, .int .i64 st.reads, .slice zA st.rings.length zc] 41) = W4 at hbB hnB hzB ⊢
  have B4 := below_then B3 B3.size hbB
  have hx4 := (hbB.block _ hz13).trans hx3
  have HX4 := hide hx4
  have hz14 : w1.heap.size < W4.heap.size := Nat.lt_of_lt_of_le hz13 hbB.size
  have hrg4 := hrg3.below hbB
  have HRG := hide hrg4
  have HN4 := hide hnB
  have hin4 := hin3.below hbB
  have HI4 := hide hin4
  clear hrg3 hrg4 hin3 hin4 hbB hnB hx3 B3 hx4
  refine wp_region_held_drew (S := fun w' => Below W4.heap.size W4 w') (by kernel_rfl) (Below.drew (Below.refl _ _)) (fun hHeld => ?_)
  (refine wpAnyH_take (i := 0) (oi := ⟨some 27, _, _, _, _, _⟩) (v := .agg #[.int .i64 c, .slice xA st.recs.length xc, .slice yA st.states.length yc, .int .i64 st.reads, .slice zA st.rings.length zc]) rfl (by kernel_rfl) (by kernel_rfl) (by kernel_rfl) (fun _ _ _ h => h) (Or.inl ⟨by rfl, ?_⟩) (by assumption) ?_; (focus (intro w hSw; (try dsimp only at hSw); have hbk := (hSw.block _ hzB).trans HN4.out; have q0 := blk_cell hbk 0; have q1 := blk_cell hbk 1; have q2 := blk_cell hbk 2; have q3 := blk_cell hbk 3; have q4 := blk_cell hbk 4; go_simp; done)); try simp only [Act.put, List.setIfInBounds_toArray, List.set_cons_zero, List.set_cons_succ])
  (refine wpAnyH_take (i := 1) (oi := ⟨some 28, _, _, _, _, _⟩) (v := .agg #[.slice A1 D.roots.length c1, .slice A2 D.mods.length c2, .slice A3 D.faults.length c3]) rfl (by kernel_rfl) (by kernel_rfl) (by kernel_rfl) (fun _ _ _ h => h) (Or.inl ⟨by rfl, ?_⟩) (by assumption) ?_; (focus (intro w hSw; (try dsimp only at hSw); have hbk := (hSw.block _ hz14).trans HX4.out; have q0 := blk_cell hbk 0; have q1 := blk_cell hbk 1; have q2 := blk_cell hbk 2; go_simp; done)); try simp only [Act.put, List.setIfInBounds_toArray, List.set_cons_zero, List.set_cons_succ])
  (refine wpAnyH_take (i := 2) (oi := ⟨some 29, _, _, _, _, _⟩) (v := .string nm) rfl (by kernel_rfl) (by kernel_rfl) (by kernel_rfl) (fun _ _ _ h => h) (Or.inl ⟨by rfl, ?_⟩) (by assumption) ?_; (focus (intro w hSw; (try dsimp only at hSw); go_simp; done)); try simp only [Act.put, List.setIfInBounds_toArray, List.set_cons_zero, List.set_cons_succ])
  refine wpAnyH_ready (rs := [3]) (by kernel_rfl) (by simp) ?_
  refine AllReadyH.cons (o := ⟨some 30, _, _, _, _, _⟩) rfl (fun K hK => ?_) AllReadyH.nil
  go_simp
  refine (HLS.out W4.drew _ (HI4.out.below (Below.drew (Below.refl _ _)))).mono ?_
  rintro e w5 ⟨vc, vs, vr, rfl, hrep, hb5⟩
  have hb45 : Below W4.heap.size W4 w5 := ⟨hb5.os, hb5.tape, hb5.output, hb5.size, hb5.block⟩
  refine hK.out _ _ hb45 (fun hHeld => ?_)
  clear hK K
  skip
  refine wpAnyH_ready (rs := [4]) (by kernel_rfl) (by simp) ?_
  refine AllReadyH.cons (o := ⟨some 31, _, _, _, _, _⟩) rfl (fun K hK => ?_) AllReadyH.nil
  go_simp
  refine (wReport_same c st.reads st _ _ _ _ _ _ _ _ w5 (HRG.out.below hb45) hrep.rg).mono ?_
  rintro e w6 ⟨rfl, hb6⟩
  have hb46 := below_then hb45 hb45.size hb6
  refine hK.out _ _ hb46 (fun hHeld => ?_)
  clear hK K hb5 hb6 hrep hb45 HLS HI4
  try simp only [Act.put, List.setIfInBounds_toArray, List.set_cons_zero, List.set_cons_succ]
  (refine wpAnyH_take (i := 5) (oi := ⟨some 32, _, _, _, _, _⟩) (v := .bool false) rfl (by kernel_rfl) (by kernel_rfl) (by kernel_rfl) (fun _ _ _ h => h) (Or.inl ⟨by rfl, ?_⟩) (by assumption) ?_; (focus (intro w hSw; (try dsimp only at hSw); go_simp; done)); try simp only [Act.put, List.setIfInBounds_toArray, List.set_cons_zero, List.set_cons_succ])
  refine wpAnyH_done (by kernel_rfl) ?_ _
  clear hHeld
  have hz3 : w3.heap.size < w6.heap.size := Nat.lt_of_lt_of_le hzB hb46.size
  have hn6 := (hb46.block _ hzB).trans HN4.out
  have HN := hide hn6
  have HST := hide (SlV.slA (HRG.out.below hb46).states)
  have HRC := hide (SlV.slA (HRG.out.below hb46).recs)
  have B6 := below_then B4 B4.size hb46
  have r1 : w6.cell? ⟨w3.heap.size, 1, none⟩ = some (.slice xA st.recs.length xc) := blk_cell hn6 1
  have hsI : (st.states.length : Int) ≤ 60 := by omega
  have hrI : (st.recs.length : Int) ≤ 9000 := by omega
  clear hn6 hb46 HN4 HRG HX4 B4 hzB hz14 hz13
  go_wp2_with fail
  clear r1
  go_loopw [6, 7, 36] (fun vo vb v wr => ∃ (k : Nat) (os bs : List Str), v = .int .i64 k ∧ k ≤ st.recs.length ∧ os.length ≤ k ∧ bs.length ≤ k ∧ Own fStr wr w6.heap.size 9 vo os ∧ Own fStr wr w6.heap.size 9 vb bs ∧ Hid (∀ b1 b2, vo.ownBlock = some b1 → vb.ownBlock = some b2 → b1 ≠ b2) ∧ Hid (Ld.orun (st.recs.take k) ([], []) = some (os, bs)) ∧ Below w6.heap.size w6 wr) (fun _ _ v _ => st.recs.length - (intOf v).toNat)
  case atStart => exact ⟨0, [], [], rfl, by omega, by simp, by simp, Own.nil _ _ _, Own.nil _ _ _, hide (fun b1 b2 e _ => by cases e), hide rfl, Below.refl _ _⟩
  case round =>
    obtain ⟨k, os, bs, rfl, hk, hol, hbl, HO, HBg, HAP, HRU, HB⟩ := hrel
    by_cases hlt : k < st.recs.length
    · obtain ⟨ad, hA, l0, l1, l2, l3⟩ := (HRC.out.below HB).get hlt
      subst hA
      have e0 : wr.cell? (ad.add (k * 4)) = some (.int .i64 st.recs[k].kind) := l0.2
      have e1 : wr.cell? ⟨(ad.add (k * 4)).block, (ad.add (k * 4)).off + 1, none⟩ = some (.string st.recs[k].name) := by have := l1.2; rwa [add_pos _ _ (by omega)] at this
      have e2 : wr.cell? ⟨(ad.add (k * 4)).block, (ad.add (k * 4)).off + 2, none⟩ = some (.int .i64 st.recs[k].code) := by have := l2.2; rwa [add_pos _ _ (by omega)] at this
      have e3 : wr.cell? ⟨(ad.add (k * 4)).block, (ad.add (k * 4)).off + 3, none⟩ = some (.int .i64 st.recs[k].num) := by have := l3.2; rwa [add_pos _ _ (by omega)] at this
      obtain ⟨a0, b0, ha0, hst0, hc0⟩ := Ld.orun_at HH1.out (List.getElem?_eq_getElem hlt)
      rw [HRU.out] at ha0
      obtain rfl := Option.some.inj ha0
      have HEN := hide (HH2.out _ (List.getElem_mem hlt))
      clear l0 l1 l2 l3 ha0
      have HS0 := hide hst0
      have HC0 := hide hc0
      clear hst0 hc0
      generalize st.recs[k] = q at e0 e1 e2 e3 HS0 HEN
      obtain ⟨qk, qn, qc, qm⟩ := q
      replace e0 : wr.cell? (ad.add (k * 4)) = some (.int .i64 qk) := e0
      replace e1 : wr.cell? ⟨(ad.add (k * 4)).block, (ad.add (k * 4)).off + 1, none⟩ = some (.string qn) := e1
      replace e2 : wr.cell? ⟨(ad.add (k * 4)).block, (ad.add (k * 4)).off + 2, none⟩ = some (.int .i64 qc) := e2
      replace e3 : wr.cell? ⟨(ad.add (k * 4)).block, (ad.add (k * 4)).off + 3, none⟩ = some (.int .i64 qm) := e3
      have hbX : Below wr.heap.size wr (wr.alloc (Obj.cells #[.int .i64 qk, .string qn, .int .i64 qc, .int .i64 qm] 49)) := by (repeat (first | with_reducible exact Below.refl _ _ | with_reducible assumption | with_reducible refine Below.alloc ?_ (by first | exact Nat.le_refl _ | exact Below.size (by assumption) | exact Nat.le_trans (Below.size (by assumption)) (by simp; done) | (simp; done) | (simp; omega) | omega) _ | with_reducible refine below_drewN ?_ _ | with_reducible refine Below.drew ?_ | with_reducible refine Below.setCell ?_ (by first | exact Nat.le_refl _ | (simp; done) | (simp; omega) | omega) _))
      have hnX := heap_alloc_new wr (Obj.cells #[.int .i64 qk, .string qn, .int .i64 qc, .int .i64 qm] 49)
      have hzX : wr.heap.size < (wr.alloc (Obj.cells #[.int .i64 qk, .string qn, .int .i64 qc, .int .i64 qm] 49)).heap.size := by simp
      have zr := HB.size
      go_upto_region 12 with fail
      generalize wr.alloc (Obj.cells #[.int .i64 qk, .string qn, .int .i64 qc, .int .i64 qm] 49) = WX at hbX hnX hzX ⊢
      have x0 : WX.cell? ⟨wr.heap.size, 0, none⟩ = some (.int .i64 qk) := blk_cell hnX 0
      have x1 : WX.cell? ⟨wr.heap.size, 1, none⟩ = some (.string qn) := blk_cell hnX 1
      have HO1 := HO.below hbX
      have HB1 := HBg.below hbX
      have HBX := below_then HB HB.size hbX
      have HNX := hide hnX
      have zX := hbX.size
      obtain ⟨oA, oc, hov, _, _, _⟩ := HO1.slV
      subst hov
      obtain ⟨bA, bc, hbv, _, _, hbs⟩ := HB1.slV
      subst hbv
      have HBS := hide hbs
      have hlI : (bs.length : Int) ≤ 9000 := by omega
      have hlO : (os.length : Int) ≤ 9000 := by omega
      clear hbX hnX e0 e1 e2 e3 HO HBg hbs
      obtain ⟨wk, rfl⟩ : ∃ wk : World, wk = wr := ⟨_, rfl⟩
      by_cases hk2 : qk = 2
      · subst hk2
        have hs0 := HS0.out
        unfold Ld.ostep at hs0
        rw [if_pos (show ((2 : Int) = 2) from rfl)] at hs0
        have hnin : ¬ ∃ y ∈ bs, y = qn := fun hc => by rw [if_pos hc] at hs0; cases hs0
        rw [if_neg hnin] at hs0
        have HS1 := hide (Option.some.inj hs0).symm
        have HNI := hide hnin
        clear hs0 hnin HS0 HEN
        go_wp2_with fail
        clear x0 x1
        go_loopw [46] (fun v wq => ∃ j : Nat, v = .int .i64 j ∧ j ≤ bs.length ∧ Below WX.heap.size WX wq) (fun v _ => bs.length - (intOf v).toNat)
        case atStart => exact ⟨0, rfl, by omega, Below.refl _ _⟩
        case round =>
          obtain ⟨j, rfl, hj, HQ⟩ := hrel
          have hnx := (HQ.block _ hzX).trans HNX.out
          have x1 : wr.cell? ⟨wk.heap.size, 1, none⟩ = some (.string qn) := blk_cell hnx 1
          by_cases hjt : j < bs.length
          · obtain ⟨bd, hA, hcell⟩ := (HBS.out.below HQ).get hjt
            subst hA
            have e0 : wr.cell? (bd.add j) = some (.string bs[j]) := by have := hcell.2; simpa [fStr, kStr] using this
            have hbq := beq_f (show bs[j] ≠ qn from fun e => HNI.out ⟨_, List.getElem_mem hjt, e⟩)
            clear hcell
            generalize bs[j] = y at e0 hbq
            go_wp2_with fail
            go_roundw
            case rel => exact ⟨j + 1, by go_num, by omega, HQ⟩
            case measure => simp [intOf]; omega
          · obtain rfl : j = bs.length := by omega
            have HO2 := HO1.below HQ
            have HB2 := HB1.below HQ
            have zq := HQ.size
            have hap : (Value.slice oA os.length oc).ownBlock = none ∨ (Value.slice oA os.length oc).ownBlock ≠ (Value.slice bA bs.length bc).ownBlock := by
              cases he : (Value.slice oA os.length oc).ownBlock with
              | none => exact .inl rfl
              | some b => exact .inr (fun e => HAP.out b b he e.symm rfl)
            have HBQ := below_then HBX HBX.size HQ
            have HAQ := hide hap
            have HNQ := hide hnx
            clear hap hnx HQ
            go_upto_region 21 with (at_builtin; refine append_own_g fStr w6.heap.size rfl _ _ 29 9 (.string ByteArray.empty) 16 rfl Tryd.underlying29 info_str rfl (by omega) (.slice bA bs.length bc) bs qn #[.string qn] rfl rfl wr.heap.size rfl rfl HB2 (Below.refl _ _) (by omega) (by omega) ?_; intro v5 w5 hown hbel hgr hnew; have hnx5 := (hgr.block _ (by omega) (not_row (apart_blk HB2 HNQ.out (by decide)))).trans HNQ.out; have x15 := blk_cell hnx5 1)
            have HO5 := HO2.kept hgr HAQ.out
            have HB5 := HBQ.grown hgr (by omega) (fun b e => HB2.le e)
            have z5 := hgr.size
            have hap2 : v5.ownBlock = none ∨ v5.ownBlock ≠ (Value.slice oA os.length oc).ownBlock := by
              rcases hnew with e | ⟨b, e, hb⟩
              · rw [e]
                cases he : (Value.slice bA bs.length bc).ownBlock with
                | none => exact .inl rfl
                | some b => exact .inr (fun e2 => HAP.out b b e2.symm he rfl)
              · rw [e]
                exact .inr (fun e2 => by have := HO2.lt e2.symm; omega)
            have HA2 := hide hap2
            have HOW := hide hown
            clear hap2 hown hbel hgr hnew HB2 hnx5
            go_upto_region 40 with (at_builtin; refine append_own_g fStr w6.heap.size rfl _ _ 29 9 (.string ByteArray.empty) 16 rfl Tryd.underlying29 info_str rfl (by omega) (.slice oA os.length oc) os qn #[.string qn] rfl rfl w5.heap.size rfl rfl HO5 (Below.refl _ _) (by omega) (by omega) ?_; intro v9 w9 hown9 hbel9 hgr9 hnew9)
            have HOW9 := hide hown9
            have HOB := hide (HOW.out.kept hgr9 HA2.out)
            have HB9 := HB5.grown hgr9 (by omega) (fun b e => HO5.le e)
            have HAP9 : Hid (∀ b1 b2, v9.ownBlock = some b1 → v5.ownBlock = some b2 → b1 ≠ b2) := hide (fun b1 b2 e1 e2 => by
              rcases hnew9 with e | ⟨b, e, hb⟩
              · intro he
                subst he
                rcases HA2.out with h | h
                · rw [h] at e2; cases e2
                · exact h (by rw [e2, ← e, e1])
              · rw [e] at e1
                have := Option.some.inj e1
                have := HOW.out.lt e2
                omega)
            clear hown9 hbel9 hgr9 hnew9 HO5 x15
            go_wp2_with fail
            go_roundw
            case rel =>
              have hx := HS1.out
              subst hx
              exact ⟨k + 1, _, _, by go_num, by omega, by simp; omega, by simp; omega, HOW9.out, HOB.out, HAP9, HC0, HB9⟩
            case measure => simp [intOf]; omega
      · have hkb2 : (qk == 2) = false := by simpa using hk2
        by_cases hk3 : qk = 3
        · subst hk3
          have hs0 := HS0.out
          unfold Ld.ostep at hs0
          rw [if_neg (show ¬ ((3 : Int) = 2) by decide), if_pos (show ((3 : Int) = 3) from rfl)] at hs0
          have hlast : os.getLast? = some qn := Classical.byContradiction fun hc => by rw [if_neg hc] at hs0; cases hs0
          rw [if_pos hlast] at hs0
          have HS1 := hide (Option.some.inj hs0).symm
          obtain ⟨ini, hini⟩ := List.getLast?_eq_some_iff.1 hlast
          obtain ⟨n, hn⟩ : ∃ n, os.length = n + 1 := ⟨ini.length, by rw [hini]; simp⟩
          have hat : os[n]? = some qn := by
            rw [hini] at hn ⊢
            obtain rfl : ini.length = n := by simpa using hn
            simp
          clear hs0 hlast hini HS0
          rw [hn] at HO1 hlO ⊢
          obtain ⟨gO, oc', hov, _, _, _, _, _, _⟩ := HO1.form (fun e => by rw [e] at hn; simp at hn)
          injection hov with hA hA2 hA3
          clear hA2 hA3
          subst hA
          have c0 : WX.cell? ⟨gO, n, none⟩ = some (.string qn) := by have := HO1.cellAt (i := n) (j := 0) (u := .string qn) hat rfl; simpa [fStr, kStr] using this
          have hbq := nbeq_t (rfl : qn = qn)
          have hcap : n + 1 ≤ oc := by omega
          have hcapI : (n : Int) + 1 ≤ oc := by omega
          have HHN := hide hn
          have hz0 : (((n + 1 : Nat) : Int) == 0) = false := by simp; omega
          have hz1 : ((n : Int) + 1 == 0) = false := by simp; omega
          clear hat hn
          go_upto_region 23 with fail
          go_quiet (fail)
          go_wp2_with fail
          go_roundw
          case rel =>
            have hx := HS1.out
            subst hx
            exact ⟨k + 1, os, bs, by go_num, by omega, by omega, by omega, HO1.below (by (repeat (first | with_reducible exact Below.refl _ _ | with_reducible assumption | with_reducible refine Below.alloc ?_ (by first | exact Nat.le_refl _ | exact Below.size (by assumption) | exact Nat.le_trans (Below.size (by assumption)) (by simp; done) | (simp; done) | (simp; omega) | omega) _ | with_reducible refine below_drewN ?_ _ | with_reducible refine Below.drew ?_ | with_reducible refine Below.setCell ?_ (by first | exact Nat.le_refl _ | (simp; done) | (simp; omega) | omega) _))), HB1.below (by (repeat (first | with_reducible exact Below.refl _ _ | with_reducible assumption | with_reducible refine Below.alloc ?_ (by first | exact Nat.le_refl _ | exact Below.size (by assumption) | exact Nat.le_trans (Below.size (by assumption)) (by simp; done) | (simp; done) | (simp; omega) | omega) _ | with_reducible refine below_drewN ?_ _ | with_reducible refine Below.drew ?_ | with_reducible refine Below.setCell ?_ (by first | exact Nat.le_refl _ | (simp; done) | (simp; omega) | omega) _))), HAP, HC0, by (repeat (first | with_reducible exact Below.refl _ _ | with_reducible assumption | with_reducible refine Below.alloc ?_ (by first | exact Nat.le_refl _ | exact Below.size (by assumption) | exact Nat.le_trans (Below.size (by assumption)) (by simp; done) | (simp; done) | (simp; omega) | omega) _ | with_reducible refine below_drewN ?_ _ | with_reducible refine Below.drew ?_ | with_reducible refine Below.setCell ?_ (by first | exact Nat.le_refl _ | (simp; done) | (simp; omega) | omega) _))⟩
          case measure => simp [intOf]; omega
        · have hkb3 : (qk == 3) = false := by simpa using hk3
          by_cases hk4 : qk = 4
          · subst hk4
            have hs0 := HS0.out
            unfold Ld.ostep at hs0
            rw [if_neg (show ¬ ((4 : Int) = 2) by decide), if_neg (show ¬ ((4 : Int) = 3) by decide), if_pos (show (4 : Int) = 4 ∨ (4 : Int) = 5 from .inl rfl)] at hs0
            have hlast : os.getLast? = some qn := Classical.byContradiction fun hc => by rw [if_neg hc] at hs0; cases hs0
            rw [if_pos hlast] at hs0
            have HS1 := hide (Option.some.inj hs0).symm
            obtain ⟨ini, hini⟩ := List.getLast?_eq_some_iff.1 hlast
            obtain ⟨n, hn⟩ : ∃ n, os.length = n + 1 := ⟨ini.length, by rw [hini]; simp⟩
            have hat : os[n]? = some qn := by
              rw [hini] at hn ⊢
              obtain rfl : ini.length = n := by simpa using hn
              simp
            clear hs0 hlast hini HS0
            rw [hn] at HO1 hlO ⊢
            obtain ⟨gO, oc', hov, _, _, _, _, _, _⟩ := HO1.form (fun e => by rw [e] at hn; simp at hn)
            injection hov with hA hA2 hA3
            clear hA2 hA3
            subst hA
            have c0 : WX.cell? ⟨gO, n, none⟩ = some (.string qn) := by have := HO1.cellAt (i := n) (j := 0) (u := .string qn) hat rfl; simpa [fStr, kStr] using this
            have hbq := nbeq_t (rfl : qn = qn)
            have hcap : n + 1 ≤ oc := by omega
            have hcapI : (n : Int) + 1 ≤ oc := by omega
            have HHN := hide hn
            have hz0 : (((n + 1 : Nat) : Int) == 0) = false := by simp; omega
            have hz1 : ((n : Int) + 1 == 0) = false := by simp; omega
            clear hat hn
            go_upto_region 28 with fail
            go_quiet (fail)
            have x2c : WX.cell? ⟨w3.heap.size, 2, none⟩ = some (.slice yA st.states.length yc) := blk_cell ((HBX.block _ hz3).trans HN.out) 2
            go_wp2_with fail
            have HOP := hide (HO1.pop HHN.out)
            clear x0 x1 x2c c0 hbq HO1
            go_loopw [13, 105] (fun mt v wq => ∃ (j : Nat) (m : Bool), v = .int .i64 j ∧ mt = .bool m ∧ j ≤ st.states.length ∧ Hid ((∃ (i : Nat) (t : StateD), i < j ∧ st.states[i]? = some t ∧ t.name = qn) → m = true) ∧ Below WX.heap.size WX wq) (fun _ v _ => st.states.length - (intOf v).toNat)
            case atStart => exact ⟨0, false, rfl, rfl, by omega, hide (fun ⟨i, t, hi, _⟩ => by omega), by (repeat (first | with_reducible exact Below.refl _ _ | with_reducible assumption | with_reducible refine Below.alloc ?_ (by first | exact Nat.le_refl _ | exact Below.size (by assumption) | exact Nat.le_trans (Below.size (by assumption)) (by simp; done) | (simp; done) | (simp; omega) | omega) _ | with_reducible refine below_drewN ?_ _ | with_reducible refine Below.drew ?_ | with_reducible refine Below.setCell ?_ (by first | exact Nat.le_refl _ | (simp; done) | (simp; omega) | omega) _))⟩
            case round =>
              obtain ⟨j, m, rfl, rfl, hj, HM, HQ⟩ := hrel
              have hnx := (HQ.block _ hzX).trans HNX.out
              have zq := HQ.size
              by_cases hjt : j < st.states.length
              · obtain ⟨td, hA, l0, l1, l2, l3⟩ := (HST.out.below (below_then HBX HBX.size HQ)).get hjt
                subst hA
                have e0 : wr.cell? (td.add (j * 4)) = some (.string st.states[j].name) := l0.2
                have e1 : wr.cell? ⟨(td.add (j * 4)).block, (td.add (j * 4)).off + 1, none⟩ = some (.int .i64 st.states[j].now) := by have := l1.2; rwa [add_pos _ _ (by omega)] at this
                have e2 : wr.cell? ⟨(td.add (j * 4)).block, (td.add (j * 4)).off + 2, none⟩ = some (.int .i64 st.states[j].give) := by have := l2.2; rwa [add_pos _ _ (by omega)] at this
                have e3 : wr.cell? ⟨(td.add (j * 4)).block, (td.add (j * 4)).off + 3, none⟩ = some (.int .i64 st.states[j].code) := by have := l3.2; rwa [add_pos _ _ (by omega)] at this
                have HG := hide (List.getElem?_eq_getElem hjt)
                have HE2 := hide (HEN.out (by simp)).2
                have HE3 := hide (HE2.out _ (List.getElem_mem hjt))
                clear l0 l1 l2 l3 HE2
                generalize st.states[j] = t at e0 e1 e2 e3 HG HE3
                obtain ⟨tn, tw, tg, tc⟩ := t
                replace e0 : wr.cell? (td.add (j * 4)) = some (.string tn) := e0
                replace e1 : wr.cell? ⟨(td.add (j * 4)).block, (td.add (j * 4)).off + 1, none⟩ = some (.int .i64 tw) := e1
                replace e2 : wr.cell? ⟨(td.add (j * 4)).block, (td.add (j * 4)).off + 2, none⟩ = some (.int .i64 tg) := e2
                replace e3 : wr.cell? ⟨(td.add (j * 4)).block, (td.add (j * 4)).off + 3, none⟩ = some (.int .i64 tc) := e3
                have hbY : Below wr.heap.size wr (wr.alloc (Obj.cells #[.string tn, .int .i64 tw, .int .i64 tg, .int .i64 tc] 53)) := by (repeat (first | with_reducible exact Below.refl _ _ | with_reducible assumption | with_reducible refine Below.alloc ?_ (by first | exact Nat.le_refl _ | exact Below.size (by assumption) | exact Nat.le_trans (Below.size (by assumption)) (by simp; done) | (simp; done) | (simp; omega) | omega) _ | with_reducible refine below_drewN ?_ _ | with_reducible refine Below.drew ?_ | with_reducible refine Below.setCell ?_ (by first | exact Nat.le_refl _ | (simp; done) | (simp; omega) | omega) _))
                have hnY := heap_alloc_new wr (Obj.cells #[.string tn, .int .i64 tw, .int .i64 tg, .int .i64 tc] 53)
                go_upto_region 35 with fail
                generalize wr.alloc (Obj.cells #[.string tn, .int .i64 tw, .int .i64 tg, .int .i64 tc] 53) = WY at hbY hnY ⊢
                have y0 : WY.cell? ⟨wr.heap.size, 0, none⟩ = some (.string tn) := blk_cell hnY 0
                have y1 : WY.cell? ⟨wr.heap.size, 1, none⟩ = some (.int .i64 tw) := blk_cell hnY 1
                have y3 : WY.cell? ⟨wr.heap.size, 3, none⟩ = some (.int .i64 tc) := blk_cell hnY 3
                have hnx2 := (hbY.block _ (by omega)).trans hnx
                have x0 : WY.cell? ⟨wk.heap.size, 0, none⟩ = some (.int .i64 4) := blk_cell hnx2 0
                have x1 : WY.cell? ⟨wk.heap.size, 1, none⟩ = some (.string qn) := blk_cell hnx2 1
                have x2 : WY.cell? ⟨wk.heap.size, 2, none⟩ = some (.int .i64 qc) := blk_cell hnx2 2
                have HQ2 := below_then HQ HQ.size hbY
                clear hnx hnx2 hbY hnY e0 e1 e2 e3 HQ
                by_cases hnq : tn = qn
                · have hbn := beq_t hnq
                  obtain ⟨f1, f2, f3⟩ := HE3.out hnq
                  replace f1 : tw = 2 := f1 (by simp)
                  replace f3 : tc = qc := f3
                  subst f1 f3
                  clear f2 HE3
                  go_wp2_with fail
                  go_roundw
                  case rel => exact ⟨j + 1, true, by go_num, rfl, by omega, hide (fun _ => rfl), HQ2⟩
                  case measure => simp [intOf]; omega
                · have hbn := beq_f hnq
                  have HNE := hide hnq
                  clear HE3 hnq
                  go_wp2_with fail
                  go_roundw
                  case rel => exact ⟨j + 1, m, by go_num, rfl, by omega, hide (fun ⟨i, t, hi, ht, htn⟩ => by
                    rcases Nat.lt_or_ge i j with h | h
                    · exact HM.out ⟨i, t, h, ht, htn⟩
                    · obtain rfl : i = j := by omega
                      rw [HG.out] at ht
                      obtain rfl := Option.some.inj ht
                      exact absurd htn HNE.out), HQ2⟩
                  case measure => simp [intOf]; omega
              · obtain rfl : j = st.states.length := by omega
                obtain rfl : m = true := HM.out (by
                  obtain ⟨t, ht, htn⟩ := (HEN.out (by simp)).1
                  obtain ⟨i, hi⟩ := List.getElem?_of_mem ht
                  have hil : i < st.states.length := by
                    rcases Nat.lt_or_ge i st.states.length with h | h
                    · exact h
                    · rw [List.getElem?_eq_none h] at hi; cases hi
                  exact ⟨i, t, hil, hi, htn⟩)
                have HOQ := hide (HOP.out.below HQ)
                have HBQ := hide (HB1.below HQ)
                have HBZ := below_then HBX HBX.size HQ
                clear HQ hnx HM
                go_wp2_with fail
                go_roundw
                case rel =>
                  have hx := HS1.out
                  subst hx
                  exact ⟨k + 1, _, bs, by go_num, by omega, by rw [List.length_dropLast]; omega, by omega, HOQ.out, HBQ.out, hide (fun b1 b2 e1 e2 => HAP.out b1 b2 e1 e2), HC0, HBZ⟩
                case measure => simp [intOf]; omega
          · have hkb4 : (qk == 4) = false := by simpa using hk4
            by_cases hk5 : qk = 5
            · subst hk5
              have hs0 := HS0.out
              unfold Ld.ostep at hs0
              rw [if_neg (show ¬ ((5 : Int) = 2) by decide), if_neg (show ¬ ((5 : Int) = 3) by decide), if_pos (show (5 : Int) = 4 ∨ (5 : Int) = 5 from .inr rfl)] at hs0
              have hlast : os.getLast? = some qn := Classical.byContradiction fun hc => by rw [if_neg hc] at hs0; cases hs0
              rw [if_pos hlast] at hs0
              have HS1 := hide (Option.some.inj hs0).symm
              obtain ⟨ini, hini⟩ := List.getLast?_eq_some_iff.1 hlast
              obtain ⟨n, hn⟩ : ∃ n, os.length = n + 1 := ⟨ini.length, by rw [hini]; simp⟩
              have hat : os[n]? = some qn := by
                rw [hini] at hn ⊢
                obtain rfl : ini.length = n := by simpa using hn
                simp
              clear hs0 hlast hini HS0
              rw [hn] at HO1 hlO ⊢
              obtain ⟨gO, oc', hov, _, _, _, _, _, _⟩ := HO1.form (fun e => by rw [e] at hn; simp at hn)
              injection hov with hA hA2 hA3
              clear hA2 hA3
              subst hA
              have c0 : WX.cell? ⟨gO, n, none⟩ = some (.string qn) := by have := HO1.cellAt (i := n) (j := 0) (u := .string qn) hat rfl; simpa [fStr, kStr] using this
              have hbq := nbeq_t (rfl : qn = qn)
              have hcap : n + 1 ≤ oc := by omega
              have hcapI : (n : Int) + 1 ≤ oc := by omega
              have HHN := hide hn
              have hz0 : (((n + 1 : Nat) : Int) == 0) = false := by simp; omega
              have hz1 : ((n : Int) + 1 == 0) = false := by simp; omega
              clear hat hn
              go_upto_region 28 with fail
              go_quiet (fail)
              have x2c : WX.cell? ⟨w3.heap.size, 2, none⟩ = some (.slice yA st.states.length yc) := blk_cell ((HBX.block _ hz3).trans HN.out) 2
              go_wp2_with fail
              have HOP := hide (HO1.pop HHN.out)
              clear x0 x1 x2c c0 hbq HO1
              go_loopw [13, 105] (fun mt v wq => ∃ (j : Nat) (m : Bool), v = .int .i64 j ∧ mt = .bool m ∧ j ≤ st.states.length ∧ Hid ((∃ (i : Nat) (t : StateD), i < j ∧ st.states[i]? = some t ∧ t.name = qn) → m = true) ∧ Below WX.heap.size WX wq) (fun _ v _ => st.states.length - (intOf v).toNat)
              case atStart => exact ⟨0, false, rfl, rfl, by omega, hide (fun ⟨i, t, hi, _⟩ => by omega), by (repeat (first | with_reducible exact Below.refl _ _ | with_reducible assumption | with_reducible refine Below.alloc ?_ (by first | exact Nat.le_refl _ | exact Below.size (by assumption) | exact Nat.le_trans (Below.size (by assumption)) (by simp; done) | (simp; done) | (simp; omega) | omega) _ | with_reducible refine below_drewN ?_ _ | with_reducible refine Below.drew ?_ | with_reducible refine Below.setCell ?_ (by first | exact Nat.le_refl _ | (simp; done) | (simp; omega) | omega) _))⟩
              case round =>
                obtain ⟨j, m, rfl, rfl, hj, HM, HQ⟩ := hrel
                have hnx := (HQ.block _ hzX).trans HNX.out
                have zq := HQ.size
                by_cases hjt : j < st.states.length
                · obtain ⟨td, hA, l0, l1, l2, l3⟩ := (HST.out.below (below_then HBX HBX.size HQ)).get hjt
                  subst hA
                  have e0 : wr.cell? (td.add (j * 4)) = some (.string st.states[j].name) := l0.2
                  have e1 : wr.cell? ⟨(td.add (j * 4)).block, (td.add (j * 4)).off + 1, none⟩ = some (.int .i64 st.states[j].now) := by have := l1.2; rwa [add_pos _ _ (by omega)] at this
                  have e2 : wr.cell? ⟨(td.add (j * 4)).block, (td.add (j * 4)).off + 2, none⟩ = some (.int .i64 st.states[j].give) := by have := l2.2; rwa [add_pos _ _ (by omega)] at this
                  have e3 : wr.cell? ⟨(td.add (j * 4)).block, (td.add (j * 4)).off + 3, none⟩ = some (.int .i64 st.states[j].code) := by have := l3.2; rwa [add_pos _ _ (by omega)] at this
                  have HG := hide (List.getElem?_eq_getElem hjt)
                  have HE2 := hide (HEN.out (by simp)).2
                  have HE3 := hide (HE2.out _ (List.getElem_mem hjt))
                  clear l0 l1 l2 l3 HE2
                  generalize st.states[j] = t at e0 e1 e2 e3 HG HE3
                  obtain ⟨tn, tw, tg, tc⟩ := t
                  replace e0 : wr.cell? (td.add (j * 4)) = some (.string tn) := e0
                  replace e1 : wr.cell? ⟨(td.add (j * 4)).block, (td.add (j * 4)).off + 1, none⟩ = some (.int .i64 tw) := e1
                  replace e2 : wr.cell? ⟨(td.add (j * 4)).block, (td.add (j * 4)).off + 2, none⟩ = some (.int .i64 tg) := e2
                  replace e3 : wr.cell? ⟨(td.add (j * 4)).block, (td.add (j * 4)).off + 3, none⟩ = some (.int .i64 tc) := e3
                  have hbY : Below wr.heap.size wr (wr.alloc (Obj.cells #[.string tn, .int .i64 tw, .int .i64 tg, .int .i64 tc] 53)) := by (repeat (first | with_reducible exact Below.refl _ _ | with_reducible assumption | with_reducible refine Below.alloc ?_ (by first | exact Nat.le_refl _ | exact Below.size (by assumption) | exact Nat.le_trans (Below.size (by assumption)) (by simp; done) | (simp; done) | (simp; omega) | omega) _ | with_reducible refine below_drewN ?_ _ | with_reducible refine Below.drew ?_ | with_reducible refine Below.setCell ?_ (by first | exact Nat.le_refl _ | (simp; done) | (simp; omega) | omega) _))
                  have hnY := heap_alloc_new wr (Obj.cells #[.string tn, .int .i64 tw, .int .i64 tg, .int .i64 tc] 53)
                  go_upto_region 35 with fail
                  generalize wr.alloc (Obj.cells #[.string tn, .int .i64 tw, .int .i64 tg, .int .i64 tc] 53) = WY at hbY hnY ⊢
                  have y0 : WY.cell? ⟨wr.heap.size, 0, none⟩ = some (.string tn) := blk_cell hnY 0
                  have y1 : WY.cell? ⟨wr.heap.size, 1, none⟩ = some (.int .i64 tw) := blk_cell hnY 1
                  have y3 : WY.cell? ⟨wr.heap.size, 3, none⟩ = some (.int .i64 tc) := blk_cell hnY 3
                  have hnx2 := (hbY.block _ (by omega)).trans hnx
                  have x0 : WY.cell? ⟨wk.heap.size, 0, none⟩ = some (.int .i64 5) := blk_cell hnx2 0
                  have x1 : WY.cell? ⟨wk.heap.size, 1, none⟩ = some (.string qn) := blk_cell hnx2 1
                  have x2 : WY.cell? ⟨wk.heap.size, 2, none⟩ = some (.int .i64 qc) := blk_cell hnx2 2
                  have HQ2 := below_then HQ HQ.size hbY
                  clear hnx hnx2 hbY hnY e0 e1 e2 e3 HQ
                  by_cases hnq : tn = qn
                  · have hbn := beq_t hnq
                    obtain ⟨f2, f1, f3⟩ := HE3.out hnq
                    replace f1 : tw = 3 := f1 (by simp)
                    replace f3 : tc = qc := f3
                    subst f1 f3
                    clear f2 HE3
                    go_wp2_with fail
                    go_roundw
                    case rel => exact ⟨j + 1, true, by go_num, rfl, by omega, hide (fun _ => rfl), HQ2⟩
                    case measure => simp [intOf]; omega
                  · have hbn := beq_f hnq
                    have HNE := hide hnq
                    clear HE3 hnq
                    go_wp2_with fail
                    go_roundw
                    case rel => exact ⟨j + 1, m, by go_num, rfl, by omega, hide (fun ⟨i, t, hi, ht, htn⟩ => by
                      rcases Nat.lt_or_ge i j with h | h
                      · exact HM.out ⟨i, t, h, ht, htn⟩
                      · obtain rfl : i = j := by omega
                        rw [HG.out] at ht
                        obtain rfl := Option.some.inj ht
                        exact absurd htn HNE.out), HQ2⟩
                    case measure => simp [intOf]; omega
                · obtain rfl : j = st.states.length := by omega
                  obtain rfl : m = true := HM.out (by
                    obtain ⟨t, ht, htn⟩ := (HEN.out (by simp)).1
                    obtain ⟨i, hi⟩ := List.getElem?_of_mem ht
                    have hil : i < st.states.length := by
                      rcases Nat.lt_or_ge i st.states.length with h | h
                      · exact h
                      · rw [List.getElem?_eq_none h] at hi; cases hi
                    exact ⟨i, t, hil, hi, htn⟩)
                  have HOQ := hide (HOP.out.below HQ)
                  have HBQ := hide (HB1.below HQ)
                  have HBZ := below_then HBX HBX.size HQ
                  clear HQ hnx HM
                  go_wp2_with fail
                  go_roundw
                  case rel =>
                    have hx := HS1.out
                    subst hx
                    exact ⟨k + 1, _, bs, by go_num, by omega, by rw [List.length_dropLast]; omega, by omega, HOQ.out, HBQ.out, hide (fun b1 b2 e1 e2 => HAP.out b1 b2 e1 e2), HC0, HBZ⟩
                  case measure => simp [intOf]; omega
            · have hkb5 : (qk == 5) = false := by simpa using hk5
              have hs0 := HS0.out
              unfold Ld.ostep at hs0
              rw [if_neg hk2, if_neg hk3, if_neg (show ¬ (qk = 4 ∨ qk = 5) by omega)] at hs0
              have hs1 := (Option.some.inj hs0).symm
              have HS1 := hide hs1
              clear hs0 hs1 hk2 hk3 hk4 hk5 HEN HS0
              go_wp2_with fail
              go_roundw
              case rel =>
                have hx := HS1.out
                subst hx
                exact ⟨k + 1, os, bs, by go_num, by omega, by omega, by omega, HO1, HB1, HAP, HC0, HBX⟩
              case measure => simp [intOf]; omega
    · obtain rfl : k = st.recs.length := by omega
      have hru := HRU.out
      rw [List.take_length, HH1.out] at hru
      obtain ⟨rfl, rfl⟩ := Prod.mk.inj (Option.some.inj hru)
      have hn0 := (HB.block _ hz3).trans HN.out
      have r2 : wr.cell? ⟨w3.heap.size, 2, none⟩ = some (.slice yA st.states.length yc) := blk_cell hn0 2
      obtain ⟨oA, oc, hov, _, _, _⟩ := HO.slV
      subst hov
      obtain ⟨bA, bc, hbv, _, _, _⟩ := HBg.slV
      subst hbv
      have hbl2 : ((st.states.map (·.name)).length : Int) = st.states.length := by simp
      go_wp2_with fail
      go_ret
      exact ⟨by simp, below_then B6 B6.size HB⟩
end Go.Proofs.YtkhlicmlnjccdaaDoor
