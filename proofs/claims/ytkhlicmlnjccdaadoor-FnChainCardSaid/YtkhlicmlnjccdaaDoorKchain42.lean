/-
  FnChain: the walk.
-/
import Derived.Test.YtkhlicmlnjccdaaDoorKchain33
import Derived.Test.YtkhlicmlnjccdaaDoorKchain38
import Derived.Test.YtkhlicmlnjccdaaDoorKchain40
import Derived.Test.YtkhlicmlnjccdaaDoorKchain41
import Derived.Test.YtkhlicmlnjccdaaDoorKchain15
namespace Go.Proofs.YtkhlicmlnjccdaaDoor
open Go.RowKit Mem

set_option maxRecDepth 100000 in
set_option maxHeartbeats 400000 in
theorem wTexts_same (A B : Option Addr) (c d n : Nat) (xs : List Str) (w : World) (S T : Nat → Prop) (h1 : Sl kStr w S A xs) (h2 : Sl kStr w T B xs) (hn : xs.length = n) (hl : n ≤ maxLen) :
    Calls Tryd.prog 35 #[.slice A n c, .slice B n d] w fun e w' => e = .returned (.bool true) ∧ Below w.heap.size w w' := by
  subst hn
  replace hl := mem_maxLen _ hl
  go_enter Tryd.func35, Tryd.ntmps35
  go_wp2_with fail
  go_loopw [5, 13] (fun _ i wr => ∃ k m : Nat, i = .int .i64 k ∧ k ≤ xs.length ∧ wr = w.drewN m) (fun _ i _ => xs.length - (intOf i).toNat)
  case atStart => exact ⟨0, 0, rfl, by omega, rfl⟩
  case round =>
    obtain ⟨k, m, rfl, hk, rfl⟩ := hrel
    by_cases hlt : k < xs.length
    · obtain ⟨ad, hA, l0⟩ := h1.get hlt
      subst hA
      obtain ⟨bd, hA, m0⟩ := h2.get hlt
      subst hA
      have e0 : w.cell? (ad.add k) = some (.string xs[k]) := by simpa [kStr] using l0.2
      have d0 : w.cell? (bd.add k) = some (.string xs[k]) := by simpa [kStr] using m0.2
      clear l0 m0 h1 h2
      generalize xs[k] = x at e0 d0
      go_wp2_with fail
      go_quiet (fail)
      go_wp2_with fail
      go_roundw
      case rel => exact ⟨k + 1, _, by go_num, by omega, by first | rfl | exact World.drewN_drewN ..⟩
      case measure => simp [intOf]; omega
    · obtain rfl : k = xs.length := by omega
      go_wp2_with fail
      go_ret
      exact ⟨rfl, below_drewN (Below.refl _ _) _⟩

set_option maxRecDepth 100000 in
set_option maxHeartbeats 4000000 in
theorem chain_calls (A : Option Addr) (cp nn : Nat) (code : List Int) (S : Nat → Prop) (w : World) (h : Sl kU8 w S A code) (hn : code.length = nn) (hs : ∀ x ∈ code, 0 ≤ x ∧ x ≤ 255) (hl : nn ≤ maxLen) (hm : ML w) :
    Calls Tryd.prog 9 #[.slice A nn cp] w fun e w' => e = .returned (.bool true) ∧ Below w.heap.size w w' := by
  unfold maxLen at hl
  by_cases hbig : 1048576 < nn
  · go_enter Tryd.func9, Tryd.ntmps9
    go_wp2_with fail
    go_ret
    exact ⟨rfl, by (repeat (first | with_reducible exact Below.refl _ _ | with_reducible assumption | with_reducible refine Below.alloc ?_ (by first | exact Nat.le_refl _ | exact Below.size (by assumption) | exact Nat.le_trans (Below.size (by assumption)) (by simp; done) | (simp; done) | (simp; omega) | omega) _ | with_reducible refine below_drewN ?_ _ | with_reducible refine Below.drew ?_ | with_reducible refine Below.setCell ?_ (by first | exact Nat.le_refl _ | (simp; done) | (simp; omega) | omega) _))⟩
  have hwb := wByte_calls A cp nn code S 0 w h hn hs (by omega) (by omega) (by omega)
  have hwb1 := wByte_calls A cp nn code S 1 w h hn hs (by omega) (by omega) (by omega)
  have HWB := hide hwb
  have HWB1 := hide hwb1
  have HM := hide hm
  clear hwb hwb1 h hn hs hm
  go_enter Tryd.func9, Tryd.ntmps9
  go_wp2_with fail
  refine (unhide HWB).mono ?_
  rintro e w' ⟨⟨b, hb, rfl⟩, rfl⟩
  clear HWB
  obtain ⟨q, hq⟩ : ∃ q : Nat, ((b : Int) % 39) = q := ⟨b % 39, by omega⟩
  have hq9 : q ≤ 38 := by omega
  obtain ⟨n, hnI⟩ : ∃ n : Nat, (1 + (q : Int)) = (n : Int) := ⟨1 + q, by omega⟩
  have hn1 : 1 ≤ n := by omega
  have hn2 : n ≤ 39 := by omega
  go_upto_region 4 with fail
  clear hq hnI hq9 hb
  go_wp2_with fail
  refine (unhide HWB1).mono ?_
  rintro e w' ⟨⟨b1, hb1, rfl⟩, rfl⟩
  clear HWB1
  obtain ⟨bq, hbq⟩ : ∃ bq : Nat, ((b1 : Int) % ((n : Int) + 1)) = bq := ⟨((b1 : Int) % ((n : Int) + 1)).toNat, by have := Int.emod_nonneg (b1 : Int) (show (n : Int) + 1 ≠ 0 by omega); omega⟩
  have hbq2 : bq ≤ n := by have := Int.emod_lt_of_pos (b1 : Int) (show (0 : Int) < (n : Int) + 1 by omega); omega
  obtain ⟨back, hbk⟩ : ∃ back : Int, (bq : Int) - 1 = back := ⟨_, rfl⟩
  have hbk0 : -1 ≤ back := by omega
  have hbk1 : back < n := by omega
  go_upto_region 5 with fail
  clear hbq hbk hbq2 hb1
  have hmc := fun (W : World) => madeChain_calls n back W (by omega) hbk0 hbk1
  go_wp2_with fail
  refine (hmc w).mono ?_
  rintro e w1 ⟨vR, vM, vF, rfl, hin1, hb1⟩
  clear hmc
  obtain ⟨⟨A1, c1, hv1, _, _, _⟩, ⟨A2, c2, hv2, _, _, hMs⟩, ⟨A3, c3, hv3, _, _, _⟩⟩ := id hin1
  subst hv1 hv2 hv3
  have hbA : Below w1.heap.size w1 (w1.alloc (Obj.cells #[.slice A1 (Ch.chain n back).roots.length c1, .slice A2 (Ch.chain n back).mods.length c2, .slice A3 (Ch.chain n back).faults.length c3] 46)) := by (repeat (first | with_reducible exact Below.refl _ _ | with_reducible assumption | with_reducible refine Below.alloc ?_ (by first | exact Nat.le_refl _ | exact Below.size (by assumption) | exact Nat.le_trans (Below.size (by assumption)) (by simp; done) | (simp; done) | (simp; omega) | omega) _ | with_reducible refine below_drewN ?_ _ | with_reducible refine Below.drew ?_ | with_reducible refine Below.setCell ?_ (by first | exact Nat.le_refl _ | (simp; done) | (simp; omega) | omega) _))
  have hnA := heap_alloc_new w1 (Obj.cells #[.slice A1 (Ch.chain n back).roots.length c1, .slice A2 (Ch.chain n back).mods.length c2, .slice A3 (Ch.chain n back).faults.length c3] 46)
  have hzA : w1.heap.size < (w1.alloc (Obj.cells #[.slice A1 (Ch.chain n back).roots.length c1, .slice A2 (Ch.chain n back).mods.length c2, .slice A3 (Ch.chain n back).faults.length c3] 46)).heap.size := by simp
  go_upto_region 6 with fail
  generalize w1.alloc (Obj.cells #[.slice A1 (Ch.chain n back).roots.length c1, .slice A2 (Ch.chain n back).mods.length c2, .slice A3 (Ch.chain n back).faults.length c3] 46) = W2 at hbA hnA hzA ⊢
  have B2 := below_then hb1 hb1.size hbA
  have hin2 := hin1.below hbA
  have k0 : W2.cell? ⟨w1.heap.size, 0, none⟩ = some (.slice A1 (Ch.chain n back).roots.length c1) := blk_cell hnA 0
  have k1 : W2.cell? ⟨w1.heap.size, 1, none⟩ = some (.slice A2 (Ch.chain n back).mods.length c2) := blk_cell hnA 1
  have k2 : W2.cell? ⟨w1.heap.size, 2, none⟩ = some (.slice A3 (Ch.chain n back).faults.length c3) := blk_cell hnA 2
  have hsz := chain_sz (n := n) (back := back) (by omega) hbk1
  have hm0 : (mtx 0).size ≤ 1048576 := by have := mtx_size (k := 0) (by omega); omega
  have hlc := iLoad_calls (Ch.chain n back) _ _ _ _ W2 hin2 hsz (HM.out.below B2) (mtx 0) hm0
  have hbase : ∃ (c : Int) (G : List (List Str)), Ch.Base n back c n n G ∧ ((back = -1 ∧ c = 0 ∧ G = []) ∨ (∃ b : Nat, back = b ∧ b < n ∧ c = 4 ∧ G = [(List.range' b (n - b)).map mtx])) := by
    by_cases h40 : back = -1
    · exact ⟨0, [], .inl ⟨h40, by omega, rfl, rfl, rfl, rfl⟩, .inl ⟨h40, rfl, rfl⟩⟩
    · have hbn : back.toNat < n := by omega
      refine ⟨4, _, .inr (.inr ⟨back.toNat, by omega, hbn, by omega, rfl, rfl, rfl, rfl⟩), .inr ⟨back.toNat, by omega, hbn, rfl, ?_⟩⟩
      rw [Ch.names_drop hbn]
  obtain ⟨c, G, hB, hcs⟩ := hbase
  obtain ⟨st, hld, hst, hre, hrgs⟩ := Ch.chain_load hB (by omega)
  have HOC := hide (fun (W : World) (S : Nat → Prop) (hi : WIn W S (.slice A1 (Ch.chain n back).roots.length c1) (.slice A2 (Ch.chain n back).mods.length c2) (.slice A3 (Ch.chain n back).faults.length c3) (Ch.chain n back)) (hml : ML W) => iOrder_calls (Ch.chain n back) _ _ _ S W hi hsz hml (mtx 0) hm0)
  have HRC := hide (fun (W : World) (S : Nat → Prop) (hi : WIn W S (.slice A1 (Ch.chain n back).roots.length c1) (.slice A2 (Ch.chain n back).mods.length c2) (.slice A3 (Ch.chain n back).faults.length c3) (Ch.chain n back)) (hml : ML W) => iShortestRing_calls (Ch.chain n back) _ _ _ S W hi hsz hml)
  have hoc := Ch.order_c (n := n) (back := back) hbk1 (by omega) (by omega)
  rw [hoc] at HOC
  rw [hld] at hlc
  rw [mtx_zero] at hlc HOC
  have HLC := hide hlc
  have HST := hide hst
  have HRG := hide hrgs
  have HMS := hide (hMs.below hbA)
  have HNA := hide hnA
  have HIN := hide hin2
  have hmd := hide (Ch.mods_len (n := n) (back := back))
  have HCS := hide hcs
  clear hlc hst hre hld hB hnA hMs hin1 hin2 hcs hoc hsz hm0 hrgs hb1
  go_wp2_with fail
  refine (unhide HLC).mono ?_
  rintro e w3 ⟨vc, vs, vr, rfl, hrep, hb3⟩
  obtain ⟨xA, xc, hx, _, _, _⟩ := hrep.recs.slV
  subst hx
  obtain ⟨yA, yc, hy, hyl, hym, hys⟩ := hrep.states.slV
  subst hy
  obtain ⟨KK, hring⟩ := id hrep.rings
  obtain ⟨zA, zc, hz', _, _, hzs⟩ := hring.slV
  subst hz'
  clear HLC hring
  have HSL := hide (show st.states.length = n by rw [HST.out]; simp)
  have HGL := hide (show st.rings.length = G.length by rw [HRG.out])
  have B3 := below_then B2 B2.size hb3
  have hst3 := hrep.states.sl
  have HX3 := hide ((hb3.block _ hzA).trans HNA.out)
  have hms3 := (unhide HMS).below hb3
  have hin3 := HIN.out.below hb3
  have hz13 : w1.heap.size < w3.heap.size := Nat.lt_of_lt_of_le hzA hb3.size
  clear k0 k1 k2 hbA B2 hb3 hrep HIN HMS HNA hzA
  dsimp only
  rw [HSL.out, HGL.out]
  have hbB : Below w3.heap.size w3 (w3.alloc (Obj.cells #[.int .i64 c, .slice xA st.recs.length xc, .slice yA n yc, .int .i64 st.reads, .slice zA G.length zc] 41)) := by (repeat (first | with_reducible exact Below.refl _ _ | with_reducible assumption | with_reducible refine Below.alloc ?_ (by first | exact Nat.le_refl _ | exact Below.size (by assumption) | exact Nat.le_trans (Below.size (by assumption)) (by simp; done) | (simp; done) | (simp; omega) | omega) _ | with_reducible refine below_drewN ?_ _ | with_reducible refine Below.drew ?_ | with_reducible refine Below.setCell ?_ (by first | exact Nat.le_refl _ | (simp; done) | (simp; omega) | omega) _))
  have hnB := heap_alloc_new w3 (Obj.cells #[.int .i64 c, .slice xA st.recs.length xc, .slice yA n yc, .int .i64 st.reads, .slice zA G.length zc] 41)
  have hzB : w3.heap.size < (w3.alloc (Obj.cells #[.int .i64 c, .slice xA st.recs.length xc, .slice yA n yc, .int .i64 st.reads, .slice zA G.length zc] 41)).heap.size := by simp
  go_upto_region 7 with fail
  generalize w3.alloc (Obj.cells #[.int .i64 c, .slice xA st.recs.length xc, .slice yA n yc, .int .i64 st.reads, .slice zA G.length zc] 41) = W4 at hbB hnB hzB ⊢
  have B4 := below_then B3 B3.size hbB
  have hx4 := (hbB.block _ hz13).trans HX3.out
  have k0 : W4.cell? ⟨w1.heap.size, 0, none⟩ = some (.slice A1 (Ch.chain n back).roots.length c1) := blk_cell hx4 0
  have k1 : W4.cell? ⟨w1.heap.size, 1, none⟩ = some (.slice A2 (Ch.chain n back).mods.length c2) := blk_cell hx4 1
  have k2 : W4.cell? ⟨w1.heap.size, 2, none⟩ = some (.slice A3 (Ch.chain n back).faults.length c3) := blk_cell hx4 2
  have HX4 := hide hx4
  have HN4 := hide hnB
  have hst4 := hst3.below hbB
  have hzs4 := hzs.below hbB
  have hms4 := hms3.below hbB
  have hin4 := hin3.below hbB
  clear hst3 hzs hms3 hin3 hbB hnB HX3 B3 hx4
  go_wp2_with fail
  refine (HOC.out W4 _ hin4 (HM.out.below B4)).mono ?_
  rintro e w5 ⟨vo, rfl, hoo, hb5⟩
  obtain ⟨oA, oc, hvo, _, _, hos⟩ := hoo.slV
  rw [show (((List.range n).reverse).map mtx).length = n by simp] at hvo
  subst hvo
  have B5 := below_then B4 B4.size hb5
  have z5 := hb5.size
  have hx5 := (hb5.block _ (by omega)).trans HX4.out
  have hn5 := (hb5.block _ hzB).trans HN4.out
  have k0 : w5.cell? ⟨w1.heap.size, 0, none⟩ = some (.slice A1 (Ch.chain n back).roots.length c1) := blk_cell hx5 0
  have k1 : w5.cell? ⟨w1.heap.size, 1, none⟩ = some (.slice A2 (Ch.chain n back).mods.length c2) := blk_cell hx5 1
  have k2 : w5.cell? ⟨w1.heap.size, 2, none⟩ = some (.slice A3 (Ch.chain n back).faults.length c3) := blk_cell hx5 2
  have HX5 := hide hx5
  have HN5 := hide hn5
  have hst5 := hst4.below hb5
  have hzs5 := hzs4.below hb5
  have hms5 := hms4.below hb5
  have hin5 := hin4.below hb5
  clear hst4 hzs4 hms4 hin4 HX4 HN4 hx5 hn5 B4 hb5 hoo HOC
  go_wp2_with fail
  refine (HRC.out w5 _ hin5 (HM.out.below B5)).mono ?_
  rintro e w6 ⟨vg, rfl, hog, hb6⟩
  obtain ⟨gA, gc, hvg, _, hgc, hgs⟩ := hog.slV
  subst hvg
  have B6 := below_then B5 B5.size hb6
  have z6 := hb6.size
  have hx6 := (hb6.block _ (by omega)).trans HX5.out
  have hn6 := (hb6.block _ (by omega)).trans HN5.out
  have q1 : w6.cell? ⟨w1.heap.size, 1, none⟩ = some (.slice A2 (Ch.chain n back).mods.length c2) := blk_cell hx6 1
  have r0 : w6.cell? ⟨w3.heap.size, 0, none⟩ = some (.int .i64 c) := blk_cell hn6 0
  have r2 : w6.cell? ⟨w3.heap.size, 2, none⟩ = some (.slice yA n yc) := blk_cell hn6 2
  have r4 : w6.cell? ⟨w3.heap.size, 4, none⟩ = some (.slice zA G.length zc) := blk_cell hn6 4
  have HST6 := hide (hst5.below hb6)
  have HZS6 := hide (hzs5.below hb6)
  have HMS6 := hide (hms5.below hb6)
  have HOS6 := hide (hos.below hb6)
  have HGS6 := hide hgs
  have HX6 := hide hx6
  have HN6 := hide hn6
  clear hst5 hzs5 hms5 hin5 HX5 HN5 hx6 hn6 B5 hb6 hog hos hgs HRC k0 k1 k2
  rw [hmd.out] at q1
  go_wp2_with fail
  have hmdat : ∀ k, k < n → ∃ bd, A2 = some bd ∧ ∀ (W : World), Below w6.heap.size w6 W → W.cell? (bd.add (k * 2)) = some (.string (mtx k)) ∧ bd.block < W.heap.size := fun k hk => by
    have hkm : k < (Ch.chain n back).mods.length := by rw [hmd.out]; exact hk
    obtain ⟨bd, hA2, m0, m1⟩ := HMS6.out.get hkm
    have hmx : (Ch.chain n back).mods[k] = Ch.modC n back k := by
      have := Ch.mods_at (back := back) hk
      rw [List.getElem?_eq_getElem hkm] at this
      exact Option.some.inj this
    rw [hmx] at m0
    have d0 : w6.cell? (bd.add (k * 2)) = some (.string (mtx k)) := m0.2
    have hl6 := World.block_lt_of_cell? _ _ d0
    refine ⟨bd, hA2, fun W hW => ⟨(hW.cell hl6).trans d0, ?_⟩⟩
    rw [block_add] at hl6
    exact Nat.lt_of_lt_of_le hl6 hW.size
  have HMD := hide hmdat
  have hz16 : w1.heap.size < w6.heap.size := by omega
  have hz36 : w3.heap.size < w6.heap.size := by omega
  clear hmdat q1 r0 r2 r4
  go_loopw [9, 52] (fun _ v wr => ∃ k : Nat, v = .int .i64 k ∧ k ≤ n ∧ Below w6.heap.size w6 wr) (fun _ v _ => n - (intOf v).toNat)
  case atStart => exact ⟨0, rfl, by omega, Below.refl _ _⟩
  case round =>
    obtain ⟨k, rfl, hk, HB⟩ := hrel
    by_cases hlt : k < n
    · have hko : k < (((List.range n).reverse).map mtx).length := by simpa using hlt
      obtain ⟨ad, hA, hc⟩ := (HOS6.out.below HB).get hko
      subst hA
      have hov : (((List.range n).reverse).map mtx)[k] = mtx (n - 1 - k) := by simp
      rw [hov] at hc
      have e0 : wr.cell? (ad.add k) = some (.string (mtx (n - 1 - k))) := by simpa [fStr, kStr] using hc.2
      obtain ⟨bd, hA2, hbd⟩ := HMD.out (n - 1 - k) (by omega)
      subst hA2
      obtain ⟨d0, hbl⟩ := hbd wr HB
      have hidx : (n : Int) - 1 - (k : Int) = ((n - 1 - k : Nat) : Int) := by omega
      have hidn : ((n - 1 - k : Nat) : Int) < n := by omega
      generalize n - 1 - k = kk at e0 d0 hidx hidn
      have hbx := (HB.block _ hz16).trans HX6.out
      have q1 : wr.cell? ⟨w1.heap.size, 1, none⟩ = some (.slice (some bd) n c2) := by have := blk_cell hbx 1; rw [← hmd.out]; exact this
      generalize mtx kk = nm at e0 d0
      clear hc hov hbd hbx
      go_wp2_with fail
      go_quiet (fail)
      go_wp2_with fail
      go_roundw
      case rel => exact ⟨k + 1, by go_num, by omega, by (repeat (first | with_reducible exact Below.refl _ _ | with_reducible assumption | with_reducible refine Below.alloc ?_ (by first | exact Nat.le_refl _ | exact Below.size (by assumption) | exact Nat.le_trans (Below.size (by assumption)) (by simp; done) | (simp; done) | (simp; omega) | omega) _ | with_reducible refine below_drewN ?_ _ | with_reducible refine Below.drew ?_ | with_reducible refine Below.setCell ?_ (by first | exact Nat.le_refl _ | (simp; done) | (simp; omega) | omega) _))⟩
      case measure => simp [intOf]; omega
    · obtain rfl : k = n := by omega
      have hbx := (HB.block _ hz16).trans HX6.out
      have hbn := (HB.block _ hz36).trans HN6.out
      have q1 : wr.cell? ⟨w1.heap.size, 1, none⟩ = some (.slice A2 (Ch.chain k back).mods.length c2) := blk_cell hbx 1
      have r0 : wr.cell? ⟨w3.heap.size, 0, none⟩ = some (.int .i64 c) := blk_cell hbn 0
      have r2 : wr.cell? ⟨w3.heap.size, 2, none⟩ = some (.slice yA k yc) := blk_cell hbn 2
      have r4 : wr.cell? ⟨w3.heap.size, 4, none⟩ = some (.slice zA G.length zc) := blk_cell hbn 4
      rw [hmd.out] at q1
      clear hbx hbn
      obtain ⟨w7, rfl⟩ : ∃ w7 : World, w7 = wr := ⟨_, rfl⟩
      rcases HCS.out with ⟨rfl, rfl, rfl⟩ | ⟨b, rfl, hbn, rfl, rfl⟩
      · have hsr := Ch.shortest_none (n := k) (back := -1) (by omega) (by omega)
        have hne := state_same
        rw [hsr]
        clear hsr
        go_wp2_with fail
        go_loopw [10, 11, 75] (fun _ _ i wx => ∃ j : Nat, i = .int .i64 j ∧ j ≤ k ∧ Below w7.heap.size w7 wx) (fun _ _ i _ => k - (intOf i).toNat)
        case atStart => exact ⟨0, rfl, by omega, Below.refl _ _⟩
        case round =>
          obtain ⟨j, rfl, hj, HC⟩ := hrel
          have HBC := below_then HB HB.size HC
          by_cases hlj : j < k
          · have hstj : st.states[j]? = some ⟨mtx j, 2, (10 * (j : Int)), 0⟩ := by rw [HST.out]; simp [hlj, Ch.ended]
            have hkl : j < st.states.length := by rw [HSL.out]; exact hlj
            obtain ⟨ad, hA, l0, l1, l2, l3⟩ := (HST6.out.below HBC).get hkl
            have hx : st.states[j] = ⟨mtx j, 2, (10 * (j : Int)), 0⟩ := by rw [List.getElem?_eq_getElem hkl] at hstj; exact Option.some.inj hstj
            rw [hx] at l0 l1 l2 l3
            subst hA
            have e0 : wr.cell? (ad.add (j * 4)) = some (.string (mtx j)) := l0.2
            have e1 : wr.cell? ⟨(ad.add (j * 4)).block, (ad.add (j * 4)).off + 1, none⟩ = some (.int .i64 2) := by have := l1.2; rwa [add_pos _ _ (by omega)] at this
            have e2 : wr.cell? ⟨(ad.add (j * 4)).block, (ad.add (j * 4)).off + 2, none⟩ = some (.int .i64 (10 * (j : Int))) := by have := l2.2; rwa [add_pos _ _ (by omega)] at this
            have e3 : wr.cell? ⟨(ad.add (j * 4)).block, (ad.add (j * 4)).off + 3, none⟩ = some (.int .i64 0) := by have := l3.2; rwa [add_pos _ _ (by omega)] at this
            obtain ⟨bd, hA2, hbd⟩ := HMD.out j hlj
            subst hA2
            obtain ⟨d0, hbl⟩ := hbd wr HBC
            have hbx := (HBC.block _ hz16).trans HX6.out
            have q1 : wr.cell? ⟨w1.heap.size, 1, none⟩ = some (.slice (some bd) k c2) := by have := blk_cell hbx 1; rw [← hmd.out]; exact this
            have hz1r : w1.heap.size < wr.heap.size := Nat.lt_of_lt_of_le hz16 HBC.size
            have hjI : (j : Int) < k := by omega
            clear l0 l1 l2 l3 hx hstj hkl hbd hbx
            generalize mtx j = nm at e0 d0
            have hbX : Below wr.heap.size wr (wr.alloc (Obj.cells #[.string nm, .int .i64 2, .int .i64 (10 * (j : Int)), .int .i64 0] 53)) := by (repeat (first | with_reducible exact Below.refl _ _ | with_reducible assumption | with_reducible refine Below.alloc ?_ (by first | exact Nat.le_refl _ | exact Below.size (by assumption) | exact Nat.le_trans (Below.size (by assumption)) (by simp; done) | (simp; done) | (simp; omega) | omega) _ | with_reducible refine below_drewN ?_ _ | with_reducible refine Below.drew ?_ | with_reducible refine Below.setCell ?_ (by first | exact Nat.le_refl _ | (simp; done) | (simp; omega) | omega) _))
            have hnX := heap_alloc_new wr (Obj.cells #[.string nm, .int .i64 2, .int .i64 (10 * (j : Int)), .int .i64 0] 53)
            go_upto_region 21 with fail
            generalize wr.alloc (Obj.cells #[.string nm, .int .i64 2, .int .i64 (10 * (j : Int)), .int .i64 0] 53) = WX at hbX hnX ⊢
            have x0 : WX.cell? ⟨wr.heap.size, 0, none⟩ = some (.string nm) := blk_cell hnX 0
            have x1 : WX.cell? ⟨wr.heap.size, 1, none⟩ = some (.int .i64 2) := blk_cell hnX 1
            have x2 : WX.cell? ⟨wr.heap.size, 2, none⟩ = some (.int .i64 (10 * (j : Int))) := blk_cell hnX 2
            have x3 : WX.cell? ⟨wr.heap.size, 3, none⟩ = some (.int .i64 0) := blk_cell hnX 3
            have q1' := (hbX.cell (p := ⟨w1.heap.size, 1, none⟩) hz1r).trans q1
            have d0' := (hbX.cell (World.block_lt_of_cell? _ _ d0)).trans d0
            have HC2 := below_then HC HC.size hbX
            clear hnX hbX e0 e1 e2 e3 d0 q1 HC HBC
            go_quiet (fail)
            go_wp2_with fail
            go_roundw
            case rel => exact ⟨j + 1, by go_num, by omega, by (repeat (first | with_reducible exact Below.refl _ _ | with_reducible assumption | with_reducible refine Below.alloc ?_ (by first | exact Nat.le_refl _ | exact Below.size (by assumption) | exact Nat.le_trans (Below.size (by assumption)) (by simp; done) | (simp; done) | (simp; omega) | omega) _ | with_reducible refine below_drewN ?_ _ | with_reducible refine Below.drew ?_ | with_reducible refine Below.setCell ?_ (by first | exact Nat.le_refl _ | (simp; done) | (simp; omega) | omega) _))⟩
            case measure => simp [intOf]; omega
          · obtain rfl : j = k := by omega
            have hbn2 := (HBC.block _ hz36).trans HN6.out
            have r0 : wr.cell? ⟨w3.heap.size, 0, none⟩ = some (.int .i64 0) := blk_cell hbn2 0
            have r4 : wr.cell? ⟨w3.heap.size, 4, none⟩ = some (.slice zA 0 zc) := blk_cell hbn2 4
            clear hbn2
            go_wp2_with fail
            go_ret
            exact ⟨rfl, below_then B6 B6.size HBC⟩
      · have hne := state_same
        have hbnI : (b : Int) < k := by omega
        go_wp2_with fail
        go_loopw [12, 13, 14, 109] (fun _ _ _ i wx => ∃ j : Nat, i = .int .i64 j ∧ j ≤ k ∧ Below w7.heap.size w7 wx) (fun _ _ _ i _ => k - (intOf i).toNat)
        case atStart => exact ⟨0, rfl, by omega, Below.refl _ _⟩
        case round =>
          obtain ⟨j, rfl, hj, HC⟩ := hrel
          have HBC := below_then HB HB.size HC
          by_cases hlj : j < k
          · have hstj : st.states[j]? = some ⟨mtx j, 3, 0, 4⟩ := by rw [HST.out]; simp [hlj, Ch.ended]
            have hkl : j < st.states.length := by rw [HSL.out]; exact hlj
            obtain ⟨ad, hA, l0, l1, l2, l3⟩ := (HST6.out.below HBC).get hkl
            have hx : st.states[j] = ⟨mtx j, 3, 0, 4⟩ := by rw [List.getElem?_eq_getElem hkl] at hstj; exact Option.some.inj hstj
            rw [hx] at l0 l1 l2 l3
            subst hA
            have e0 : wr.cell? (ad.add (j * 4)) = some (.string (mtx j)) := l0.2
            have e1 : wr.cell? ⟨(ad.add (j * 4)).block, (ad.add (j * 4)).off + 1, none⟩ = some (.int .i64 3) := by have := l1.2; rwa [add_pos _ _ (by omega)] at this
            have e2 : wr.cell? ⟨(ad.add (j * 4)).block, (ad.add (j * 4)).off + 2, none⟩ = some (.int .i64 0) := by have := l2.2; rwa [add_pos _ _ (by omega)] at this
            have e3 : wr.cell? ⟨(ad.add (j * 4)).block, (ad.add (j * 4)).off + 3, none⟩ = some (.int .i64 4) := by have := l3.2; rwa [add_pos _ _ (by omega)] at this
            obtain ⟨bd, hA2, hbd⟩ := HMD.out j hlj
            subst hA2
            obtain ⟨d0, hbl⟩ := hbd wr HBC
            have hbx := (HBC.block _ hz16).trans HX6.out
            have q1 : wr.cell? ⟨w1.heap.size, 1, none⟩ = some (.slice (some bd) k c2) := by have := blk_cell hbx 1; rw [← hmd.out]; exact this
            have hz1r : w1.heap.size < wr.heap.size := Nat.lt_of_lt_of_le hz16 HBC.size
            have hjI : (j : Int) < k := by omega
            clear l0 l1 l2 l3 hx hstj hkl hbd hbx
            generalize mtx j = nm at e0 d0
            have hbX : Below wr.heap.size wr (wr.alloc (Obj.cells #[.string nm, .int .i64 3, .int .i64 0, .int .i64 4] 53)) := by (repeat (first | with_reducible exact Below.refl _ _ | with_reducible assumption | with_reducible refine Below.alloc ?_ (by first | exact Nat.le_refl _ | exact Below.size (by assumption) | exact Nat.le_trans (Below.size (by assumption)) (by simp; done) | (simp; done) | (simp; omega) | omega) _ | with_reducible refine below_drewN ?_ _ | with_reducible refine Below.drew ?_ | with_reducible refine Below.setCell ?_ (by first | exact Nat.le_refl _ | (simp; done) | (simp; omega) | omega) _))
            have hnX := heap_alloc_new wr (Obj.cells #[.string nm, .int .i64 3, .int .i64 0, .int .i64 4] 53)
            go_upto_region 29 with fail
            generalize wr.alloc (Obj.cells #[.string nm, .int .i64 3, .int .i64 0, .int .i64 4] 53) = WX at hbX hnX ⊢
            have x0 : WX.cell? ⟨wr.heap.size, 0, none⟩ = some (.string nm) := blk_cell hnX 0
            have x1 : WX.cell? ⟨wr.heap.size, 1, none⟩ = some (.int .i64 3) := blk_cell hnX 1
            have x2 : WX.cell? ⟨wr.heap.size, 2, none⟩ = some (.int .i64 0) := blk_cell hnX 2
            have x3 : WX.cell? ⟨wr.heap.size, 3, none⟩ = some (.int .i64 4) := blk_cell hnX 3
            have q1' := (hbX.cell (p := ⟨w1.heap.size, 1, none⟩) hz1r).trans q1
            have d0' := (hbX.cell (World.block_lt_of_cell? _ _ d0)).trans d0
            have HC2 := below_then HC HC.size hbX
            clear hnX hbX e0 e1 e2 e3 d0 q1 HC HBC
            go_quiet (fail)
            go_wp2_with fail
            go_roundw
            case rel => exact ⟨j + 1, by go_num, by omega, by (repeat (first | with_reducible exact Below.refl _ _ | with_reducible assumption | with_reducible refine Below.alloc ?_ (by first | exact Nat.le_refl _ | exact Below.size (by assumption) | exact Nat.le_trans (Below.size (by assumption)) (by simp; done) | (simp; done) | (simp; omega) | omega) _ | with_reducible refine below_drewN ?_ _ | with_reducible refine Below.drew ?_ | with_reducible refine Below.setCell ?_ (by first | exact Nat.le_refl _ | (simp; done) | (simp; omega) | omega) _))⟩
            case measure => simp [intOf]; omega
          · obtain rfl : j = k := by omega
            have hbx2 := (HBC.block _ hz16).trans HX6.out
            have hbn2 := (HBC.block _ hz36).trans HN6.out
            have r0 : wr.cell? ⟨w3.heap.size, 0, none⟩ = some (.int .i64 4) := blk_cell hbn2 0
            have r4 : wr.cell? ⟨w3.heap.size, 4, none⟩ = some (.slice zA 1 zc) := blk_cell hbn2 4
            have hsr := Ch.shortest_c (n := j) (b := b) (by omega) hbn
            have hxl : ((List.range' b (j - b)).map mtx).length = j - b := by simp
            have hgs2 := HGS6.out.below HBC
            rw [hsr] at hgs2
            rw [hsr, hxl]
            have hz0 := HZS6.out.below HBC
            rw [HRG.out] at hz0
            obtain ⟨zd, hzA, A4, c4, hc4, hl4, hm4, hs4⟩ := hz0.get (i := 0) (by simp)
            subst hzA
            have zc0 : wr.cell? zd = some (.slice A4 (j - b) c4) := by
              have h2 := hc4.2
              simpa [kSl, Addr.add, hxl] using h2
            have hs4' : Sl kStr wr (fun _ => True) A4 ((List.range' b (j - b)).map mtx) := hs4
            have hsub : (j : Int) - (b : Int) = ((j - b : Nat) : Int) := by omega
            have hw := wTexts_same gA A4 gc c4 (j - b) ((List.range' b (j - b)).map mtx) wr _ _ hgs2 hs4' hxl (by unfold maxLen; omega)
            have HW := hide hw
            have HS4 := hide hs4'
            have HXN := hide hbx2
            have HNN := hide hbn2
            have hzdl : zd.block < wr.heap.size := World.block_lt_of_cell? _ _ zc0
            clear hsr hxl hgs2 hz0 hc4 hl4 hm4 hs4 hs4' hw hbx2 hbn2
            go_wp2_with fail
            refine HW.out.mono ?_
            rintro e w9 ⟨rfl, hb9⟩
            have HB9 := below_then HBC HBC.size hb9
            have r4 : w9.cell? ⟨w3.heap.size, 4, none⟩ = some (.slice (some zd) 1 zc) := blk_cell ((hb9.block _ (Nat.lt_of_lt_of_le hz36 HBC.size)).trans HNN.out) 4
            have zc0 : w9.cell? zd = some (.slice A4 (j - b) c4) := (hb9.cell hzdl).trans zc0
            have hs9 := HS4.out.below hb9
            have HS9 := hide hs9
            have HX9 := hide ((hb9.block _ (Nat.lt_of_lt_of_le hz16 HBC.size)).trans HXN.out)
            have hz19 : w1.heap.size < w9.heap.size := Nat.lt_of_lt_of_le hz16 HB9.size
            clear hb9 HW HS4 HXN HNN hs9 r0
            go_wp2_with fail
            clear r4 zc0
            go_loopw [15, 16, 159] (fun _ _ i wx => ∃ t : Nat, i = .int .i64 t ∧ t ≤ j - b ∧ Below w9.heap.size w9 wx) (fun _ _ i _ => (j - b) - (intOf i).toNat)
            case atStart => exact ⟨0, rfl, by omega, Below.refl _ _⟩
            case round =>
              obtain ⟨t, rfl, ht, HT⟩ := hrel
              have HT6 := below_then HB9 HB9.size HT
              by_cases htl : t < j - b
              · have hko : t < ((List.range' b (j - b)).map mtx).length := by simpa using htl
                obtain ⟨ad, hA, hc⟩ := (HS9.out.below HT).get hko
                subst hA
                have hov : ((List.range' b (j - b)).map mtx)[t] = mtx (b + t) := by simp
                rw [hov] at hc
                have e0 : wr.cell? (ad.add t) = some (.string (mtx (b + t))) := by simpa [kStr] using hc.2
                obtain ⟨bd, hA2, hbd⟩ := HMD.out (b + t) (by omega)
                subst hA2
                obtain ⟨d0, hbl⟩ := hbd wr HT6
                have hidx : (b : Int) + (t : Int) = ((b + t : Nat) : Int) := by omega
                have hidn : ((b + t : Nat) : Int) < j := by omega
                generalize b + t = kk at e0 d0 hidx hidn
                have q1 : wr.cell? ⟨w1.heap.size, 1, none⟩ = some (.slice (some bd) j c2) := by have := blk_cell ((HT.block _ hz19).trans HX9.out) 1; rw [← hmd.out]; exact this
                generalize mtx kk = nm at e0 d0
                clear hc hov hbd
                go_wp2_with fail
                try go_quiet (fail)
                try go_wp2_with fail
                go_roundw
                case rel => exact ⟨t + 1, by go_num, by omega, by (repeat (first | with_reducible exact Below.refl _ _ | with_reducible assumption | with_reducible refine Below.alloc ?_ (by first | exact Nat.le_refl _ | exact Below.size (by assumption) | exact Nat.le_trans (Below.size (by assumption)) (by simp; done) | (simp; done) | (simp; omega) | omega) _ | with_reducible refine below_drewN ?_ _ | with_reducible refine Below.drew ?_ | with_reducible refine Below.setCell ?_ (by first | exact Nat.le_refl _ | (simp; done) | (simp; omega) | omega) _))⟩
                case measure => simp [intOf]; omega
              · obtain rfl : t = j - b := by omega
                go_wp2_with fail
                go_ret
                exact ⟨rfl, below_then B6 B6.size HT6⟩
end Go.Proofs.YtkhlicmlnjccdaaDoor
