/-
  FnHidden: the walk, from what a drawn world is on.
-/
import Derived.Test.YtkhlicmlnjccdaaDoorKd33
import Derived.Test.YtkhlicmlnjccdaaDoorKd11
namespace Go.Proofs.YtkhlicmlnjccdaaDoor
open Go.RowKit Mem

/-- what Drawn hands back: a world of its own with short names, a short name -/
def DrawnP : Prop := ∀ (A : Option Addr) (cp n : Nat) (code : List Int) (S : Nat → Prop) (w : World), Sl kU8 w S A code → code.length = n → (∀ x ∈ code, 0 ≤ x ∧ x ≤ 255) → n ≤ 1048576 →
  Calls Tryd.prog 44 #[.slice A n cp] w fun e w' => ∃ (vR vM vF : Value) (nm : Str) (D : WorldD), e = .returned (.tuple #[.agg #[vR, vM, vF], .string nm]) ∧ WIn w' (fun b => w.heap.size ≤ b) vR vM vF D ∧ WSz D ∧ nm.size ≤ 1048576 ∧ (∀ m ∈ D.mods, ∀ l ∈ m.lines, 0 ≤ l.num ∧ l.num ≤ 1000) ∧ D.mods.length ≤ 7 ∧ Below w.heap.size w w'

set_option maxRecDepth 100000 in
set_option maxHeartbeats 4000000 in
theorem hidden_walk (HDR : DrawnP) (A : Option Addr) (cp nn : Nat) (code : List Int) (S : Nat → Prop) (w : World) (h : Sl kU8 w S A code) (hn : code.length = nn) (hs : ∀ x ∈ code, 0 ≤ x ∧ x ≤ 255) (hl : nn ≤ maxLen) (hm : ML w) :
    Calls Tryd.prog 15 #[.slice A nn cp] w fun e w' => e = .returned (.bool true) ∧ Below w.heap.size w w' := by
  unfold maxLen at hl
  by_cases hbig : 1048576 < nn
  · go_enter Tryd.func15, Tryd.ntmps15
    go_wp2_with fail
    go_ret
    exact ⟨rfl, by (repeat (first | with_reducible exact Below.refl _ _ | with_reducible assumption | with_reducible refine Below.alloc ?_ (by first | exact Nat.le_refl _ | exact Below.size (by assumption) | exact Nat.le_trans (Below.size (by assumption)) (by simp; done) | (simp; done) | (simp; omega) | omega) _ | with_reducible refine below_drewN ?_ _ | with_reducible refine Below.drew ?_ | with_reducible refine Below.setCell ?_ (by first | exact Nat.le_refl _ | (simp; done) | (simp; omega) | omega) _))⟩
  have hdr := HDR A cp nn code S w h hn hs (by omega)
  have HD := hide hdr
  have HM := hide hm
  clear hdr HDR h hn hs hm
  go_enter Tryd.func15, Tryd.ntmps15
  go_wp2_with fail
  refine HD.out.mono ?_
  rintro e w1 ⟨vR, vM, vF, nm, D, rfl, hin1, hsz, hnm, _, _, hb1⟩
  clear HD
  obtain ⟨⟨A1, c1, hv1, _, _, _⟩, ⟨A2, c2, hv2, _, _, _⟩, ⟨A3, c3, hv3, _, _, _⟩⟩ := id hin1
  subst hv1 hv2 hv3
  have hbA : Below w1.heap.size w1 (w1.alloc (Obj.cells #[.slice A1 D.roots.length c1, .slice A2 D.mods.length c2, .slice A3 D.faults.length c3] 46)) := by (repeat (first | with_reducible exact Below.refl _ _ | with_reducible assumption | with_reducible refine Below.alloc ?_ (by first | exact Nat.le_refl _ | exact Below.size (by assumption) | exact Nat.le_trans (Below.size (by assumption)) (by simp; done) | (simp; done) | (simp; omega) | omega) _ | with_reducible refine below_drewN ?_ _ | with_reducible refine Below.drew ?_ | with_reducible refine Below.setCell ?_ (by first | exact Nat.le_refl _ | (simp; done) | (simp; omega) | omega) _))
  have hnA := heap_alloc_new w1 (Obj.cells #[.slice A1 D.roots.length c1, .slice A2 D.mods.length c2, .slice A3 D.faults.length c3] 46)
  have hzA : w1.heap.size < (w1.alloc (Obj.cells #[.slice A1 D.roots.length c1, .slice A2 D.mods.length c2, .slice A3 D.faults.length c3] 46)).heap.size := by simp
  go_upto_region 4 with fail
  generalize w1.alloc (Obj.cells #[.slice A1 D.roots.length c1, .slice A2 D.mods.length c2, .slice A3 D.faults.length c3] 46) = W2 at hbA hnA hzA ⊢
  have B2 := below_then hb1 hb1.size hbA
  have hin2 := hin1.below hbA
  have k0 : W2.cell? ⟨w1.heap.size, 0, none⟩ = some (.slice A1 D.roots.length c1) := blk_cell hnA 0
  have k1 : W2.cell? ⟨w1.heap.size, 1, none⟩ = some (.slice A2 D.mods.length c2) := blk_cell hnA 1
  have k2 : W2.cell? ⟨w1.heap.size, 2, none⟩ = some (.slice A3 D.faults.length c3) := blk_cell hnA 2
  have hlc := iLoad_calls D _ _ _ _ W2 hin2 hsz (HM.out.below B2) nm hnm
  have hls := fun (W : World) (S : Nat → Prop) (hi : WIn W S (.slice A1 D.roots.length c1) (.slice A2 D.mods.length c2) (.slice A3 D.faults.length c3) D) => sLoad_calls D _ _ _ S W hi hsz nm hnm
  have hhid := Ld.load_hidden D nm (fun h0 => ⟨(Wd.wok_of h0).mods, (Wd.wok_of h0).lines⟩)
  have hsml := Ld.load_small D nm (fun h0 => ⟨(Wd.wok_of h0).mods, (Wd.wok_of h0).lines⟩)
  obtain ⟨c, st, hld⟩ : ∃ c st, Ld.load D nm = (c, st) := ⟨_, _, rfl⟩
  rw [hld] at hlc hls hhid hsml
  have HLC := hide hlc
  have HLS := hide hls
  have HH1 := hide hhid.1
  have HH2 := hide hhid.2
  have hr9 : st.recs.length ≤ 9000 := hsml.1
  have hs6 : st.states.length ≤ 60 := hsml.2.1
  have HNA := hide hnA
  have HIN := hide hin2
  clear hlc hls hhid hsml hld hnA hin1 hin2 hb1 hsz
  go_wp2_with fail
  refine (unhide HLC).mono ?_
  rintro e w3 ⟨vc, vs, vr, rfl, hrep, hb3⟩
  obtain ⟨xA, xc, hx, _, _, _⟩ := hrep.recs.slV
  subst hx
  obtain ⟨yA, yc, hy, _, _, _⟩ := hrep.states.slV
  subst hy
  obtain ⟨KK, zs, hzs, _⟩ := id hrep.rings
  obtain ⟨zA, zc, hz'⟩ := row_form hzs
  subst hz'
  clear hzs HLC
  have B3 := below_then B2 B2.size hb3
  have hst3 := hrep.states.sl
  have hrc3 := hrep.recs.sl
  have hx3 := (hb3.block _ hzA).trans HNA.out
  have hin3 := HIN.out.below hb3
  have hz13 : w1.heap.size < w3.heap.size := Nat.lt_of_lt_of_le hzA hb3.size
  clear k0 k1 k2 hbA B2 hb3 hrep HIN HNA hzA
  dsimp only
  have hbB : Below w3.heap.size w3 (w3.alloc (Obj.cells #[.int .i64 c, .slice xA st.recs.length xc, .slice yA st.states.length yc, .int .i64 st.reads, .slice zA st.rings.length zc] 41)) := by (repeat (first | with_reducible exact Below.refl _ _ | with_reducible assumption | with_reducible refine Below.alloc ?_ (by first | exact Nat.le_refl _ | exact Below.size (by assumption) | exact Nat.le_trans (Below.size (by assumption)) (by simp; done) | (simp; done) | (simp; omega) | omega) _ | with_reducible refine below_drewN ?_ _ | with_reducible refine Below.drew ?_ | with_reducible refine Below.setCell ?_ (by first | exact Nat.le_refl _ | (simp; done) | (simp; omega) | omega) _))
  have hnB := heap_alloc_new w3 (Obj.cells #[.int .i64 c, .slice xA st.recs.length xc, .slice yA st.states.length yc, .int .i64 st.reads, .slice zA st.rings.length zc] 41)
  have hzB : w3.heap.size < (w3.alloc (Obj.cells #[.int .i64 c, .slice xA st.recs.length xc, .slice yA st.states.length yc, .int .i64 st.reads, .slice zA st.rings.length zc] 41)).heap.size := by simp
  go_upto_region 5 with fail
  generalize w3.alloc (Obj.cells #[.int .i64 c, .slice xA st.recs.length xc, .slice yA st.states.length yc, .int .i64 st.reads, .slice zA st.rings.length zc] 41) = W4 at hbB hnB hzB ⊢
  have B4 := below_then B3 B3.size hbB
  have hx4 := (hbB.block _ hz13).trans hx3
  have k0 : W4.cell? ⟨w1.heap.size, 0, none⟩ = some (.slice A1 D.roots.length c1) := blk_cell hx4 0
  have k1 : W4.cell? ⟨w1.heap.size, 1, none⟩ = some (.slice A2 D.mods.length c2) := blk_cell hx4 1
  have k2 : W4.cell? ⟨w1.heap.size, 2, none⟩ = some (.slice A3 D.faults.length c3) := blk_cell hx4 2
  have hst4 := hst3.below hbB
  have hrc4 := hrc3.below hbB
  have HN4 := hide hnB
  have hin4 := hin3.below hbB
  clear hst3 hrc3 hin3 hbB hnB hx3 B3 hx4
  go_wp2_with fail
  refine (HLS.out W4 _ hin4).mono ?_
  rintro e w5 ⟨vc, vs, vr, rfl, hrep, hb5⟩
  obtain ⟨xB, xd, hx, _, _, _⟩ := hrep.recs.slV
  subst hx
  obtain ⟨yB, yd, hy, _, _, _⟩ := hrep.states.slV
  subst hy
  obtain ⟨KK2, zs2, hzs, _⟩ := id hrep.rings
  obtain ⟨zB, zd, hz'⟩ := row_form hzs
  subst hz'
  have B5 := below_then B4 B4.size hb5
  have hst5 := hst4.below hb5
  have hrc5 := hrc4.below hb5
  have hwt5 := hrep.states.sl
  have hn5 := (hb5.block _ hzB).trans HN4.out
  have z5 := hb5.size
  clear hzs hrep hb5 hst4 hrc4 hin4 HLS HN4 k0 k1 k2 B4
  dsimp only
  have hbC : Below w5.heap.size w5 (w5.alloc (Obj.cells #[.int .i64 c, .slice xB st.recs.length xd, .slice yB st.states.length yd, .int .i64 st.reads, .slice zB st.rings.length zd] 41)) := by (repeat (first | with_reducible exact Below.refl _ _ | with_reducible assumption | with_reducible refine Below.alloc ?_ (by first | exact Nat.le_refl _ | exact Below.size (by assumption) | exact Nat.le_trans (Below.size (by assumption)) (by simp; done) | (simp; done) | (simp; omega) | omega) _ | with_reducible refine below_drewN ?_ _ | with_reducible refine Below.drew ?_ | with_reducible refine Below.setCell ?_ (by first | exact Nat.le_refl _ | (simp; done) | (simp; omega) | omega) _))
  have hnC := heap_alloc_new w5 (Obj.cells #[.int .i64 c, .slice xB st.recs.length xd, .slice yB st.states.length yd, .int .i64 st.reads, .slice zB st.rings.length zd] 41)
  have hzC : w5.heap.size < (w5.alloc (Obj.cells #[.int .i64 c, .slice xB st.recs.length xd, .slice yB st.states.length yd, .int .i64 st.reads, .slice zB st.rings.length zd] 41)).heap.size := by simp
  go_upto_region 6 with fail
  generalize w5.alloc (Obj.cells #[.int .i64 c, .slice xB st.recs.length xd, .slice yB st.states.length yd, .int .i64 st.reads, .slice zB st.rings.length zd] 41) = W6 at hbC hnC hzC ⊢
  have B6 := below_then B5 B5.size hbC
  have HST := hide (hst5.below hbC)
  have HRC := hide (hrc5.below hbC)
  have HWT := hide (hwt5.below hbC)
  have hn6 := (hbC.block _ (by omega)).trans hn5
  have HN := hide hn6
  have HW := hide hnC
  have r0 : W6.cell? ⟨w3.heap.size, 0, none⟩ = some (.int .i64 c) := blk_cell hn6 0
  have r2 : W6.cell? ⟨w3.heap.size, 2, none⟩ = some (.slice yA st.states.length yc) := blk_cell hn6 2
  have s0 : W6.cell? ⟨w5.heap.size, 0, none⟩ = some (.int .i64 c) := blk_cell hnC 0
  have s2 : W6.cell? ⟨w5.heap.size, 2, none⟩ = some (.slice yB st.states.length yd) := blk_cell hnC 2
  have hz3 : w3.heap.size < W6.heap.size := by omega
  have hsI : (st.states.length : Int) ≤ 60 := by omega
  have hrI : (st.recs.length : Int) ≤ 9000 := by omega
  clear hst5 hrc5 hwt5 hn5 hbC hnC hn6 B5
  go_wp2_with fail
  clear r0 r2 s0 s2
  have hne := state_same
  go_loopw [7, 8, 42] (fun _ _ v wr => ∃ k : Nat, v = .int .i64 k ∧ k ≤ st.states.length ∧ Below W6.heap.size W6 wr) (fun _ _ v _ => st.states.length - (intOf v).toNat)
  case atStart => exact ⟨0, rfl, by omega, Below.refl _ _⟩
  case round =>
    obtain ⟨k, rfl, hk, HB⟩ := hrel
    by_cases hlt : k < st.states.length
    · obtain ⟨ad, hA, l0, l1, l2, l3⟩ := (HST.out.below HB).get hlt
      subst hA
      obtain ⟨bd, hA, m0, m1, m2, m3⟩ := (HWT.out.below HB).get hlt
      subst hA
      have e0 : wr.cell? (ad.add (k * 4)) = some (.string st.states[k].name) := l0.2
      have e1 : wr.cell? ⟨(ad.add (k * 4)).block, (ad.add (k * 4)).off + 1, none⟩ = some (.int .i64 st.states[k].now) := by have := l1.2; rwa [add_pos _ _ (by omega)] at this
      have e2 : wr.cell? ⟨(ad.add (k * 4)).block, (ad.add (k * 4)).off + 2, none⟩ = some (.int .i64 st.states[k].give) := by have := l2.2; rwa [add_pos _ _ (by omega)] at this
      have e3 : wr.cell? ⟨(ad.add (k * 4)).block, (ad.add (k * 4)).off + 3, none⟩ = some (.int .i64 st.states[k].code) := by have := l3.2; rwa [add_pos _ _ (by omega)] at this
      have d0 : wr.cell? (bd.add (k * 4)) = some (.string st.states[k].name) := m0.2
      have d1 : wr.cell? ⟨(bd.add (k * 4)).block, (bd.add (k * 4)).off + 1, none⟩ = some (.int .i64 st.states[k].now) := by have := m1.2; rwa [add_pos _ _ (by omega)] at this
      have d2 : wr.cell? ⟨(bd.add (k * 4)).block, (bd.add (k * 4)).off + 2, none⟩ = some (.int .i64 st.states[k].give) := by have := m2.2; rwa [add_pos _ _ (by omega)] at this
      have d3 : wr.cell? ⟨(bd.add (k * 4)).block, (bd.add (k * 4)).off + 3, none⟩ = some (.int .i64 st.states[k].code) := by have := m3.2; rwa [add_pos _ _ (by omega)] at this
      have hmem := List.getElem_mem hlt
      have hh := HH1.out _ hmem
      have HX2 := hide (fun x hx hk => HH2.out x hx hk _ hmem)
      clear l0 l1 l2 l3 m0 m1 m2 m3
      generalize st.states[k] = t at e0 e1 e2 e3 d0 d1 d2 d3 hh HX2
      obtain ⟨tn, tw, tg, tc⟩ := t
      replace e0 : wr.cell? (ad.add (k * 4)) = some (.string tn) := e0
      replace e1 : wr.cell? ⟨(ad.add (k * 4)).block, (ad.add (k * 4)).off + 1, none⟩ = some (.int .i64 tw) := e1
      replace e2 : wr.cell? ⟨(ad.add (k * 4)).block, (ad.add (k * 4)).off + 2, none⟩ = some (.int .i64 tg) := e2
      replace e3 : wr.cell? ⟨(ad.add (k * 4)).block, (ad.add (k * 4)).off + 3, none⟩ = some (.int .i64 tc) := e3
      replace d0 : wr.cell? (bd.add (k * 4)) = some (.string tn) := d0
      replace d1 : wr.cell? ⟨(bd.add (k * 4)).block, (bd.add (k * 4)).off + 1, none⟩ = some (.int .i64 tw) := d1
      replace d2 : wr.cell? ⟨(bd.add (k * 4)).block, (bd.add (k * 4)).off + 2, none⟩ = some (.int .i64 tg) := d2
      replace d3 : wr.cell? ⟨(bd.add (k * 4)).block, (bd.add (k * 4)).off + 3, none⟩ = some (.int .i64 tc) := d3
      replace hh : tw = 2 ∨ (tw = 3 ∧ tg = 0 ∧ tc ≠ 0) := hh
      have hbX : Below wr.heap.size wr (wr.alloc (Obj.cells #[.string tn, .int .i64 tw, .int .i64 tg, .int .i64 tc] 53)) := by (repeat (first | with_reducible exact Below.refl _ _ | with_reducible assumption | with_reducible refine Below.alloc ?_ (by first | exact Nat.le_refl _ | exact Below.size (by assumption) | exact Nat.le_trans (Below.size (by assumption)) (by simp; done) | (simp; done) | (simp; omega) | omega) _ | with_reducible refine below_drewN ?_ _ | with_reducible refine Below.drew ?_ | with_reducible refine Below.setCell ?_ (by first | exact Nat.le_refl _ | (simp; done) | (simp; omega) | omega) _))
      have hnX := heap_alloc_new wr (Obj.cells #[.string tn, .int .i64 tw, .int .i64 tg, .int .i64 tc] 53)
      have hzX : wr.heap.size < (wr.alloc (Obj.cells #[.string tn, .int .i64 tw, .int .i64 tg, .int .i64 tc] 53)).heap.size := by simp
      go_upto_region 11 with fail
      generalize wr.alloc (Obj.cells #[.string tn, .int .i64 tw, .int .i64 tg, .int .i64 tc] 53) = WX at hbX hnX hzX ⊢
      have x0 : WX.cell? ⟨wr.heap.size, 0, none⟩ = some (.string tn) := blk_cell hnX 0
      have x1 : WX.cell? ⟨wr.heap.size, 1, none⟩ = some (.int .i64 tw) := blk_cell hnX 1
      have x2 : WX.cell? ⟨wr.heap.size, 2, none⟩ = some (.int .i64 tg) := blk_cell hnX 2
      have x3 : WX.cell? ⟨wr.heap.size, 3, none⟩ = some (.int .i64 tc) := blk_cell hnX 3
      have d0 := (hbX.cell (World.block_lt_of_cell? _ _ d0)).trans d0
      have d1 := (hbX.cell (World.block_lt_of_cell? _ _ d1)).trans d1
      have d2 := (hbX.cell (World.block_lt_of_cell? _ _ d2)).trans d2
      have d3 := (hbX.cell (World.block_lt_of_cell? _ _ d3)).trans d3
      have HBX := below_then HB HB.size hbX
      have zr := HB.size
      have s2 : WX.cell? ⟨w5.heap.size, 2, none⟩ = some (.slice (some bd) st.states.length yd) := blk_cell ((HBX.block _ hzC).trans HW.out) 2
      have hnr := (HBX.block _ hz3).trans HN.out
      have r1 : WX.cell? ⟨w3.heap.size, 1, none⟩ = some (.slice xA st.recs.length xc) := blk_cell hnr 1
      have HNX := hide hnX
      have HRX := hide (HRC.out.below HBX)
      have hbdl : bd.block < WX.heap.size := by have := World.block_lt_of_cell? _ _ d0; rwa [block_add] at this
      have hkI : (k : Int) < st.states.length := by omega
      clear hbX hnX e0 e1 e2 e3 hnr hmem
      obtain ⟨wk, rfl⟩ : ∃ wk : World, wk = wr := ⟨_, rfl⟩
      rcases hh with rfl | ⟨rfl, rfl, hcd⟩
      case' inl =>
        go_quiet (fail)
        go_wp2_with fail
      case' inr =>
        have hcb : (tc == 0) = false := by simpa using hcd
        go_quiet (fail)
        go_wp2_with fail
        clear hcb
      all_goals
        clear x0 x1 x2 x3 d0 d1 d2 d3 s2 r1
        go_loopw [10, 80] (fun _ v wq => ∃ j : Nat, v = .int .i64 j ∧ j ≤ st.recs.length ∧ Below WX.heap.size WX wq) (fun _ v _ => st.recs.length - (intOf v).toNat)
        case atStart => exact ⟨0, rfl, by omega, by (repeat (first | with_reducible exact Below.refl _ _ | with_reducible assumption | with_reducible refine Below.alloc ?_ (by first | exact Nat.le_refl _ | exact Below.size (by assumption) | exact Nat.le_trans (Below.size (by assumption)) (by simp; done) | (simp; done) | (simp; omega) | omega) _ | with_reducible refine below_drewN ?_ _ | with_reducible refine Below.drew ?_ | with_reducible refine Below.setCell ?_ (by first | exact Nat.le_refl _ | (simp; done) | (simp; omega) | omega) _))⟩
        case round =>
          obtain ⟨j, rfl, hj, HQ⟩ := hrel
          by_cases hjt : j < st.recs.length
          · obtain ⟨qd, hA, l0, l1, l2, l3⟩ := (HRX.out.below HQ).get hjt
            subst hA
            have e0 : wr.cell? (qd.add (j * 4)) = some (.int .i64 st.recs[j].kind) := l0.2
            have e1 : wr.cell? ⟨(qd.add (j * 4)).block, (qd.add (j * 4)).off + 1, none⟩ = some (.string st.recs[j].name) := by have := l1.2; rwa [add_pos _ _ (by omega)] at this
            have e2 : wr.cell? ⟨(qd.add (j * 4)).block, (qd.add (j * 4)).off + 2, none⟩ = some (.int .i64 st.recs[j].code) := by have := l2.2; rwa [add_pos _ _ (by omega)] at this
            have e3 : wr.cell? ⟨(qd.add (j * 4)).block, (qd.add (j * 4)).off + 3, none⟩ = some (.int .i64 st.recs[j].num) := by have := l3.2; rwa [add_pos _ _ (by omega)] at this
            have hx2 := HX2.out _ (List.getElem_mem hjt)
            clear l0 l1 l2 l3
            have HX3 := hide hx2
            generalize st.recs[j] = q at e0 e1 e2 e3 HX3
            obtain ⟨qk, qn, qc, qm⟩ := q
            replace e0 : wr.cell? (qd.add (j * 4)) = some (.int .i64 qk) := e0
            replace e1 : wr.cell? ⟨(qd.add (j * 4)).block, (qd.add (j * 4)).off + 1, none⟩ = some (.string qn) := e1
            replace e2 : wr.cell? ⟨(qd.add (j * 4)).block, (qd.add (j * 4)).off + 2, none⟩ = some (.int .i64 qc) := e2
            replace e3 : wr.cell? ⟨(qd.add (j * 4)).block, (qd.add (j * 4)).off + 3, none⟩ = some (.int .i64 qm) := e3
            have hnx := (HQ.block _ hzX).trans HNX.out
            have x0 := blk_cell hnx 0
            have x2 := blk_cell hnx 2
            have hbY : Below wr.heap.size wr (wr.alloc (Obj.cells #[.int .i64 qk, .string qn, .int .i64 qc, .int .i64 qm] 49)) := by (repeat (first | with_reducible exact Below.refl _ _ | with_reducible assumption | with_reducible refine Below.alloc ?_ (by first | exact Nat.le_refl _ | exact Below.size (by assumption) | exact Nat.le_trans (Below.size (by assumption)) (by simp; done) | (simp; done) | (simp; omega) | omega) _ | with_reducible refine below_drewN ?_ _ | with_reducible refine Below.drew ?_ | with_reducible refine Below.setCell ?_ (by first | exact Nat.le_refl _ | (simp; done) | (simp; omega) | omega) _))
            have hnY := heap_alloc_new wr (Obj.cells #[.int .i64 qk, .string qn, .int .i64 qc, .int .i64 qm] 49)
            have zq := HQ.size
            go_upto_region 18 with fail
            generalize wr.alloc (Obj.cells #[.int .i64 qk, .string qn, .int .i64 qc, .int .i64 qm] 49) = WY at hbY hnY ⊢
            have y0 : WY.cell? ⟨wr.heap.size, 0, none⟩ = some (.int .i64 qk) := blk_cell hnY 0
            have y1 : WY.cell? ⟨wr.heap.size, 1, none⟩ = some (.string qn) := blk_cell hnY 1
            have y3 : WY.cell? ⟨wr.heap.size, 3, none⟩ = some (.int .i64 qm) := blk_cell hnY 3
            have x0 := (hbY.cell (World.block_lt_of_cell? _ _ x0)).trans x0
            have x2 := (hbY.cell (World.block_lt_of_cell? _ _ x2)).trans x2
            have HQ2 := below_then HQ HQ.size hbY
            clear hnx hbY hnY e0 e1 e2 e3 HQ
            by_cases hk4 : qk = 4
            · subst hk4
              by_cases hnq : qn = tn
              · have hbq := beq_t hnq
                have hgv := (HX3.out rfl hnq.symm)
                replace hgv := hgv.symm
                replace hgv : qm = _ := hgv
                subst hgv
                clear hnq HX3
                go_wp2_with fail
                go_roundw
                case rel => exact ⟨j + 1, by go_num, by omega, HQ2⟩
                case measure => simp [intOf]; omega
              · have hbq := beq_f hnq
                clear hnq HX3
                go_wp2_with fail
                go_roundw
                case rel => exact ⟨j + 1, by go_num, by omega, HQ2⟩
                case measure => simp [intOf]; omega
            · have hkb : (qk == 4) = false := by simpa using hk4
              clear HX3 hk4
              go_wp2_with fail
              go_roundw
              case rel => exact ⟨j + 1, by go_num, by omega, HQ2⟩
              case measure => simp [intOf]; omega
          · obtain rfl : j = st.recs.length := by omega
            go_wp2_with fail
            exact ⟨⟨k + 1, by go_num, by omega, below_then HBX HBX.size HQ⟩, by simp [intOf]; omega⟩
    · obtain rfl : k = st.states.length := by omega
      go_wp2_with fail
      go_ret
      exact ⟨rfl, below_then B6 B6.size HB⟩
end Go.Proofs.YtkhlicmlnjccdaaDoor
