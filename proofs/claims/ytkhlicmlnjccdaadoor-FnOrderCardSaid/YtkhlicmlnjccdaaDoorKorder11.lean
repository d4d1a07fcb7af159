/-
  FnOrder: the walk, from what a drawn world is on.
-/
import Derived.Test.YtkhlicmlnjccdaaDoorKd34
import Derived.Test.YtkhlicmlnjccdaaDoorKorder1
import Derived.Test.YtkhlicmlnjccdaaDoorKorder5
import Derived.Test.YtkhlicmlnjccdaaDoorKorder7
import Derived.Test.YtkhlicmlnjccdaaDoorKorder8
import Derived.Test.YtkhlicmlnjccdaaDoorKorder9
import Derived.Test.YtkhlicmlnjccdaaDoorKorder10
namespace Go.Proofs.YtkhlicmlnjccdaaDoor
open Go.RowKit Mem
theorem edge_stood : Tryd.prog.stoodInHeld 78 = false := by kernel_rfl
theorem edge_under : Tryd.prog.underlying 78 = some (.struct (Tryd.prog.fieldsOf 78)) := by kernel_rfl
theorem edge_same (a b c : Int) (w : World) : (binOp .neq 78 (.agg #[.int .i64 a, .int .i64 b, .int .i64 c]) (.agg #[.int .i64 a, .int .i64 b, .int .i64 c])).run Tryd.prog w = .ok (.bool false) w := by
  rw [run_neq_struct, run_equalIn_agg _ _ _ _ _ edge_under edge_stood]
  simp only [Program.fieldsOf, Tryd.underlying78]
  simp [Op.eqFields, part, go_sem, Tryd.underlying3]
/-- where a text stands -/
def PosAt (o : List Str) (s : Str) (k : Nat) (a : Int) : Prop := (a = -1 ∧ ∀ j : Nat, j < k → o[j]? ≠ some s) ∨ ∃ j : Nat, j < k ∧ a = j ∧ o[j]? = some s
theorem PosAt.hit {o : List Str} {s : Str} {k : Nat} (h : o[k]? = some s) : PosAt o s (k + 1) k := .inr ⟨k, by omega, rfl, h⟩
theorem PosAt.miss {o : List Str} {s x : Str} {k : Nat} {a : Int} (p : PosAt o s k a) (h : o[k]? = some x) (hne : x ≠ s) : PosAt o s (k + 1) a := by
  rcases p with ⟨h1, h2⟩ | ⟨j, h1, h2, h3⟩
  · refine .inl ⟨h1, fun j hj => ?_⟩
    rcases Nat.lt_or_ge j k with hlt | hge
    · exact h2 j hlt
    · obtain rfl : j = k := by omega
      rw [h]; exact fun e => hne (Option.some.inj e)
  · exact .inr ⟨j, by omega, h2, h3⟩

theorem SlV.slA2 {α : Type} {k : Kind α} {w : World} {S : Nat → Prop} {A : Option Addr} {n c : Nat} {xs : List α} (h : SlV k w S (.slice A n c) xs) : Sl k w S A xs := by
  obtain ⟨A', c', hv, _, _, s⟩ := h
  injection hv with e _ _
  subst e
  exact s

set_option maxRecDepth 100000 in
set_option maxHeartbeats 4000000 in
theorem order_walk (HDR : DrawnP) (A : Option Addr) (cp nn : Nat) (code : List Int) (S : Nat → Prop) (w : World) (h : Sl kU8 w S A code) (hn : code.length = nn) (hs : ∀ x ∈ code, 0 ≤ x ∧ x ≤ 255) (hl : nn ≤ maxLen) (hm : ML w) :
    Calls Tryd.prog 11 #[.slice A nn cp] w fun e w' => e = .returned (.bool true) ∧ Below w.heap.size w w' := by
  unfold maxLen at hl
  by_cases hbig : 1048576 < nn
  · go_enter Tryd.func11, Tryd.ntmps11
    go_wp2_with fail
    go_ret
    exact ⟨rfl, by (repeat (first | with_reducible exact Below.refl _ _ | with_reducible assumption | with_reducible refine Below.alloc ?_ (by first | exact Nat.le_refl _ | exact Below.size (by assumption) | exact Nat.le_trans (Below.size (by assumption)) (by simp; done) | (simp; done) | (simp; omega) | omega) _ | with_reducible refine below_drewN ?_ _ | with_reducible refine Below.drew ?_ | with_reducible refine Below.setCell ?_ (by first | exact Nat.le_refl _ | (simp; done) | (simp; omega) | omega) _))⟩
  have hdr := HDR A cp nn code S w h hn hs (by omega)
  have HD := hide hdr
  have HM := hide hm
  clear hdr HDR h hn hs hm
  go_enter Tryd.func11, Tryd.ntmps11
  go_wp2_with fail
  refine HD.out.mono ?_
  rintro e w1 ⟨vR, vM, vF, nm, D, rfl, hin1, hsz, hnm, _, hm7, hb1⟩
  clear HD
  obtain ⟨⟨A1, c1, hv1, _, _, _⟩, ⟨A2, c2, hv2, _, _, _⟩, ⟨A3, c3, hv3, _, _, _⟩⟩ := id hin1
  subst hv1 hv2 hv3
  have hbA : Below w1.heap.size w1 (w1.alloc (Obj.cells #[.slice A1 D.roots.length c1, .slice A2 D.mods.length c2, .slice A3 D.faults.length c3] 46)) := by (repeat (first | with_reducible exact Below.refl _ _ | with_reducible assumption | with_reducible refine Below.alloc ?_ (by first | exact Nat.le_refl _ | exact Below.size (by assumption) | exact Nat.le_trans (Below.size (by assumption)) (by simp; done) | (simp; done) | (simp; omega) | omega) _ | with_reducible refine below_drewN ?_ _ | with_reducible refine Below.drew ?_ | with_reducible refine Below.setCell ?_ (by first | exact Nat.le_refl _ | (simp; done) | (simp; omega) | omega) _))
  have hnA := heap_alloc_new w1 (Obj.cells #[.slice A1 D.roots.length c1, .slice A2 D.mods.length c2, .slice A3 D.faults.length c3] 46)
  have hzA : w1.heap.size < (w1.alloc (Obj.cells #[.slice A1 D.roots.length c1, .slice A2 D.mods.length c2, .slice A3 D.faults.length c3] 46)).heap.size := by simp
  go_upto_region 4 with fail
  generalize w1.alloc (Obj.cells #[.slice A1 D.roots.length c1, .slice A2 D.mods.length c2, .slice A3 D.faults.length c3] 46) = W2 at hbA hnA hzA ⊢
  have B2 := below_then hb1 hb1.size hbA
  have HIN := hide (hin1.below hbA)
  have HBX := hide hnA
  have HSZ := hide hsz
  have HM2 := hide (HM.out.below B2)
  have HB2 := hide B2
  clear hin1 hbA hnA hb1 hsz HM
  -- the contracts, of every later world
  have KEY : ∀ {W : World}, Below W2.heap.size W2 W → WIn W (fun b => w.heap.size ≤ b) (.slice A1 D.roots.length c1) (.slice A2 D.mods.length c2) (.slice A3 D.faults.length c3) D ∧ ML W := fun {W} hb => ⟨HIN.out.below hb, HM2.out.below hb⟩
  have HIE := hide (fun (W : World) (hb : Below W2.heap.size W2 W) => iEdges_calls D _ _ _ _ W (KEY hb).1 HSZ.out (KEY hb).2)
  have HSE := hide (fun (W : World) (hb : Below W2.heap.size W2 W) => sEdges_calls D _ _ _ _ W (KEY hb).1 HSZ.out)
  have HIO := hide (fun (W : World) (hb : Below W2.heap.size W2 W) => iOrder_calls D _ _ _ _ W (KEY hb).1 HSZ.out (KEY hb).2 nm hnm)
  have HSO := hide (fun (W : World) (hb : Below W2.heap.size W2 W) => sOrder_calls D _ _ _ _ W (KEY hb).1 HSZ.out nm hnm)
  have HIS := hide (fun (W : World) (hb : Below W2.heap.size W2 W) => iShortestRing_calls D _ _ _ _ W (KEY hb).1 HSZ.out (KEY hb).2)
  have HSS := hide (fun (W : World) (hb : Below W2.heap.size W2 W) => sShortestRing_calls D _ _ _ _ W (KEY hb).1 HSZ.out (by omega))
  have HNM : Hid (∀ (i : Nat) (W : World), Below W2.heap.size W2 W → i < D.mods.length → ∃ ad, A2 = some ad ∧ W.cell? (ad.add (i * 2)) = some (.string (Gr.nameAt D i))) := hide (fun i W hb hi => by
    obtain ⟨ad, hA, hk⟩ := (SlV.slA2 (KEY hb).1.M).get hi
    refine ⟨ad, hA, ?_⟩
    have hx : Gr.nameAt D i = D.mods[i].name := by unfold Gr.nameAt; rw [List.getElem?_eq_getElem hi]
    rw [hx]; exact hk.1.2)
  have HAH := hide (fun h => Gr.order_ahead D nm h)
  have HFT := hide (fun (e : EdgeD) (h : e ∈ Gr.edges D) => Gr.edges_fit h)
  have hEl : (Gr.edges D).length ≤ 3600 := Gr.edges_len (D := D)
  have hOl : (Gr.order D nm).length ≤ 3600 := Gr.order_len D nm
  have hRl : (Gr.shortest D).length ≤ 3600 := Gr.shortest_len D
  clear KEY hm7
  have HNA := hide (rfl : Gr.nameAt D = Gr.nameAt D)
  generalize Gr.nameAt D = nameAt at HNM HAH HNA
  generalize Gr.edges D = E at HIE HSE HAH HFT hEl
  generalize Gr.order D nm = o at HIO HSO HAH hOl
  generalize Gr.shortest D = R at HIS HSS HAH hRl
  clear HNA HIN HM2 HSZ
  have b2 : Below W2.heap.size W2 W2 := Below.refl _ _
  have k0 : W2.cell? ⟨w1.heap.size, 0, none⟩ = some (.slice A1 D.roots.length c1) := blk_cell ((b2.block _ hzA).trans HBX.out) 0
  have k1 : W2.cell? ⟨w1.heap.size, 1, none⟩ = some (.slice A2 D.mods.length c2) := blk_cell ((b2.block _ hzA).trans HBX.out) 1
  have k2 : W2.cell? ⟨w1.heap.size, 2, none⟩ = some (.slice A3 D.faults.length c3) := blk_cell ((b2.block _ hzA).trans HBX.out) 2
  go_wp2_with fail
  refine (HIE.out W2 b2).mono ?_
  rintro e w3 ⟨v3, rfl, HE3, b3⟩
  clear k0 k1 k2 b2
  have k0 : w3.cell? ⟨w1.heap.size, 0, none⟩ = some (.slice A1 D.roots.length c1) := blk_cell ((b3.block _ hzA).trans HBX.out) 0
  have k1 : w3.cell? ⟨w1.heap.size, 1, none⟩ = some (.slice A2 D.mods.length c2) := blk_cell ((b3.block _ hzA).trans HBX.out) 1
  have k2 : w3.cell? ⟨w1.heap.size, 2, none⟩ = some (.slice A3 D.faults.length c3) := blk_cell ((b3.block _ hzA).trans HBX.out) 2
  go_wp2_with fail
  refine (HSE.out w3 b3).mono ?_
  rintro e w4 ⟨v4, rfl, HW4, b34⟩
  have b4 := below_then b3 b3.size b34
  have HE4 := HE3.below b34
  have z3 := b3.size
  have z34 := b34.size
  clear k0 k1 k2
  have hlt3 : ∀ b, v3.ownBlock = some b → b < w3.heap.size := fun b e => HE3.lt e
  clear HE3 b3
  obtain ⟨P3, p3, hp3, _, _, _⟩ := HE4.slV
  subst hp3
  obtain ⟨P4, p4, hp4, _, _, _⟩ := HW4.slV
  subst hp4
  have HLS := hide HE4.sl
  have HLT3 := hide hlt3
  clear hlt3
  have HWT := hide (HW4.sl.old.more (fun b hb => (show w3.heap.size ≤ b ∧ b < w4.heap.size from hb)))
  have hEI : (E.length : Int) ≤ 3600 := by omega
  have hes := edge_same
  have HX4 := hide b4
  have HE4h := hide HE4
  clear HE4 HW4 b34 b4
  go_wp2_with fail
  go_loopw [7, 8, 40] (fun _ _ v wr => ∃ k : Nat, v = .int .i64 k ∧ k ≤ E.length ∧ Below w4.heap.size w4 wr) (fun _ _ v _ => E.length - (intOf v).toNat)
  case atStart => exact ⟨0, rfl, by omega, Below.refl _ _⟩
  case round =>
    obtain ⟨k, rfl, hk, HB⟩ := hrel
    by_cases hlt : k < E.length
    · obtain ⟨ad, hA, l0, l1, l2⟩ := (HLS.out.below HB).get hlt
      subst hA
      obtain ⟨bd, hA, m0, m1, m2⟩ := (HWT.out.below HB).get hlt
      subst hA
      have e0 : wr.cell? (ad.add (k * 3)) = some (.int .i64 E[k].src) := l0.2
      have e1 : wr.cell? ⟨(ad.add (k * 3)).block, (ad.add (k * 3)).off + 1, none⟩ = some (.int .i64 E[k].line) := by have := l1.2; rwa [add_pos _ _ (by omega)] at this
      have e2 : wr.cell? ⟨(ad.add (k * 3)).block, (ad.add (k * 3)).off + 2, none⟩ = some (.int .i64 E[k].dst) := by have := l2.2; rwa [add_pos _ _ (by omega)] at this
      have d0 : wr.cell? (bd.add (k * 3)) = some (.int .i64 E[k].src) := m0.2
      have d1 : wr.cell? ⟨(bd.add (k * 3)).block, (bd.add (k * 3)).off + 1, none⟩ = some (.int .i64 E[k].line) := by have := m1.2; rwa [add_pos _ _ (by omega)] at this
      have d2 : wr.cell? ⟨(bd.add (k * 3)).block, (bd.add (k * 3)).off + 2, none⟩ = some (.int .i64 E[k].dst) := by have := m2.2; rwa [add_pos _ _ (by omega)] at this
      clear l0 l1 l2 m0 m1 m2
      generalize E[k].src = f0 at e0 d0
      generalize E[k].line = f1 at e1 d1
      generalize E[k].dst = f2 at e2 d2
      have hbX : Below wr.heap.size wr (wr.alloc (Obj.cells #[.int .i64 f0, .int .i64 f1, .int .i64 f2] 78)) := by (repeat (first | with_reducible exact Below.refl _ _ | with_reducible assumption | with_reducible refine Below.alloc ?_ (by first | exact Nat.le_refl _ | exact Below.size (by assumption) | exact Nat.le_trans (Below.size (by assumption)) (by simp; done) | (simp; done) | (simp; omega) | omega) _ | with_reducible refine below_drewN ?_ _ | with_reducible refine Below.drew ?_ | with_reducible refine Below.setCell ?_ (by first | exact Nat.le_refl _ | (simp; done) | (simp; omega) | omega) _))
      have hnX := heap_alloc_new wr (Obj.cells #[.int .i64 f0, .int .i64 f1, .int .i64 f2] 78)
      go_upto_region 11 with fail
      generalize wr.alloc (Obj.cells #[.int .i64 f0, .int .i64 f1, .int .i64 f2] 78) = WX at hbX hnX ⊢
      have x0 := blk_cell hnX 0
      have x1 := blk_cell hnX 1
      have x2 := blk_cell hnX 2
      have d0 := (hbX.cell (World.block_lt_of_cell? _ _ d0)).trans d0
      have d1 := (hbX.cell (World.block_lt_of_cell? _ _ d1)).trans d1
      have d2 := (hbX.cell (World.block_lt_of_cell? _ _ d2)).trans d2
      have HBX' := below_then HB HB.size hbX
      clear e0 e1 e2 hbX hnX HB
      go_quiet (fail)
      go_wp2_with fail
      go_roundw
      case rel => exact ⟨k + 1, by go_num, by omega, by (repeat (first | with_reducible exact Below.refl _ _ | with_reducible assumption | with_reducible refine Below.alloc ?_ (by first | exact Nat.le_refl _ | exact Below.size (by assumption) | exact Nat.le_trans (Below.size (by assumption)) (by simp; done) | (simp; done) | (simp; omega) | omega) _ | with_reducible refine below_drewN ?_ _ | with_reducible refine Below.drew ?_ | with_reducible refine Below.setCell ?_ (by first | exact Nat.le_refl _ | (simp; done) | (simp; omega) | omega) _))⟩
      case measure => simp [intOf]; omega
    · obtain rfl : k = E.length := by omega
      have b5 := below_then HX4.out HX4.out.size HB
      have z5 := HB.size
      have HE5 := hide (HE4h.out.below HB)
      have HWT5 := hide (HWT.out.below HB)
      clear HLS HWT HE4h hlt hk
      have k0 : wr.cell? ⟨w1.heap.size, 0, none⟩ = some (.slice A1 D.roots.length c1) := blk_cell ((b5.block _ hzA).trans HBX.out) 0
      have k1 : wr.cell? ⟨w1.heap.size, 1, none⟩ = some (.slice A2 D.mods.length c2) := blk_cell ((b5.block _ hzA).trans HBX.out) 1
      have k2 : wr.cell? ⟨w1.heap.size, 2, none⟩ = some (.slice A3 D.faults.length c3) := blk_cell ((b5.block _ hzA).trans HBX.out) 2
      go_wp2_with fail
      refine (HIO.out wr b5).mono ?_
      rintro e w6 ⟨v6, rfl, HO6, b56⟩
      have b6 := below_then b5 b5.size b56
      have HE6 := hide (HE5.out.below b56)
      have HWT6 := hide (HWT5.out.below b56)
      have z6 := b56.size
      obtain ⟨P6, p6, hp6, _, _, _⟩ := HO6.slV
      subst hp6
      clear k0 k1 k2 b56 HE5 HWT5
      have k0 : w6.cell? ⟨w1.heap.size, 0, none⟩ = some (.slice A1 D.roots.length c1) := blk_cell ((b6.block _ hzA).trans HBX.out) 0
      have k1 : w6.cell? ⟨w1.heap.size, 1, none⟩ = some (.slice A2 D.mods.length c2) := blk_cell ((b6.block _ hzA).trans HBX.out) 1
      have k2 : w6.cell? ⟨w1.heap.size, 2, none⟩ = some (.slice A3 D.faults.length c3) := blk_cell ((b6.block _ hzA).trans HBX.out) 2
      go_wp2_with fail
      refine (HSO.out w6 b6).mono ?_
      rintro e w7 ⟨v7, rfl, HO7, b67⟩
      obtain ⟨P7, p7, hp7, _, _, _⟩ := HO7.slV
      subst hp7
      go_wp2_with fail
      refine (wTexts_same P6 P7 p6 p7 o.length o w7 _ _ (HO6.sl.below b67) HO7.sl rfl (by unfold maxLen; omega)).mono ?_
      rintro e w7' ⟨rfl, n7, rfl⟩
      have b67' := below_drewN b67 n7
      have b7 := below_then b6 b6.size b67'
      have z7 := b67'.size
      have HO8 := hide (HO6.below b67')
      have HE7 := hide (HE6.out.below b67')
      have HWT7 := hide (HWT6.out.below b67')
      generalize w7.drewN n7 = W7 at b67' b7 z7 HO8 HE7 HWT7 ⊢
      have HLT6 : Hid (∀ b, (Value.slice P6 o.length p6).ownBlock = some b → b < W7.heap.size) := hide (fun b e => HO8.out.lt e)
      clear k0 k1 k2 b67 b67' HO6 HO7 HE6 HWT6 b6
      have k0 : W7.cell? ⟨w1.heap.size, 0, none⟩ = some (.slice A1 D.roots.length c1) := blk_cell ((b7.block _ hzA).trans HBX.out) 0
      have k1 : W7.cell? ⟨w1.heap.size, 1, none⟩ = some (.slice A2 D.mods.length c2) := blk_cell ((b7.block _ hzA).trans HBX.out) 1
      have k2 : W7.cell? ⟨w1.heap.size, 2, none⟩ = some (.slice A3 D.faults.length c3) := blk_cell ((b7.block _ hzA).trans HBX.out) 2
      go_wp2_with fail
      refine (HIS.out W7 b7).mono ?_
      rintro e w8 ⟨v8, rfl, HR8, b78⟩
      obtain ⟨P8, p8, hp8, _, _, _⟩ := HR8.slV
      subst hp8
      have b8 := below_then b7 b7.size b78
      have z8 := b78.size
      have HO9 := hide (HO8.out.below b78)
      have HE8 := hide (HE7.out.below b78)
      have HWT8 := hide (HWT7.out.below b78)
      clear k0 k1 k2 b78 HO8 HE7 HWT7 b7
      have k0 : w8.cell? ⟨w1.heap.size, 0, none⟩ = some (.slice A1 D.roots.length c1) := blk_cell ((b8.block _ hzA).trans HBX.out) 0
      have k1 : w8.cell? ⟨w1.heap.size, 1, none⟩ = some (.slice A2 D.mods.length c2) := blk_cell ((b8.block _ hzA).trans HBX.out) 1
      have k2 : w8.cell? ⟨w1.heap.size, 2, none⟩ = some (.slice A3 D.faults.length c3) := blk_cell ((b8.block _ hzA).trans HBX.out) 2
      go_wp2_with fail
      refine (HSS.out w8 b8).mono ?_
      rintro e w9 ⟨v9, rfl, HR9, b89⟩
      obtain ⟨P9, p9, hp9, _, _, _⟩ := HR9.slV
      subst hp9
      go_wp2_with fail
      refine (wTexts_same P8 P9 p8 p9 R.length R w9 _ _ (HR8.sl.below b89) HR9.sl rfl (by unfold maxLen; omega)).mono ?_
      rintro e w9' ⟨rfl, n9, rfl⟩
      have b89' := below_drewN b89 n9
      have b9 := below_then b8 b8.size b89'
      have z9 := b89'.size
      have HR10 := hide (HR8.below b89')
      have HO10 := hide (HO9.out.below b89')
      have HE10 := hide (HE8.out.below b89')
      have HWT10 := hide (HWT8.out.below b89')
      generalize w9.drewN n9 = W9 at b89' b9 z9 HR10 HO10 HE10 HWT10 ⊢
      clear k0 k1 k2 b89 b89' HR8 HR9 HO9 HE8 HWT8 b8
      have HB9 := hide b9
      clear b9
      obtain ⟨wk, rfl⟩ : ∃ wk : World, wk = wr := ⟨_, rfl⟩
      go_wp2_with fail
      go_loopw [11, 70] (fun _ v wr => ∃ (k : Nat) (xs : List Str), v = .int .i64 k ∧ k ≤ R.length ∧ Hid (xs.length = R.length) ∧ Own fStr wr W7.heap.size 9 (.slice P8 R.length p8) xs ∧ W9.grownBy wr (Value.slice P8 R.length p8).ownBlock) (fun _ v _ => R.length - (intOf v).toNat)
      case atStart => exact ⟨0, R, rfl, by omega, hide rfl, HR10.out, World.grownBy.refl _ _⟩
      case round =>
        obtain ⟨k, xs, rfl, hk, HXL, HX, HG⟩ := hrel
        by_cases hlt : k < R.length
        · obtain ⟨gR, rc, hv, _, _, _, _, _, _⟩ := HX.form (fun e => by have := HXL.out; rw [e] at this; simp at this; omega)
          injection hv with hA hA2 hA3
          clear hA2 hA3
          have hAh := hide hA
          have HG2 := hide HG
          have hkx : k < xs.length := by rw [HXL.out]; exact hlt
          have hx1 : xs[k]? = some xs[k] := List.getElem?_eq_getElem hkx
          rw [hA] at HX
          have c0 : wr.cell? ⟨gR, k, none⟩ = some (.string xs[k]) := by have := HX.cellAt (i := k) (j := 0) (u := .string xs[k]) hx1 rfl; simpa [fStr, kStr] using this
          have f0 : wr.frozen? ⟨gR, k, none⟩ = false := HX.free _
          have hst := HX.store HXL.out k 0 ⟨#[111, 118, 101, 114]⟩ (.string ⟨#[111, 118, 101, 114]⟩) (by show 0 < 1; omega) (fun x hx => rfl)
          replace hst : Own fStr (wr.setCell ⟨gR, k, none⟩ (.string ⟨#[111, 118, 101, 114]⟩)) W7.heap.size 9 (.slice (some ⟨gR, 0, none⟩) R.length p8) (xs.set k ⟨#[111, 118, 101, 114]⟩) := by simpa [fStr, kStr] using hst
          have HST := hide hst
          clear hx1 hst HX HG
          generalize xs[k] = y at c0
          clear hkx
          subst hA
          go_wp2_with fail
          go_roundw
          case rel => exact ⟨k + 1, _, by go_num, by omega, hide ((List.length_set ..).trans HXL.out), HST.out, World.grownBy.trans HG2.out (grown_set wr gR k _)⟩
          case measure => simp [intOf]; omega
        · obtain rfl : k = R.length := by omega
          have bW := HB9.out.grown HG (by omega) (fun b e => by have := HX.le e; omega)
          have HE11 := hide (HE10.out.kept HG (apart_ty HE10.out HR10.out (by decide)))
          have HO11 := hide (HO10.out.kept HG (by
            cases he : (Value.slice P6 o.length p6).ownBlock with
            | none => exact .inl rfl
            | some b => exact .inr (fun e => by have := HLT6.out b he; have := HX.le e.symm; omega)))
          have HWT11 := hide (HWT10.out.grown HG (fun b hb _ e => by have := HX.le e.symm; omega))
          have z11 := HG.size
          clear HG HX HXL HE10 HO10 HWT10 HR10 HB9 hlt hk
          have HBW := hide bW
          clear bW
          obtain ⟨wm, rfl⟩ : ∃ wm : World, wm = wr := ⟨_, rfl⟩
          go_wp2_with fail
          go_loopw [12, 79] (fun _ v wr => ∃ (k : Nat) (es : List EdgeD), v = .int .i64 k ∧ k ≤ E.length ∧ Hid (es.length = E.length) ∧ Own fEdge wr W2.heap.size 78 (.slice P3 E.length p3) es ∧ wm.grownBy wr (Value.slice P3 E.length p3).ownBlock) (fun _ v _ => E.length - (intOf v).toNat)
          case atStart => exact ⟨0, E, rfl, by omega, hide rfl, HE11.out, World.grownBy.refl _ _⟩
          case round =>
            obtain ⟨k, es, rfl, hk, HXL, HX, HG⟩ := hrel
            by_cases hlt : k < E.length
            · obtain ⟨gE, ec, hv, _, _, _, _, _, _⟩ := HX.form (fun e => by have := HXL.out; rw [e] at this; simp at this; omega)
              injection hv with hA hA2 hA3
              clear hA2 hA3
              have HG2 := hide HG
              have hkx : k < es.length := by rw [HXL.out]; exact hlt
              have hx1 : es[k]? = some es[k] := List.getElem?_eq_getElem hkx
              rw [hA] at HX
              have c0 : wr.cell? ⟨gE, k * 3 + 2, none⟩ = some (.int .i64 es[k].dst) := HX.cellAt (i := k) (j := 2) hx1 rfl
              have f0 : wr.frozen? ⟨gE, k * 3 + 2, none⟩ = false := HX.free _
              have hst := HX.store HXL.out k 2 ⟨es[k].src, es[k].line, 77⟩ (.int .i64 77) (by show 2 < 3; omega) (fun x hx => by rw [hx1] at hx; obtain rfl := Option.some.inj hx; rfl)
              replace hst : Own fEdge (wr.setCell ⟨gE, k * 3 + 2, none⟩ (.int .i64 77)) W2.heap.size 78 (.slice (some ⟨gE, 0, none⟩) E.length p3) (es.set k ⟨es[k].src, es[k].line, 77⟩) := hst
              have HST := hide hst
              clear hx1 hst HX HG
              generalize es[k].dst = y at c0
              subst hA
              go_wp2_with fail
              go_roundw
              case rel => exact ⟨k + 1, _, by go_num, by omega, hide ((List.length_set ..).trans HXL.out), HST.out, World.grownBy.trans HG2.out (grown_set wr gE (k * 3 + 2) _)⟩
              case measure => simp [intOf]; omega
            · obtain rfl : k = E.length := by omega
              have b12 := HBW.out.grown HG (by omega) (fun b e => HX.le e)
              have HO12 := hide (HO11.out.kept HG (apart_ty HO11.out HE11.out (by decide)))
              have HWT12 := hide (HWT11.out.grown HG (fun b hb _ e => by have := HLT3.out b e.symm; omega))
              have z12 := HG.size
              clear HG HX HXL HE11 HO11 HWT11 HBW hlt hk
              have k0 : wr.cell? ⟨w1.heap.size, 0, none⟩ = some (.slice A1 D.roots.length c1) := blk_cell ((b12.block _ hzA).trans HBX.out) 0
              have k1 : wr.cell? ⟨w1.heap.size, 1, none⟩ = some (.slice A2 D.mods.length c2) := blk_cell ((b12.block _ hzA).trans HBX.out) 1
              have k2 : wr.cell? ⟨w1.heap.size, 2, none⟩ = some (.slice A3 D.faults.length c3) := blk_cell ((b12.block _ hzA).trans HBX.out) 2
              go_wp2_with fail
              refine (HIE.out wr b12).mono ?_
              rintro e w13 ⟨v13, rfl, HE13, b1213⟩
              have b13 := below_then b12 b12.size b1213
              have HO13 := hide (HO12.out.below b1213)
              have HWT13 := hide (HWT12.out.below b1213)
              have z13 := b1213.size
              obtain ⟨P13, p13, hp13, _, _, _⟩ := HE13.slV
              subst hp13
              have HLS := hide HE13.sl
              have HB13 := hide b13
              clear k0 k1 k2 b1213 b12 b13 HO12 HWT12 HE13
              obtain ⟨wn, rfl⟩ : ∃ wn : World, wn = wr := ⟨_, rfl⟩
              go_wp2_with fail
              go_loopw [13, 14, 96] (fun _ _ v wr => ∃ k : Nat, v = .int .i64 k ∧ k ≤ E.length ∧ Below w13.heap.size w13 wr) (fun _ _ v _ => E.length - (intOf v).toNat)
              case atStart => exact ⟨0, rfl, by omega, Below.refl _ _⟩
              case round =>
                obtain ⟨k, rfl, hk, HB⟩ := hrel
                by_cases hlt : k < E.length
                · obtain ⟨ad, hA, l0, l1, l2⟩ := (HLS.out.below HB).get hlt
                  subst hA
                  obtain ⟨bd, hA, m0, m1, m2⟩ := (HWT13.out.below HB).get hlt
                  subst hA
                  have e0 : wr.cell? (ad.add (k * 3)) = some (.int .i64 E[k].src) := l0.2
                  have e1 : wr.cell? ⟨(ad.add (k * 3)).block, (ad.add (k * 3)).off + 1, none⟩ = some (.int .i64 E[k].line) := by have := l1.2; rwa [add_pos _ _ (by omega)] at this
                  have e2 : wr.cell? ⟨(ad.add (k * 3)).block, (ad.add (k * 3)).off + 2, none⟩ = some (.int .i64 E[k].dst) := by have := l2.2; rwa [add_pos _ _ (by omega)] at this
                  have d0 : wr.cell? (bd.add (k * 3)) = some (.int .i64 E[k].src) := m0.2
                  have d1 : wr.cell? ⟨(bd.add (k * 3)).block, (bd.add (k * 3)).off + 1, none⟩ = some (.int .i64 E[k].line) := by have := m1.2; rwa [add_pos _ _ (by omega)] at this
                  have d2 : wr.cell? ⟨(bd.add (k * 3)).block, (bd.add (k * 3)).off + 2, none⟩ = some (.int .i64 E[k].dst) := by have := m2.2; rwa [add_pos _ _ (by omega)] at this
                  clear l0 l1 l2 m0 m1 m2
                  generalize E[k].src = f0 at e0 d0
                  generalize E[k].line = f1 at e1 d1
                  generalize E[k].dst = f2 at e2 d2
                  have hbX : Below wr.heap.size wr (wr.alloc (Obj.cells #[.int .i64 f0, .int .i64 f1, .int .i64 f2] 78)) := by (repeat (first | with_reducible exact Below.refl _ _ | with_reducible assumption | with_reducible refine Below.alloc ?_ (by first | exact Nat.le_refl _ | exact Below.size (by assumption) | exact Nat.le_trans (Below.size (by assumption)) (by simp; done) | (simp; done) | (simp; omega) | omega) _ | with_reducible refine below_drewN ?_ _ | with_reducible refine Below.drew ?_ | with_reducible refine Below.setCell ?_ (by first | exact Nat.le_refl _ | (simp; done) | (simp; omega) | omega) _))
                  have hnX := heap_alloc_new wr (Obj.cells #[.int .i64 f0, .int .i64 f1, .int .i64 f2] 78)
                  go_upto_region 36 with fail
                  generalize wr.alloc (Obj.cells #[.int .i64 f0, .int .i64 f1, .int .i64 f2] 78) = WX at hbX hnX ⊢
                  have x0 := blk_cell hnX 0
                  have x1 := blk_cell hnX 1
                  have x2 := blk_cell hnX 2
                  have d0 := (hbX.cell (World.block_lt_of_cell? _ _ d0)).trans d0
                  have d1 := (hbX.cell (World.block_lt_of_cell? _ _ d1)).trans d1
                  have d2 := (hbX.cell (World.block_lt_of_cell? _ _ d2)).trans d2
                  have HBX' := below_then HB HB.size hbX
                  clear e0 e1 e2 hbX hnX HB
                  go_quiet (fail)
                  go_wp2_with fail
                  go_roundw
                  case rel => exact ⟨k + 1, by go_num, by omega, by (repeat (first | with_reducible exact Below.refl _ _ | with_reducible assumption | with_reducible refine Below.alloc ?_ (by first | exact Nat.le_refl _ | exact Below.size (by assumption) | exact Nat.le_trans (Below.size (by assumption)) (by simp; done) | (simp; done) | (simp; omega) | omega) _ | with_reducible refine below_drewN ?_ _ | with_reducible refine Below.drew ?_ | with_reducible refine Below.setCell ?_ (by first | exact Nat.le_refl _ | (simp; done) | (simp; omega) | omega) _))⟩
                  case measure => simp [intOf]; omega
                · obtain rfl : k = E.length := by omega
                  have b14 := below_then HB13.out HB13.out.size HB
                  have z14 := HB.size
                  have HO14 := hide (HO13.out.below HB)
                  have HLS14 := hide (HLS.out.below HB)
                  clear HB13 HO13 HWT13 HLS hlt hk hes
                  have HB14 := hide b14
                  have CELLS : ∀ {W : World}, Below wr.heap.size wr W → W.heap[w1.heap.size]? = some (Obj.cells #[.slice A1 D.roots.length c1, .slice A2 D.mods.length c2, .slice A3 D.faults.length c3] 46 (0, 0)) := fun {W} hb => ((below_then HB14.out HB14.out.size hb).block _ hzA).trans HBX.out
                  have HCE := hide (fun (W : World) (hb : Below wr.heap.size wr W) => CELLS hb)
                  clear CELLS b14 HB
                  go_upto_region 39 with fail
                  refine wp_region_held_drew (S := fun w' => Below wr.heap.size wr w') (by kernel_rfl) (Below.drew (Below.refl _ _)) (fun hHeld => ?_)
                  (refine wpAnyH_take (i := 0) (oi := ⟨some 108, _, _, _, _, _⟩) (v := .agg #[.slice A1 D.roots.length c1, .slice A2 D.mods.length c2, .slice A3 D.faults.length c3]) rfl (by kernel_rfl) (by kernel_rfl) (by kernel_rfl) (fun _ _ _ h => h) (Or.inl ⟨by rfl, ?_⟩) (by assumption) ?_; (focus (intro w hSw; (try dsimp only at hSw); have hbk := HCE.out _ hSw; have q0 := blk_cell hbk 0; have q1 := blk_cell hbk 1; have q2 := blk_cell hbk 2; go_simp; done)); try simp only [Act.put, List.setIfInBounds_toArray, List.set_cons_zero, List.set_cons_succ])
                  (refine wpAnyH_take (i := 2) (oi := ⟨some 110, _, _, _, _, _⟩) (v := .agg #[.slice A1 D.roots.length c1, .slice A2 D.mods.length c2, .slice A3 D.faults.length c3]) rfl (by kernel_rfl) (by kernel_rfl) (by kernel_rfl) (fun _ _ _ h => h) (Or.inl ⟨by rfl, ?_⟩) (by assumption) ?_; (focus (intro w hSw; (try dsimp only at hSw); have hbk := HCE.out _ hSw; have q0 := blk_cell hbk 0; have q1 := blk_cell hbk 1; have q2 := blk_cell hbk 2; go_simp; done)); try simp only [Act.put, List.setIfInBounds_toArray, List.set_cons_zero, List.set_cons_succ])
                  refine wpAnyH_ready (rs := [1]) (by kernel_rfl) (by simp) ?_
                  refine AllReadyH.cons (o := ⟨some 109, _, _, _, _, _⟩) rfl (fun K hK => ?_) AllReadyH.nil
                  clear hHeld
                  go_simp
                  refine (HIS.out wr.drew (Below.drew HB14.out)).mono ?_
                  rintro e w15 ⟨v15, rfl, HR15, b15⟩
                  have hb15 : Below wr.heap.size wr w15 := ⟨b15.os, b15.tape, b15.output, b15.size, b15.block⟩
                  refine hK.out _ _ hb15 (fun hHeld => ?_)
                  clear hK K b15 hHeld
                  try simp only [Act.put, List.setIfInBounds_toArray, List.set_cons_zero, List.set_cons_succ]
                  refine wpAnyH_ready (rs := [3]) (by kernel_rfl) (by simp) ?_
                  refine AllReadyH.cons (o := ⟨some 111, _, _, _, _, _⟩) rfl (fun K hK => ?_) AllReadyH.nil
                  go_simp
                  refine (HSS.out w15 (below_then HB14.out HB14.out.size hb15)).mono ?_
                  rintro e w16 ⟨v16, rfl, HR16, b16⟩
                  have hb16 := below_then hb15 hb15.size b16
                  refine hK.out _ _ hb16 (fun hHeld => ?_)
                  clear hK K hHeld
                  try simp only [Act.put, List.setIfInBounds_toArray, List.set_cons_zero, List.set_cons_succ]
                  obtain ⟨P15, p15, hp15, _, _, _⟩ := HR15.slV
                  subst hp15
                  obtain ⟨P16, p16, hp16, _, _, _⟩ := HR16.slV
                  subst hp16
                  refine wpAnyH_ready (rs := [4]) (by kernel_rfl) (by simp) ?_
                  refine AllReadyH.cons (o := ⟨some 112, _, _, _, _, _⟩) rfl (fun K hK => ?_) AllReadyH.nil
                  go_simp
                  refine (wTexts_same P15 P16 p15 p16 R.length R w16 _ _ (HR15.sl.below b16) HR16.sl rfl (by unfold maxLen; omega)).mono ?_
                  rintro e w17 ⟨rfl, n17, rfl⟩
                  have hb17 := below_drewN hb16 n17
                  refine hK.out _ _ hb17 (fun hHeld => ?_)
                  clear hK K hHeld
                  try simp only [Act.put, List.setIfInBounds_toArray, List.set_cons_zero, List.set_cons_succ]
                  generalize w16.drewN n17 = w17 at hb17 ⊢
                  (refine wpAnyH_take (i := 5) (oi := ⟨some 113, _, _, _, _, _⟩) (v := .bool false) rfl (by kernel_rfl) (by kernel_rfl) (by kernel_rfl) (fun _ _ _ h => h) (Or.inl ⟨by rfl, ?_⟩) (by assumption) ?_; (focus (intro w hSw; (try dsimp only at hSw); go_simp; done)); try simp only [Act.put, List.setIfInBounds_toArray, List.set_cons_zero, List.set_cons_succ])
                  refine wpAnyH_done (by kernel_rfl) ?_ _
                  have b17 := below_then HB14.out HB14.out.size hb17
                  have HO17 := hide (HO14.out.below hb17)
                  have HLS17 := hide (HLS14.out.below hb17)
                  have z17 := hb17.size
                  clear hb15 hb16 hb17 b16 HR15 HR16 HO14 HLS14 HB14 HCE
                  by_cases hR0 : 0 < R.length
                  · have hRI : (0 : Int) < R.length := by omega
                    go_wp2_with fail
                    go_ret
                    exact ⟨rfl, below_then HB2.out HB2.out.size b17⟩
                  · have hR1 : R.length = 0 := by omega
                    have hah := HAH.out (List.eq_nil_of_length_eq_zero hR1)
                    have hRI : (R.length : Int) ≤ 0 := by omega
                    have HND := hide hah.1
                    have HAD := hide hah.2
                    have HB17 := hide b17
                    clear hah HAH b17 hR0 hR1
                    obtain ⟨wp, rfl⟩ : ∃ wp : World, wp = wr := ⟨_, rfl⟩
                    go_wp2_with fail
                    have hdc : decide (0 < R.length) = false := decide_eq_false (by omega)
                    simp only [hdc]
                    clear hdc
                    go_loopw [16, 119] (fun _ v wr => ∃ k : Nat, v = .int .i64 k ∧ k ≤ E.length ∧ Below w17.heap.size w17 wr) (fun _ v _ => E.length - (intOf v).toNat)
                    case atStart => exact ⟨0, rfl, by omega, Below.refl _ _⟩
                    case round =>
                      obtain ⟨k, rfl, hk, HB⟩ := hrel
                      by_cases hlt : k < E.length
                      · obtain ⟨ad, hA, l0, l1, l2⟩ := (HLS17.out.below HB).get hlt
                        subst hA
                        have e0 : wr.cell? (ad.add (k * 3)) = some (.int .i64 E[k].src) := l0.2
                        have e1 : wr.cell? ⟨(ad.add (k * 3)).block, (ad.add (k * 3)).off + 1, none⟩ = some (.int .i64 E[k].line) := by have := l1.2; rwa [add_pos _ _ (by omega)] at this
                        have e2 : wr.cell? ⟨(ad.add (k * 3)).block, (ad.add (k * 3)).off + 2, none⟩ = some (.int .i64 E[k].dst) := by have := l2.2; rwa [add_pos _ _ (by omega)] at this
                        have hmem := List.getElem_mem hlt
                        have hft := HFT.out _ hmem
                        have had := HAD.out _ hmem
                        clear l0 l1 l2 hmem
                        generalize E[k] = ed at e0 e1 e2 hft had
                        obtain ⟨f0, f1, f2⟩ := ed
                        replace e0 : wr.cell? (ad.add (k * 3)) = some (.int .i64 f0) := e0
                        replace e1 : wr.cell? ⟨(ad.add (k * 3)).block, (ad.add (k * 3)).off + 1, none⟩ = some (.int .i64 f1) := e1
                        replace e2 : wr.cell? ⟨(ad.add (k * 3)).block, (ad.add (k * 3)).off + 2, none⟩ = some (.int .i64 f2) := e2
                        obtain ⟨i, hi⟩ := Int.eq_ofNat_of_zero_le hft.src0
                        replace hi : f0 = (i : Int) := hi
                        subst hi
                        have hil : i < D.mods.length := by have := hft.src1; simpa using this
                        have hbX : Below wr.heap.size wr (wr.alloc (Obj.cells #[.int .i64 (i : Int), .int .i64 f1, .int .i64 f2] 78)) := by (repeat (first | with_reducible exact Below.refl _ _ | with_reducible assumption | with_reducible refine Below.alloc ?_ (by first | exact Nat.le_refl _ | exact Below.size (by assumption) | exact Nat.le_trans (Below.size (by assumption)) (by simp; done) | (simp; done) | (simp; omega) | omega) _ | with_reducible refine below_drewN ?_ _ | with_reducible refine Below.drew ?_ | with_reducible refine Below.setCell ?_ (by first | exact Nat.le_refl _ | (simp; done) | (simp; omega) | omega) _))
                        have hnX := heap_alloc_new wr (Obj.cells #[.int .i64 (i : Int), .int .i64 f1, .int .i64 f2] 78)
                        go_upto_region 46 with fail
                        generalize wr.alloc (Obj.cells #[.int .i64 (i : Int), .int .i64 f1, .int .i64 f2] 78) = WX at hbX hnX ⊢
                        have x2 := blk_cell hnX 2
                        have HBX2 := below_then HB HB.size hbX
                        have HNX := hide hnX
                        have zX := HBX2.size
                        have hzX : wr.heap.size < WX.heap.size := (Array.getElem?_eq_some_iff.1 hnX).1
                        clear e0 e1 e2 hbX hnX HB
                        by_cases hd0 : f2 < 0
                        · go_wp2_with fail
                          go_roundw
                          case rel => exact ⟨k + 1, by go_num, by omega, HBX2⟩
                          case measure => simp [intOf]; omega
                        · obtain ⟨j, hj⟩ := Int.eq_ofNat_of_zero_le (show 0 ≤ f2 by omega)
                          subst hj
                          have hjl : j < D.mods.length := by have := hft.dst1; simpa using this
                          have HAD2 : Hid (∀ a : Nat, o[a]? = some (nameAt i) → ∃ b, b ≤ a ∧ o[b]? = some (nameAt j)) := hide (fun a h => had (by show (0 : Int) ≤ j; omega) a h)
                          have hilI : (i : Int) < D.mods.length := by omega
                          have hjlI : (j : Int) < D.mods.length := by omega
                          have hOI : (o.length : Int) ≤ 3600 := by omega
                          clear hft had hd0
                          obtain ⟨wq, rfl⟩ : ∃ wq : World, wq = wr := ⟨_, rfl⟩
                          go_wp2_with fail
                          clear x2
                          go_loopw [17, 18, 128] (fun va vb v wr => ∃ (m : Nat) (a b : Int), v = .int .i64 m ∧ va = .int .i64 a ∧ vb = .int .i64 b ∧ m ≤ o.length ∧ Hid (PosAt o (nameAt i) m a) ∧ Hid (PosAt o (nameAt j) m b) ∧ Below WX.heap.size WX wr) (fun _ _ v _ => o.length - (intOf v).toNat)
                          case atStart => exact ⟨0, -1, -1, rfl, rfl, rfl, by omega, hide (.inl ⟨rfl, fun j hj => by omega⟩), hide (.inl ⟨rfl, fun j hj => by omega⟩), Below.refl _ _⟩
                          case round =>
                            obtain ⟨m, a, b, rfl, rfl, rfl, hmo, HPA, HPB, HQ⟩ := hrel
                            have HQ2 := below_then HBX2 HBX2.size HQ
                            have HQ3 := below_then HB17.out HB17.out.size HQ2
                            by_cases hmt : m < o.length
                            · obtain ⟨od, hA, hcell⟩ := (HO17.out.sl.below HQ2).get hmt
                              subst hA
                              have e0 : wr.cell? (od.add m) = some (.string o[m]) := by have := hcell.2; simpa [fStr, kStr] using this
                              have HG := hide (List.getElem?_eq_getElem hmt)
                              clear hcell
                              generalize o[m] = y at e0 HG
                              obtain ⟨nd, hA, n1⟩ := HNM.out i wr HQ3 hil
                              obtain ⟨nd', hA', n2⟩ := HNM.out j wr HQ3 hjl
                              rw [hA] at hA'
                              obtain rfl := Option.some.inj hA'
                              clear hA'
                              have hwb := (HQ3.block _ hzA).trans HBX.out
                              have k1 : wr.cell? ⟨w1.heap.size, 1, none⟩ = some (.slice A2 D.mods.length c2) := blk_cell hwb 1
                              rw [hA] at k1
                              have hnx := (HQ.block _ hzX).trans HNX.out
                              have x0 := blk_cell hnx 0
                              have x2 := blk_cell hnx 2
                              clear hwb hnx hA
                              have HN1 := hide (rfl : nameAt = nameAt)
                              clear HN1
                              by_cases h1 : y = nameAt i
                              · have hb1 := beq_t h1
                                by_cases h2 : y = nameAt j
                                · have hb2 := beq_t h2
                                  have H1 := hide h1
                                  have H2 := hide h2
                                  clear h1 h2
                                  generalize hni : nameAt i = ni at n1 hb1
                                  generalize hnj : nameAt j = nj at n2 hb2
                                  have HI := hide hni
                                  have HJ := hide hnj
                                  clear hni hnj
                                  go_wp2_with fail
                                  go_roundw
                                  case rel => obtain rfl := HI.out; obtain rfl := HJ.out; exact ⟨m + 1, m, m, by go_num, rfl, rfl, by omega, hide (PosAt.hit (by rw [HG.out, H1.out])), hide (PosAt.hit (by rw [HG.out, H2.out])), HQ⟩
                                  case measure => simp [intOf]; omega
                                · have hb2 := beq_f h2
                                  have H1 := hide h1
                                  have H2 := hide h2
                                  clear h1 h2
                                  generalize hni : nameAt i = ni at n1 hb1
                                  generalize hnj : nameAt j = nj at n2 hb2
                                  have HI := hide hni
                                  have HJ := hide hnj
                                  clear hni hnj
                                  go_wp2_with fail
                                  go_roundw
                                  case rel => obtain rfl := HI.out; obtain rfl := HJ.out; exact ⟨m + 1, m, b, by go_num, rfl, rfl, by omega, hide (PosAt.hit (by rw [HG.out, H1.out])), hide (HPB.out.miss HG.out H2.out), HQ⟩
                                  case measure => simp [intOf]; omega
                              · have hb1 := beq_f h1
                                by_cases h2 : y = nameAt j
                                · have hb2 := beq_t h2
                                  have H1 := hide h1
                                  have H2 := hide h2
                                  clear h1 h2
                                  generalize hni : nameAt i = ni at n1 hb1
                                  generalize hnj : nameAt j = nj at n2 hb2
                                  have HI := hide hni
                                  have HJ := hide hnj
                                  clear hni hnj
                                  go_wp2_with fail
                                  go_roundw
                                  case rel => obtain rfl := HI.out; obtain rfl := HJ.out; exact ⟨m + 1, a, m, by go_num, rfl, rfl, by omega, hide (HPA.out.miss HG.out H1.out), hide (PosAt.hit (by rw [HG.out, H2.out])), HQ⟩
                                  case measure => simp [intOf]; omega
                                · have hb2 := beq_f h2
                                  have H1 := hide h1
                                  have H2 := hide h2
                                  clear h1 h2
                                  generalize hni : nameAt i = ni at n1 hb1
                                  generalize hnj : nameAt j = nj at n2 hb2
                                  have HI := hide hni
                                  have HJ := hide hnj
                                  clear hni hnj
                                  go_wp2_with fail
                                  go_roundw
                                  case rel => obtain rfl := HI.out; obtain rfl := HJ.out; exact ⟨m + 1, a, b, by go_num, rfl, rfl, by omega, hide (HPA.out.miss HG.out H1.out), hide (HPB.out.miss HG.out H2.out), HQ⟩
                                  case measure => simp [intOf]; omega
                            · obtain rfl : m = o.length := by omega
                              have hfin : a = -1 ∨ ∃ ja jb : Nat, a = ja ∧ b = jb ∧ jb ≤ ja := by
                                rcases HPA.out with ⟨h, _⟩ | ⟨ja, h1, h2, h3⟩
                                · exact .inl h
                                · obtain ⟨jb, g1, g2⟩ := HAD2.out ja h3
                                  rcases HPB.out with ⟨_, h⟩ | ⟨jc, h4, h5, h6⟩
                                  · exact absurd g2 (h jb (by omega))
                                  · have : jb = jc := by
                                      refine (List.getElem?_inj (by omega) HND.out).1 ?_
                                      rw [g2, h6]
                                    exact .inr ⟨ja, jc, h2, h5, by omega⟩
                              rcases hfin with rfl | ⟨ja, jb, rfl, rfl, hab⟩
                              · go_wp2_with fail
                                go_roundw
                                case rel => exact ⟨k + 1, by go_num, by omega, HQ2⟩
                                case measure => simp [intOf]; omega
                              · have g0 : (0 : Int) ≤ ja := by omega
                                have g1 : (0 : Int) ≤ jb := by omega
                                have g2 : (jb : Int) ≤ ja := by omega
                                go_wp2_with fail
                                go_roundw
                                case rel => exact ⟨k + 1, by go_num, by omega, HQ2⟩
                                case measure => simp [intOf]; omega
                      · obtain rfl : k = E.length := by omega
                        go_wp2_with fail
                        go_ret
                        exact ⟨rfl, below_then HB2.out HB2.out.size (below_then HB17.out HB17.out.size HB)⟩
end Go.Proofs.YtkhlicmlnjccdaaDoor
