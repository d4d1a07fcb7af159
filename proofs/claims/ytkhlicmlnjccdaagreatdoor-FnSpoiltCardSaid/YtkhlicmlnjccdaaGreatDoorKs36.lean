/-
  Walk: the reference's DrawWorldOk.
-/
import Derived.Test.YtkhlicmlnjccdaaGreatDoorKs34
import Derived.Test.YtkhlicmlnjccdaaGreatDoorKs33
import Derived.Test.YtkhlicmlnjccdaaGreatDoorKs35
namespace Go.Proofs.YtkhlicmlnjccdaaGreatDoor
open Go.RowKit Mem
theorem ow_base {w : World} {B B' N : Nat} {vR vM vF : Value} {roots : List Str} {hs : List HdrD} {ms : List ModD} {fs : List Int} (h : OW w B N vR vM vF roots hs ms fs) (hb : B' ≤ B) : OW w B' N vR vM vF roots hs ms fs :=
  ⟨h.R.more hb, ⟨h.M.row.more hb, h.M.len, fun i x m e1 e2 => by
    have a := h.M.each i x m e1 e2
    exact ⟨a.name, a.n, a.nc, a.cm, a.own.more hb⟩⟩, h.ap, h.F.more hb, h.rz, h.mz, h.fz⟩
/-- what a drawn world is, mostly spoilt -/
def RetDrawW (w : World) (e : Ending) (w' : World) : Prop :=
  ∃ (vR vM vF : Value) (D : WorldD), e = .returned (.agg #[vR, vM, vF]) ∧ WIn w' (fun b => w.heap.size ≤ b) vR vM vF D ∧ WSz D ∧ Below w.heap.size w w'

set_option maxRecDepth 100000 in
set_option maxHeartbeats 4000000 in
theorem drawWorldOk_calls (A : Option Addr) (cp n : Nat) (code : List Int) (S : Nat → Prop) (w : World) (h : Sl kU8 w S A code) (hn : code.length = n) (hs : ∀ x ∈ code, 0 ≤ x ∧ x ≤ 255) (hl : n ≤ 1048576) :
    Calls Tryz.prog 20 #[.slice A n cp] w (RetDrawW w) := by
  have hcb : CodeBelow A code w.heap.size := fun hcn ad hA => by
    obtain ⟨ad', hA', hx⟩ := h hcn
    rw [hA] at hA'
    cases hA'
    have : Has w S (ad.add (0 * kU8.size)) (.int .u8 _) := hx 0 _ (List.getElem?_eq_getElem (List.length_pos_iff.2 hcn))
    have := this.lt
    rwa [block_add] at this
  have hb0 : Below w.heap.size w (w.alloc (Obj.cells #[.slice none 0 0, .slice none 0 0, .slice none 0 0] 27)) := by (repeat (first | with_reducible exact Below.refl _ _ | with_reducible assumption | with_reducible refine Below.alloc ?_ (by first | exact Nat.le_refl _ | exact Below.size (by assumption) | exact Nat.le_trans (Below.size (by assumption)) (by simp; done) | (simp; done) | (simp; omega) | omega) _ | with_reducible refine below_drewN ?_ _ | with_reducible refine Below.drew ?_ | with_reducible refine Below.setCell ?_ (by first | exact Nat.le_refl _ | (simp; done) | (simp; omega) | omega) _))
  have hb1 : Below w.heap.size w ((w.alloc (Obj.cells #[.slice none 0 0, .slice none 0 0, .slice none 0 0] 27)).alloc (Obj.cells #[.slice A n cp, .int .i64 0, .int .u64 0] 60)) := by (repeat (first | with_reducible exact Below.refl _ _ | with_reducible assumption | with_reducible refine Below.alloc ?_ (by first | exact Nat.le_refl _ | exact Below.size (by assumption) | exact Nat.le_trans (Below.size (by assumption)) (by simp; done) | (simp; done) | (simp; omega) | omega) _ | with_reducible refine below_drewN ?_ _ | with_reducible refine Below.drew ?_ | with_reducible refine Below.setCell ?_ (by first | exact Nat.le_refl _ | (simp; done) | (simp; omega) | omega) _))
  have hc := CurIn.new (cp := cp) (h.below hb0) hn hs hl
  rw [show (w.alloc (Obj.cells #[.slice none 0 0, .slice none 0 0, .slice none 0 0] 27)).heap.size = w.heap.size + 1 by simp] at hc
  obtain ⟨hres, _, _⟩ := alloc_two w (Obj.cells #[.slice none 0 0, .slice none 0 0, .slice none 0 0] 27) (Obj.cells #[.slice A n cp, .int .i64 0, .int .u64 0] 60)
  clear h hb0
  go_enter Tryz.func20, Tryz.ntmps20
  go_upto_region 2 with fail
  generalize (w.alloc (Obj.cells #[.slice none 0 0, .slice none 0 0, .slice none 0 0] 27)).alloc (Obj.cells #[.slice A n cp, .int .i64 0, .int .u64 0] 60) = W1 at hb1 hc hres ⊢
  obtain ⟨g, hg⟩ : ∃ g, g = w.heap.size + 1 := ⟨_, rfl⟩
  rw [← hg] at hc ⊢
  have hgw : w.heap.size < g := by omega
  have hgw1 : g ≤ w.heap.size + 1 := by omega
  have hcg : CodeBelow A code g := fun hcn ad hA => Nat.lt_trans (hcb hcn ad hA) hgw
  clear hg
  go_wp2_with fail
  refine (pick_in 8 hc (by omega) (by omega) (by omega)).mono ?_
  rintro e w1 ⟨r1, rfl, hr1, hc1, hg1⟩
  have hB1 := hb1.grown hg1 hb1.size (fun b hb => by have := Option.some.inj hb; omega)
  have hres1 := (hg1.block _ (Array.getElem?_eq_some_iff.1 hres).1 (fun e => by have := Option.some.inj e; omega)).trans hres
  have hlr1 := (Array.getElem?_eq_some_iff.1 hres1).1
  clear hc hg1 hb1 hres
  by_cases hr0 : r1 = 0
  · subst hr0
    go_wp2_with fail
    refine (large_in w1 g g n cp (0 + 2) A code hc1 (by omega) (Nat.le_refl _) hcg).mono ?_
    rintro e w2 ⟨vR, vM, vF, D, rfl, hin, hsz, hb2⟩
    have hres2 := (hb2.block _ hgw).trans hres1
    have hin0 := hin
    obtain ⟨⟨eA, ec, hev, _, _, _⟩, ⟨kA, kc, hkv, _, _, _⟩, ⟨jA, jc, hjv, _, _, _⟩⟩ := hin0
    subst hev hkv hjv
    have y0 := blk_cell hres2 0
    have y1 := blk_cell hres2 1
    have y2 := blk_cell hres2 2
    have z0 := blk_free hres2 0
    have z1 := blk_free hres2 1
    have z2 := blk_free hres2 2
    have hin3 : ∀ u0 u1 u2 : Value, WIn (((w2.setCell ⟨w.heap.size, 0, none⟩ u0).setCell ⟨w.heap.size, 1, none⟩ u1).setCell ⟨w.heap.size, 2, none⟩ u2) (fun b => w.heap.size ≤ b) (.slice eA D.roots.length ec) (.slice kA D.mods.length kc) (.slice jA D.faults.length jc) D := fun u0 u1 u2 => (hin.same (fun b hb => by
      simp only [World.setCell]
      repeat rw [Array.getElem?_modify, if_neg (by omega)])).more (fun b hb => by omega)
    have hout : ∀ u0 u1 u2 : Value, Below w.heap.size w (((w2.setCell ⟨w.heap.size, 0, none⟩ u0).setCell ⟨w.heap.size, 1, none⟩ u1).setCell ⟨w.heap.size, 2, none⟩ u2) := fun u0 u1 u2 => (((hB1.trans (hb2.mono (Nat.le_of_lt hgw))).setCell (Nat.le_refl _) _).setCell (Nat.le_refl _) _).setCell (Nat.le_refl _) _
    have HIN := hide hin3
    have HOUT := hide hout
    clear hin hin3 hout hb2 hB1 hres1
    go_wp2_with fail
    refine bodyPost_ret (v := .agg #[.slice eA D.roots.length ec, .slice kA D.mods.length kc, .slice jA D.faults.length jc]) (by simp [results, Tryz.results20, go_sem, y0, y1, y2]) rfl ⟨_, _, _, D, rfl, HIN.out _ _ _, hsz, HOUT.out _ _ _⟩
  · have hr0b : ((r1 : Int) == 0) = false := beq_eq_false_iff_ne.2 (by omega)
    have hcw1 : CodeBelow A code w1.heap.size := fun hcn ad hA => Nat.lt_trans (hcg hcn ad hA) hc1.lt
    have hgl1 := hc1.lt
    go_wp2_with fail
    refine (world_own w1 g n cp (0 + 2) (by omega) A code hc1 hcw1).mono ?_
    rintro e w2 ⟨vR, vM, vF, roots, hs', ms, fs, rfl, ho2, _, _, hc2, hg2⟩
    have hB2 := hB1.grown hg2 hB1.size (fun b hb => by have := Option.some.inj hb; omega)
    have hres2 := (hg2.block _ hlr1 (fun e => by have := Option.some.inj e; omega)).trans hres1
    have hz2 := hg2.size
    have ho3 := ow_base ho2 (Nat.le_of_lt hgl1)
    obtain ⟨eA, ec, hev, _, _, _⟩ := ho3.R.slV
    obtain ⟨kA, kc, hkv, _, _, _⟩ := ho3.M.slV
    obtain ⟨jA, jc, hjv, _, _, _⟩ := ho3.F.slV
    subst hev hkv hjv
    clear hc1 hg2 ho2 hB1 hres1 hcw1
    dsimp only
    have hb3 : Below w2.heap.size w2 (w2.alloc (Obj.cells #[.slice eA roots.length ec, .slice kA ms.length kc, .slice jA fs.length jc] 27)) := by (repeat (first | with_reducible exact Below.refl _ _ | with_reducible assumption | with_reducible refine Below.alloc ?_ (by first | exact Nat.le_refl _ | exact Below.size (by assumption) | exact Nat.le_trans (Below.size (by assumption)) (by simp; done) | (simp; done) | (simp; omega) | omega) _ | with_reducible refine below_drewN ?_ _ | with_reducible refine Below.drew ?_ | with_reducible refine Below.setCell ?_ (by first | exact Nat.le_refl _ | (simp; done) | (simp; omega) | omega) _))
    have hbox3 := heap_alloc_new w2 (Obj.cells #[.slice eA roots.length ec, .slice kA ms.length kc, .slice jA fs.length jc] 27)
    go_upto_region 5 with fail
    generalize w2.alloc (Obj.cells #[.slice eA roots.length ec, .slice kA ms.length kc, .slice jA fs.length jc] 27) = W3 at hb3 hbox3 ⊢
    have ho4 := ho3.below hb3
    have hc4 := hc2.below hb3
    have hB4 := below_then hB2 hB2.size hb3
    have hres4 := (hb3.block _ (by omega)).trans hres2
    obtain ⟨b4, hb4⟩ : ∃ b, b = w2.heap.size := ⟨_, rfl⟩
    rw [← hb4] at hbox3 ⊢
    have hgb4 : g < b4 := by have := hc2.lt; omega
    clear hb3 ho3 hc2 hB2 hres2 hb4 hlr1 hz2 hgl1
    go_wp2_with fail
    refine (pick_in 3 hc4 (by omega) (by omega) (by omega)).mono ?_
    rintro e w5 ⟨r2, rfl, hr2, hc5, hg5⟩
    have ho5 := ho4.cur hc4 hg5
    have hB5 := hB4.grown hg5 hB4.size (fun b hb => by have := Option.some.inj hb; omega)
    have hres5 := (hg5.block _ (Array.getElem?_eq_some_iff.1 hres4).1 (fun e => by have := Option.some.inj e; omega)).trans hres4
    have hbox5 := (hg5.block _ (Array.getElem?_eq_some_iff.1 hbox3).1 (fun e => by have := Option.some.inj e; omega)).trans hbox3
    clear hc4 hg5 ho4 hB4 hres4 hbox3
    go_wp2_with fail
    go_loopw [5] (fun v wr => ∃ (m : Nat) (vR vM vF : Value) (roots : List Str) (hs : List HdrD) (ms : List ModD) (fs : List Int), v = .int .i64 m ∧ m ≤ 2 ∧ OW wr g (50 - 3 * m) vR vM vF roots hs ms fs ∧ CurIn wr g A n cp code (20000 - 1010 * m) ∧ wr.heap[b4]? = some (Obj.cells #[vR, vM, vF] 27 (0, 0)) ∧ wr.heap[w.heap.size]? = some (Obj.cells #[.slice none 0 0, .slice none 0 0, .slice none 0 0] 27 (0, 0)) ∧ Below w.heap.size w wr) (fun v _ => (intOf v).toNat)
    case atStart => exact ⟨r2, _, _, _, roots, hs', ms, fs, rfl, by omega, ho5.more (by omega), hc5.more (by omega), hbox5, hres5, hB5⟩
    case round =>
      clear ho5 hc5 hbox5 hres5 hB5
      obtain ⟨m, vR, vM, vF, roots, hs2, ms, fs, rfl, hm2, HO, HC, HBX, HRS, HB⟩ := hrel
      obtain ⟨eA, ec, hev, _, _, _⟩ := HO.R.slV
      obtain ⟨kA, kc, hkv, _, _, _⟩ := HO.M.slV
      obtain ⟨jA, jc, hjv, _, _, _⟩ := HO.F.slV
      subst hev hkv hjv
      have x0 := blk_cell HBX 0
      have x1 := blk_cell HBX 1
      have x2 := blk_cell HBX 2
      by_cases h0 : m = 0
      · subst h0
        have y0 := blk_cell HRS 0
        have y1 := blk_cell HRS 1
        have y2 := blk_cell HRS 2
        have z0 := blk_free HRS 0
        have z1 := blk_free HRS 1
        have z2 := blk_free HRS 2
        have hin3 : ∀ u0 u1 u2 : Value, WIn (((wr.setCell ⟨w.heap.size, 0, none⟩ u0).setCell ⟨w.heap.size, 1, none⟩ u1).setCell ⟨w.heap.size, 2, none⟩ u2) (fun b => w.heap.size ≤ b) (.slice eA roots.length ec) (.slice kA ms.length kc) (.slice jA fs.length jc) ⟨roots, ms, fs⟩ := fun u0 u1 u2 => (HO.wIn.same (fun b hb => by
          simp only [World.setCell]
          repeat rw [Array.getElem?_modify, if_neg (by omega)])).more (fun b hb => by omega)
        have hout : ∀ u0 u1 u2 : Value, Below w.heap.size w (((wr.setCell ⟨w.heap.size, 0, none⟩ u0).setCell ⟨w.heap.size, 1, none⟩ u1).setCell ⟨w.heap.size, 2, none⟩ u2) := fun u0 u1 u2 => ((HB.setCell (Nat.le_refl _) _).setCell (Nat.le_refl _) _).setCell (Nat.le_refl _) _
        have HIN := hide hin3
        have HOUT := hide hout
        have HSZ := hide HO.wSz
        clear hin3 hout HO HC HB HBX HRS
        go_wp2_with fail
        refine bodyPost_ret (v := .agg #[.slice eA roots.length ec, .slice kA ms.length kc, .slice jA fs.length jc]) (by simp [results, Tryz.results20, go_sem, y0, y1, y2]) rfl ⟨_, _, _, ⟨roots, ms, fs⟩, rfl, HIN.out _ _ _, HSZ.out, HOUT.out _ _ _⟩
      · obtain ⟨m', rfl⟩ : ∃ m', m = m' + 1 := ⟨m - 1, by omega⟩
        clear h0
        go_wp2_with fail
        refine (spoil_in wr g g n cp (20000 - 1010 * (m' + 1)) (50 - 3 * (m' + 1)) A code _ _ _ roots hs2 ms fs HC (by omega) (by omega) (Nat.le_refl _) hcg HO).mono ?_
        rintro e w6 ⟨vR6, vM6, vF6, roots6, hs6, ms6, fs6, rfl, ho6, hc6, hb6, hk6⟩
        have hbx6 := hk6 b4 _ (Array.getElem?_eq_some_iff.1 HBX).1 HBX
        have hrs6 := hk6 w.heap.size _ (Array.getElem?_eq_some_iff.1 HRS).1 HRS
        have hB6 := HB.trans (hb6.mono (Nat.le_of_lt hgw))
        clear HO HC HBX HRS HB hb6 hk6 x0 x1 x2
        obtain ⟨pA, pc, hpv, _, _, _⟩ := ho6.R.slV
        obtain ⟨qA, qc, hqv, _, _, _⟩ := ho6.M.slV
        obtain ⟨sA, sc, hsv, _, _, _⟩ := ho6.F.slV
        subst hpv hqv hsv
        have x0 := blk_cell hbx6 0
        have x1 := blk_cell hbx6 1
        have x2 := blk_cell hbx6 2
        have f0 := blk_free hbx6 0
        have f1 := blk_free hbx6 1
        have f2 := blk_free hbx6 2
        have k0 := blk_set hbx6 0 (.slice pA roots6.length pc)
        have k1 := blk_set k0 1 (.slice qA ms6.length qc)
        have k2 := blk_set k1 2 (.slice sA fs6.length sc)
        have o9 := ((ho6.box hbx6 (by decide) (by decide) (by decide) (by decide) 0 (.slice pA roots6.length pc)).box k0 (by decide) (by decide) (by decide) (by decide) 1 (.slice qA ms6.length qc)).box k1 (by decide) (by decide) (by decide) (by decide) 2 (.slice sA fs6.length sc)
        have c9 := curIn_set (curIn_set (curIn_set hc6 (b := b4) (by omega) hcg (Nat.le_of_lt hgb4) 0 (.slice pA roots6.length pc)) (b := b4) (by omega) hcg (Nat.le_of_lt hgb4) 1 (.slice qA ms6.length qc)) (b := b4) (by omega) hcg (Nat.le_of_lt hgb4) 2 (.slice sA fs6.length sc)
        have b9 : Below w.heap.size w (((w6.setCell ⟨b4, 0, none⟩ (.slice pA roots6.length pc)).setCell ⟨b4, 1, none⟩ (.slice qA ms6.length qc)).setCell ⟨b4, 2, none⟩ (.slice sA fs6.length sc)) := ((hB6.setCell (by show w.heap.size ≤ b4; omega) _).setCell (by show w.heap.size ≤ b4; omega) _).setCell (by show w.heap.size ≤ b4; omega) _
        have r9 : (((w6.setCell ⟨b4, 0, none⟩ (.slice pA roots6.length pc)).setCell ⟨b4, 1, none⟩ (.slice qA ms6.length qc)).setCell ⟨b4, 2, none⟩ (.slice sA fs6.length sc)).heap[w.heap.size]? = some (Obj.cells #[.slice none 0 0, .slice none 0 0, .slice none 0 0] 27 (0, 0)) := by
          rw [← hrs6]
          simp only [World.setCell]
          repeat rw [Array.getElem?_modify, if_neg (by omega)]
        have x9 : (((w6.setCell ⟨b4, 0, none⟩ (.slice pA roots6.length pc)).setCell ⟨b4, 1, none⟩ (.slice qA ms6.length qc)).setCell ⟨b4, 2, none⟩ (.slice sA fs6.length sc)).heap[b4]? = some (Obj.cells #[.slice pA roots6.length pc, .slice qA ms6.length qc, .slice sA fs6.length sc] 27 (0, 0)) := k2
        have O9 := hide o9
        have C9 := hide c9
        have B9 := hide b9
        have R9 := hide r9
        have X9 := hide x9
        clear o9 c9 b9 r9 x9 k0 k1 k2 ho6 hc6 hB6 hbx6 hrs6
        go_wp2_with fail
        go_roundw
        case rel => exact ⟨m', _, _, _, roots6, hs6, ms6, fs6, by go_num, by omega, O9.out.more (by omega), C9.out.more (by omega), X9.out, R9.out, B9.out⟩
        case measure => first | (simp [intOf]; done) | (simp [intOf]; omega)
end Go.Proofs.YtkhlicmlnjccdaaGreatDoor
