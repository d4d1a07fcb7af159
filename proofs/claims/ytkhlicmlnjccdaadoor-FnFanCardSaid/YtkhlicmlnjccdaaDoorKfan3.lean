/-
  FnFan: the walk.
-/
import Derived.Test.YtkhlicmlnjccdaaDoorKd33
import Derived.Test.YtkhlicmlnjccdaaDoorKfan2
import Derived.Deep.OwnRows
namespace Go.Proofs.YtkhlicmlnjccdaaDoor
open Go.RowKit Mem
theorem info_int9 : (Tryd.prog.info? 3).map (fun i => (i.zero, i.size, i.bytes)) = some (some (.int .i64 0), 1, 8) := by kernel_rfl
theorem countP_take {α : Type} (p : α → Bool) {l : List α} {k : Nat} {x : α} (h : l[k]? = some x) : (l.take (k + 1)).countP p = (l.take k).countP p + if p x = true then 1 else 0 := by
  have hl : k < l.length := by
    rcases Nat.lt_or_ge k l.length with h1 | h1
    · exact h1
    · rw [List.getElem?_eq_none h1] at h; cases h
  have hx : l[k] = x := by rw [List.getElem?_eq_getElem hl] at h; exact Option.some.inj h
  rw [List.take_succ_eq_append_getElem hl, List.countP_append, hx, List.countP_singleton]
theorem main_list : (⟨#[109, 97, 105, 110]⟩ : ByteArray).toList = [109, 97, 105, 110] := by first | rfl | decide +kernel
theorem fan_sz {n : Nat} {thr : Nat → Bool} (hn : n ≤ 14) : WSz (Fan.fan n thr) := by
  have hk := Wd.wok_of (D := Fan.fan n thr) (by rw [Fan.ok_f hn])
  refine ⟨fun x hx => ?_, fun x hx => ?_, fun x hx y hy => ?_⟩
  · have : x = ⟨#[]⟩ ∨ x = ⟨#[108, 105, 98]⟩ := by simpa [Fan.fan] using hx
    rcases this with rfl | rfl <;> decide
  · have := Nm.clean_short (s := x.name) (by rw [hk.clean x hx])
    omega
  · obtain ⟨i, hi⟩ := List.getElem?_of_mem hy
    have := hk.ok x hx i y hi
    unfold Wd.lineOk at this
    split at this
    · simp only [Bool.and_eq_true, decide_eq_true_eq] at this
      rw [this.1]; decide
    · split at this
      · simp only [Bool.and_eq_true, decide_eq_true_eq] at this
        have := this.1.1; omega
      · split at this
        · simp only [Bool.and_eq_true, decide_eq_true_eq] at this
          have := this.1.1.1; omega
        · simp at this

set_option maxRecDepth 100000 in
set_option maxHeartbeats 4000000 in
theorem fan_calls (A : Option Addr) (cp nn : Nat) (code : List Int) (S : Nat → Prop) (w : World) (h : Sl kU8 w S A code) (hn : code.length = nn) (hs : ∀ x ∈ code, 0 ≤ x ∧ x ≤ 255) (hl : nn ≤ maxLen) (hm : ML w) :
    Calls Tryd.prog 6 #[.slice A nn cp] w fun e w' => e = .returned (.bool true) ∧ Below w.heap.size w w' := by
  unfold maxLen at hl
  by_cases hbig : 1048576 < nn
  · go_enter Tryd.func6, Tryd.ntmps6
    go_wp2_with fail
    go_ret
    exact ⟨rfl, by (repeat (first | with_reducible exact Below.refl _ _ | with_reducible assumption | with_reducible refine Below.alloc ?_ (by first | exact Nat.le_refl _ | exact Below.size (by assumption) | exact Nat.le_trans (Below.size (by assumption)) (by simp; done) | (simp; done) | (simp; omega) | omega) _ | with_reducible refine below_drewN ?_ _ | with_reducible refine Below.drew ?_ | with_reducible refine Below.setCell ?_ (by first | exact Nat.le_refl _ | (simp; done) | (simp; omega) | omega) _))⟩
  have hw0 := wByte_calls A cp nn code S 0 w h hn hs (by omega) (by omega) (by omega)
  have hw1 := wByte_calls A cp nn code S 1 w h hn hs (by omega) (by omega) (by omega)
  have hw2 := wByte_calls A cp nn code S 2 w h hn hs (by omega) (by omega) (by omega)
  have HW0 := hide hw0
  have HW1 := hide hw1
  have HW2 := hide hw2
  have HM := hide hm
  clear hw0 hw1 hw2 h hn hs hm
  go_enter Tryd.func6, Tryd.ntmps6
  go_wp2_with fail
  refine (unhide HW0).mono ?_
  rintro e w' ⟨⟨b0, hb0, rfl⟩, rfl⟩
  clear HW0
  obtain ⟨q, hq⟩ : ∃ q : Nat, ((b0 : Int) % 14) = q := ⟨b0 % 14, by omega⟩
  obtain ⟨n, hn⟩ : ∃ n : Nat, n = 1 + q := ⟨_, rfl⟩
  have hnI : (1 + (q : Int)) = (n : Int) := by omega
  have hn1 : 1 ≤ n := by omega
  have hn2 : n ≤ 14 := by omega
  clear hn
  go_upto_region 4 with fail
  clear hq hnI hb0
  go_wp2_with fail
  refine (unhide HW1).mono ?_
  rintro e w' ⟨⟨b1, hb1, rfl⟩, rfl⟩
  clear HW1
  go_wp2_with fail
  refine (unhide HW2).mono ?_
  rintro e w' ⟨⟨b2, hb2, rfl⟩, rfl⟩
  clear HW2
  obtain ⟨t, ht⟩ : ∃ t : Nat, t = b1 + 256 * b2 := ⟨_, rfl⟩
  have htI : ((b1 : Int) + 256 * (b2 : Int)) = (t : Int) := by omega
  have ht2 : t ≤ 65535 := by omega
  clear ht
  go_upto_region 5 with fail
  clear htI hb1 hb2
  have hmc := fun (W : World) => madeFan_calls n t W hn2 ht2
  go_wp2_with fail
  refine (hmc w).mono ?_
  rintro e w1 ⟨vR, vM, vF, rfl, hin1, hb1⟩
  clear hmc
  have hlc := iLoad_calls (Fan.fan n (thrF t)) _ _ _ _ w1 hin1 (fan_sz hn2) (HM.out.below hb1) Ld.mainName (by decide)
  obtain ⟨st, hld, hsl, hrl, hrg, hsay, hone, hthr, hcat, hshow⟩ := Fan.fan_counts (thr := thrF t) hn2
  rw [hld] at hlc
  have HLC := hide hlc
  have HSAY := hide hsay
  have HONE := hide hone
  have HTHR := hide hthr
  have HCAT := hide hcat
  have HSHOW := hide hshow
  have HSL := hide hsl
  have HBL := hide (Fan.bad_le (thrF t))
  clear hlc hld hsay hone hthr hcat hshow hrg hin1 hsl
  go_wp2_with fail
  refine (unhide HLC).mono ?_
  rintro e w3 ⟨vc, vs, vr, rfl, hrep, hb3⟩
  obtain ⟨xA, xc, hx, _, _, _⟩ := hrep.recs.slV
  subst hx
  obtain ⟨yA, yc, hy, _, _, _⟩ := hrep.states.slV
  subst hy
  obtain ⟨KK, zs, hzs, _⟩ := id hrep.rings
  obtain ⟨zA, zc, hz'⟩ := row_form hzs
  subst hz'
  clear hzs HLC
  have B3 := below_then hb1 hb1.size hb3
  have hrc3 := hrep.recs.sl
  clear hb1 hb3 hrep
  dsimp only
  have hbB : Below w3.heap.size w3 (w3.alloc (Obj.cells #[.int .i64 0, .slice xA st.recs.length xc, .slice yA st.states.length yc, .int .i64 st.reads, .slice zA st.rings.length zc] 41)) := by (repeat (first | with_reducible exact Below.refl _ _ | with_reducible assumption | with_reducible refine Below.alloc ?_ (by first | exact Nat.le_refl _ | exact Below.size (by assumption) | exact Nat.le_trans (Below.size (by assumption)) (by simp; done) | (simp; done) | (simp; omega) | omega) _ | with_reducible refine below_drewN ?_ _ | with_reducible refine Below.drew ?_ | with_reducible refine Below.setCell ?_ (by first | exact Nat.le_refl _ | (simp; done) | (simp; omega) | omega) _))
  have hnB := heap_alloc_new w3 (Obj.cells #[.int .i64 0, .slice xA st.recs.length xc, .slice yA st.states.length yc, .int .i64 st.reads, .slice zA st.rings.length zc] 41)
  have hzB : w3.heap.size < (w3.alloc (Obj.cells #[.int .i64 0, .slice xA st.recs.length xc, .slice yA st.states.length yc, .int .i64 st.reads, .slice zA st.rings.length zc] 41)).heap.size := by simp
  go_upto_region 6 with fail
  generalize w3.alloc (Obj.cells #[.int .i64 0, .slice xA st.recs.length xc, .slice yA st.states.length yc, .int .i64 st.reads, .slice zA st.rings.length zc] 41) = W4 at hbB hnB hzB ⊢
  have B4 := below_then B3 B3.size hbB
  have HRC := hide (hrc3.below hbB)
  have HNB := hide hnB
  have HB4 := hide B4
  have hrl2 : st.recs.length ≤ 1000 := hrl
  clear hrc3 hbB hnB B3 B4 hrl
  have hmk := fun W : World => run_make_row' (P := Tryd.prog) 44 3 (.int .i64 0) 8 Tryd.underlying44 info_int9 rfl .i64 .i64 n (by omega) (by omega) W
  have hrow := World.rowIs_made W4 (.int .i64 0) n 3
  have hb45 : Below W4.heap.size W4 (W4.alloc (Obj.cells (madeCells #[Value.int .i64 0] n) 3)) := by (repeat (first | with_reducible exact Below.refl _ _ | with_reducible assumption | with_reducible refine Below.alloc ?_ (by first | exact Nat.le_refl _ | exact Below.size (by assumption) | exact Nat.le_trans (Below.size (by assumption)) (by simp; done) | (simp; done) | (simp; omega) | omega) _ | with_reducible refine below_drewN ?_ _ | with_reducible refine Below.drew ?_ | with_reducible refine Below.setCell ?_ (by first | exact Nat.le_refl _ | (simp; done) | (simp; omega) | omega) _))
  generalize madeCells #[Value.int .i64 0] n = cs0 at hmk hrow hb45
  go_upto_region 7 with fail
  generalize W4.alloc (Obj.cells cs0 3) = W5 at hrow hb45 ⊢
  clear hmk
  have hn5 := (hb45.block _ hzB).trans HNB.out
  have r1 : W5.cell? ⟨w3.heap.size, 1, none⟩ = some (.slice xA st.recs.length xc) := blk_cell hn5 1
  have hrI : (st.recs.length : Int) ≤ 1000 := by omega
  clear hn5
  go_wp2_with fail
  clear r1
  go_loopw [38] (fun v wr => ∃ k : Nat, v = .int .i64 k ∧ k ≤ st.recs.length ∧ wr.rowIs W4.heap.size 3 n (fun i => .int .i64 ((st.recs.take k).countP (Fan.psay i) : Nat)) ∧ Below W4.heap.size W4 wr) (fun v _ => st.recs.length - (intOf v).toNat)
  case atStart => exact ⟨0, rfl, by omega, hrow.congr (fun i _ => by simp), hb45⟩
  case round =>
    clear hrow hb45
    obtain ⟨k, rfl, hk, HRW, HB⟩ := hrel
    by_cases hlt : k < st.recs.length
    · obtain ⟨ad, hA, l0, l1, l2, l3⟩ := (HRC.out.below HB).get hlt
      subst hA
      have e0 : wr.cell? (ad.add (k * 4)) = some (.int .i64 st.recs[k].kind) := l0.2
      have e1 : wr.cell? ⟨(ad.add (k * 4)).block, (ad.add (k * 4)).off + 1, none⟩ = some (.string st.recs[k].name) := by have := l1.2; rwa [add_pos _ _ (by omega)] at this
      have e2 : wr.cell? ⟨(ad.add (k * 4)).block, (ad.add (k * 4)).off + 2, none⟩ = some (.int .i64 st.recs[k].code) := by have := l2.2; rwa [add_pos _ _ (by omega)] at this
      have e3 : wr.cell? ⟨(ad.add (k * 4)).block, (ad.add (k * 4)).off + 3, none⟩ = some (.int .i64 st.recs[k].num) := by have := l3.2; rwa [add_pos _ _ (by omega)] at this
      have HG := hide (List.getElem?_eq_getElem hlt)
      have HSY := hide (HSAY.out _ (List.getElem_mem hlt))
      clear l0 l1 l2 l3
      generalize st.recs[k] = q at e0 e1 e2 e3 HG HSY
      obtain ⟨qk, qn, qc, qm⟩ := q
      replace e0 : wr.cell? (ad.add (k * 4)) = some (.int .i64 qk) := e0
      replace e1 : wr.cell? ⟨(ad.add (k * 4)).block, (ad.add (k * 4)).off + 1, none⟩ = some (.string qn) := e1
      replace e2 : wr.cell? ⟨(ad.add (k * 4)).block, (ad.add (k * 4)).off + 2, none⟩ = some (.int .i64 qc) := e2
      replace e3 : wr.cell? ⟨(ad.add (k * 4)).block, (ad.add (k * 4)).off + 3, none⟩ = some (.int .i64 qm) := e3
      have hbX : Below wr.heap.size wr (wr.alloc (Obj.cells #[.int .i64 qk, .string qn, .int .i64 qc, .int .i64 qm] 49)) := by (repeat (first | with_reducible exact Below.refl _ _ | with_reducible assumption | with_reducible refine Below.alloc ?_ (by first | exact Nat.le_refl _ | exact Below.size (by assumption) | exact Nat.le_trans (Below.size (by assumption)) (by simp; done) | (simp; done) | (simp; omega) | omega) _ | with_reducible refine below_drewN ?_ _ | with_reducible refine Below.drew ?_ | with_reducible refine Below.setCell ?_ (by first | exact Nat.le_refl _ | (simp; done) | (simp; omega) | omega) _))
      have hnX := heap_alloc_new wr (Obj.cells #[.int .i64 qk, .string qn, .int .i64 qc, .int .i64 qm] 49)
      have zr := HB.size
      have HRX := HRW.alloc (Obj.cells #[.int .i64 qk, .string qn, .int .i64 qc, .int .i64 qm] 49)
      go_upto_region 10 with fail
      generalize wr.alloc (Obj.cells #[.int .i64 qk, .string qn, .int .i64 qc, .int .i64 qm] 49) = WX at HRX hbX hnX ⊢
      have x0 : WX.cell? ⟨wr.heap.size, 0, none⟩ = some (.int .i64 qk) := blk_cell hnX 0
      have x1 : WX.cell? ⟨wr.heap.size, 1, none⟩ = some (.string qn) := blk_cell hnX 1
      have x2 : WX.cell? ⟨wr.heap.size, 2, none⟩ = some (.int .i64 qc) := blk_cell hnX 2
      have x3 : WX.cell? ⟨wr.heap.size, 3, none⟩ = some (.int .i64 qm) := blk_cell hnX 3
      have HBX := below_then HB HB.size hbX
      clear hbX hnX e0 e1 e2 e3 HB
      by_cases hk3 : qk = 3
      · subst hk3
        by_cases hqm : qn = ⟨#[109, 97, 105, 110]⟩
        · have hbq := nbeq_t hqm
          rw [main_list] at hbq
          have HNX2 : Hid (∀ i, Fan.psay i ⟨3, qn, qc, qm⟩ = false) := hide (fun i => by simp [Fan.psay, hqm, Ld.mainName])
          clear hqm
          go_wp2_with fail
          go_roundw
          case rel => exact ⟨k + 1, by go_num, by omega, HRX.congr (fun i hi => by rw [countP_take _ HG.out, HNX2.out]; simp), HBX⟩
          case measure => simp [intOf]; omega
        · have hbq := nbeq_f hqm
          rw [main_list] at hbq
          obtain ⟨i, hi, hnum⟩ := HSY.out rfl hqm
          replace hnum : qm = (i : Int) := hnum
          subst hnum
          have HNX2 : Hid (∀ j, Fan.psay j ⟨3, qn, qc, i⟩ = decide (j = i)) := hide (fun j => by
            have h1 : qn ≠ Ld.mainName := hqm
            by_cases hji : j = i
            · subst hji; simp [Fan.psay, h1]
            · simp [Fan.psay, hji]; intro _; omega)
          have s0 : WX.cell? ⟨W4.heap.size, i, none⟩ = some (.int .i64 ((st.recs.take k).countP (Fan.psay i) : Nat)) := HRX.cell hi
          have sf : WX.frozen? ⟨W4.heap.size, i, none⟩ = false := HRX.frozen i
          have hcl : (st.recs.take k).countP (Fan.psay i) ≤ 1000 := by
            have h1 := List.countP_le_length (p := Fan.psay i) (l := st.recs.take k)
            have h2 := List.length_take_le k st.recs
            omega
          have HRXh := hide HRX
          obtain ⟨cc, hcc⟩ : ∃ cc, cc = (st.recs.take k).countP (Fan.psay i) := ⟨_, rfl⟩
          rw [← hcc] at s0 hcl
          have HCC := hide hcc
          have hiI : (i : Int) < n := by omega
          have hd0 : decide ((i : Int) < 0) = false := decide_eq_false (by omega)
          have hd1 : decide ((n : Int) ≤ (i : Int)) = false := decide_eq_false (by omega)
          have hd2 : decide (n ≤ i) = false := decide_eq_false (by omega)
          clear hqm hcc HRX
          go_wp2_with fail
          go_roundw
          case rel =>
            refine ⟨k + 1, by go_num, by omega, (HRXh.out.set i (.int .i64 ((cc : Int) + 1))).congr (fun j hj => ?_), HBX.setCell (Nat.le_refl _) _⟩
            rw [countP_take _ HG.out, HNX2.out]
            by_cases hji : j = i
            · subst hji
              rw [if_pos rfl, HCC.out]; simp
            · rw [if_neg hji]; simp [hji]
          case measure => simp [intOf]; omega
      · have hkb : (qk == 3) = false := by simpa using hk3
        have HNX2 : Hid (∀ i, Fan.psay i ⟨qk, qn, qc, qm⟩ = false) := hide (fun i => by simp [Fan.psay, hk3])
        clear hk3
        go_wp2_with fail
        go_roundw
        case rel => exact ⟨k + 1, by go_num, by omega, HRX.congr (fun i hi => by rw [countP_take _ HG.out, HNX2.out]; simp), HBX⟩
        case measure => simp [intOf]; omega
    · obtain rfl : k = st.recs.length := by omega
      have HROW := hide (HRW.congr (g := fun _ => .int .i64 1) (fun i hi => by rw [List.take_length, HONE.out i hi]; rfl))
      have hn6 := (HB.block _ hzB).trans HNB.out
      have r1 : wr.cell? ⟨w3.heap.size, 1, none⟩ = some (.slice xA st.recs.length xc) := blk_cell hn6 1
      have HRC2 := hide (HRC.out.below HB)
      have HB6 := hide (below_then HB4.out HB4.out.size HB)
      have HN6 := hide hn6
      have z6 := HB.size
      clear HRW hn6 HB hlt hk
      obtain ⟨wk, rfl⟩ : ∃ wk : World, wk = wr := ⟨_, rfl⟩
      go_wp2_with fail
      clear r1
      go_loopw [9, 10, 11, 70] (fun va vb vc v wr => ∃ (k a b c : Nat), v = .int .i64 k ∧ va = .int .i64 a ∧ vb = .int .i64 b ∧ vc = .int .i64 c ∧ k ≤ st.recs.length ∧ (a ≤ k ∧ b ≤ k ∧ c ≤ k) ∧ Hid (a = (st.recs.take k).countP Fan.pcat ∧ b = (st.recs.take k).countP Fan.pthr ∧ c = (st.recs.take k).countP Fan.pshow) ∧ Below wk.heap.size wk wr) (fun _ _ _ v _ => st.recs.length - (intOf v).toNat)
      case atStart => exact ⟨0, 0, 0, 0, rfl, rfl, rfl, rfl, by omega, ⟨by omega, by omega, by omega⟩, hide ⟨by simp, by simp, by simp⟩, Below.refl _ _⟩
      case round =>
        obtain ⟨k, a, b, c, rfl, rfl, rfl, rfl, hk, ⟨hak, hbk, hck⟩, HABC, HB⟩ := hrel
        by_cases hlt : k < st.recs.length
        · obtain ⟨ad, hA, l0, l1, l2, l3⟩ := (HRC2.out.below HB).get hlt
          subst hA
          have e0 : wr.cell? (ad.add (k * 4)) = some (.int .i64 st.recs[k].kind) := l0.2
          have e1 : wr.cell? ⟨(ad.add (k * 4)).block, (ad.add (k * 4)).off + 1, none⟩ = some (.string st.recs[k].name) := by have := l1.2; rwa [add_pos _ _ (by omega)] at this
          have e2 : wr.cell? ⟨(ad.add (k * 4)).block, (ad.add (k * 4)).off + 2, none⟩ = some (.int .i64 st.recs[k].code) := by have := l2.2; rwa [add_pos _ _ (by omega)] at this
          have e3 : wr.cell? ⟨(ad.add (k * 4)).block, (ad.add (k * 4)).off + 3, none⟩ = some (.int .i64 st.recs[k].num) := by have := l3.2; rwa [add_pos _ _ (by omega)] at this
          have HG := hide (List.getElem?_eq_getElem hlt)
          have HSY := hide (HSAY.out _ (List.getElem_mem hlt))
          clear l0 l1 l2 l3
          generalize st.recs[k] = q at e0 e1 e2 e3 HG HSY
          obtain ⟨qk, qn, qc, qm⟩ := q
          replace e0 : wr.cell? (ad.add (k * 4)) = some (.int .i64 qk) := e0
          replace e1 : wr.cell? ⟨(ad.add (k * 4)).block, (ad.add (k * 4)).off + 1, none⟩ = some (.string qn) := e1
          replace e2 : wr.cell? ⟨(ad.add (k * 4)).block, (ad.add (k * 4)).off + 2, none⟩ = some (.int .i64 qc) := e2
          replace e3 : wr.cell? ⟨(ad.add (k * 4)).block, (ad.add (k * 4)).off + 3, none⟩ = some (.int .i64 qm) := e3
          have hbX : Below wr.heap.size wr (wr.alloc (Obj.cells #[.int .i64 qk, .string qn, .int .i64 qc, .int .i64 qm] 49)) := by (repeat (first | with_reducible exact Below.refl _ _ | with_reducible assumption | with_reducible refine Below.alloc ?_ (by first | exact Nat.le_refl _ | exact Below.size (by assumption) | exact Nat.le_trans (Below.size (by assumption)) (by simp; done) | (simp; done) | (simp; omega) | omega) _ | with_reducible refine below_drewN ?_ _ | with_reducible refine Below.drew ?_ | with_reducible refine Below.setCell ?_ (by first | exact Nat.le_refl _ | (simp; done) | (simp; omega) | omega) _))
          have hnX := heap_alloc_new wr (Obj.cells #[.int .i64 qk, .string qn, .int .i64 qc, .int .i64 qm] 49)
          have zr := HB.size
          go_upto_region 21 with fail
          generalize wr.alloc (Obj.cells #[.int .i64 qk, .string qn, .int .i64 qc, .int .i64 qm] 49) = WX at hbX hnX ⊢
          have x0 : WX.cell? ⟨wr.heap.size, 0, none⟩ = some (.int .i64 qk) := blk_cell hnX 0
          have x1 : WX.cell? ⟨wr.heap.size, 1, none⟩ = some (.string qn) := blk_cell hnX 1
          have x2 : WX.cell? ⟨wr.heap.size, 2, none⟩ = some (.int .i64 qc) := blk_cell hnX 2
          have x3 : WX.cell? ⟨wr.heap.size, 3, none⟩ = some (.int .i64 qm) := blk_cell hnX 3
          have HBX := below_then HB HB.size hbX
          clear hbX hnX e0 e1 e2 e3 HB
          have step : ∀ (x : RecD), st.recs[k]? = some x → ∀ (a' b' c' : Nat), a' = a + (if Fan.pcat x = true then 1 else 0) → b' = b + (if Fan.pthr x = true then 1 else 0) → c' = c + (if Fan.pshow x = true then 1 else 0) → a' = (st.recs.take (k + 1)).countP Fan.pcat ∧ b' = (st.recs.take (k + 1)).countP Fan.pthr ∧ c' = (st.recs.take (k + 1)).countP Fan.pshow := fun x hx a' b' c' h1 h2 h3 => by
            rw [countP_take _ hx, countP_take _ hx, countP_take _ hx, ← HABC.out.1, ← HABC.out.2.1, ← HABC.out.2.2]
            exact ⟨h1, h2, h3⟩
          have HSTEP := hide (step _ HG.out)
          clear step
          by_cases hk6 : qk = 6
          · subst hk6
            by_cases hc6 : qc = 6
            · subst hc6
              go_wp2_with fail
              go_roundw
              case rel => exact ⟨k + 1, a, b + 1, c, by go_num, rfl, by go_num, rfl, by omega, ⟨by omega, by omega, by omega⟩, hide (HSTEP.out _ _ _ (by simp [Fan.pcat]) (by simp [Fan.pthr]) (by simp [Fan.pshow])), HBX⟩
              case measure => simp [intOf]; omega
            · have hcb6 : (qc == 6) = false := by simpa using hc6
              by_cases hc5 : qc = 5
              · subst hc5
                clear hc6
                go_wp2_with fail
                go_roundw
                case rel => exact ⟨k + 1, a + 1, b, c, by go_num, by go_num, rfl, rfl, by omega, ⟨by omega, by omega, by omega⟩, hide (HSTEP.out _ _ _ (by simp [Fan.pcat]) (by simp [Fan.pthr]) (by simp [Fan.pshow])), HBX⟩
                case measure => simp [intOf]; omega
              · have hcb5 : (qc == 5) = false := by simpa using hc5
                have HNN := hide (HSTEP.out a b c (by simp [Fan.pcat, hc5]) (by simp [Fan.pthr, hc6]) (by simp [Fan.pshow]))
                clear hc5 hc6
                go_wp2_with fail
                go_roundw
                case rel => exact ⟨k + 1, a, b, c, by go_num, rfl, rfl, rfl, by omega, ⟨by omega, by omega, by omega⟩, HNN, HBX⟩
                case measure => simp [intOf]; omega
          · have hkb6 : (qk == 6) = false := by simpa using hk6
            by_cases hk3 : qk = 3
            · subst hk3
              clear hk6
              by_cases hqm : qn = ⟨#[109, 97, 105, 110]⟩
              · have hbq := beq_t hqm
                rw [main_list] at hbq
                have HNN := hide (HSTEP.out a b (c + 1) (by simp [Fan.pcat]) (by simp [Fan.pthr]) (by simp [Fan.pshow, hqm, Ld.mainName]))
                clear hqm
                go_wp2_with fail
                go_roundw
                case rel => exact ⟨k + 1, a, b, c + 1, by go_num, rfl, rfl, by go_num, by omega, ⟨by omega, by omega, by omega⟩, HNN, HBX⟩
                case measure => simp [intOf]; omega
              · have hbq := beq_f hqm
                rw [main_list] at hbq
                have HNN := hide (HSTEP.out a b c (by simp [Fan.pcat]) (by simp [Fan.pthr]) (by have h1 : qn ≠ Ld.mainName := hqm; simp [Fan.pshow, h1]))
                clear hqm
                go_wp2_with fail
                go_roundw
                case rel => exact ⟨k + 1, a, b, c, by go_num, rfl, rfl, rfl, by omega, ⟨by omega, by omega, by omega⟩, HNN, HBX⟩
                case measure => simp [intOf]; omega
            · have hkb3 : (qk == 3) = false := by simpa using hk3
              have HNN := hide (HSTEP.out a b c (by simp [Fan.pcat, hk6]) (by simp [Fan.pthr, hk6]) (by simp [Fan.pshow, hk3]))
              clear hk6 hk3
              go_wp2_with fail
              go_roundw
              case rel => exact ⟨k + 1, a, b, c, by go_num, rfl, rfl, rfl, by omega, ⟨by omega, by omega, by omega⟩, HNN, HBX⟩
              case measure => simp [intOf]; omega
        · obtain rfl : k = st.recs.length := by omega
          have habc := HABC.out
          rw [List.take_length, HCAT.out, HTHR.out] at habc
          have hcs : c + Fan.bad (thrF t) n = n := by rw [habc.2.2]; exact HSHOW.out
          have hbn := HBL.out n
          have HA := hide habc.1
          have HBB := hide habc.2.1
          have HCS := hide hcs
          have HRX := hide (HROW.out.of_block (HB.block _ HROW.out.lt))
          have HN7 := hide ((HB.block w3.heap.size (by omega)).trans HN6.out)
          have HB7 := hide (below_then HB6.out HB6.out.size HB)
          clear habc hcs HABC HB hlt hk HROW
          obtain ⟨wm, rfl⟩ : ∃ wm : World, wm = wr := ⟨_, rfl⟩
          go_wp2_with fail
          go_loopw [14, 15] (fun vb v wr => ∃ (k bb : Nat), v = .int .i64 k ∧ vb = .int .i64 bb ∧ k ≤ n ∧ bb ≤ k ∧ Hid (bb = Fan.bad (thrF t) k) ∧ Below wm.heap.size wm wr) (fun _ v _ => n - (intOf v).toNat)
          case atStart => exact ⟨0, 0, rfl, rfl, by omega, by omega, hide rfl, Below.refl _ _⟩
          case round =>
            obtain ⟨k, bb, rfl, rfl, hk, hbb, HBD, HB⟩ := hrel
            by_cases hlt : k < n
            · have s0 : wr.cell? ⟨W4.heap.size, k, none⟩ = some (.int .i64 1) := (HRX.out.of_block (HB.block _ HRX.out.lt)).cell hlt
              have hdv : ((t : Int) / 2 ^ k) = ((t / 2 ^ k : Nat) : Int) := by rw [Int.natCast_ediv]; simp
              have hbt : bits BinOp.and IntKind.i64 ((t : Int) / 2 ^ k) 1 = ((t / 2 ^ k % 2 : Nat) : Int) := by
                rw [hdv]
                refine and_one _ ?_
                have := Nat.div_le_self t (2 ^ k)
                omega
              clear hdv
              by_cases hthr : t / 2 ^ k % 2 = 1
              · have HT : Hid (bb + 1 = Fan.bad (thrF t) (k + 1)) := hide (by unfold Fan.bad thrF; simp [hthr, HBD.out]; rfl)
                rw [hthr] at hbt
                clear hthr
                go_wp2_with fail
                go_roundw
                case rel => exact ⟨k + 1, bb + 1, by go_num, by go_num, by omega, by omega, HT, HB⟩
                case measure => simp [intOf]; omega
              · have HT : Hid (bb = Fan.bad (thrF t) (k + 1)) := hide (by unfold Fan.bad thrF; simp [hthr, HBD.out]; rfl)
                have hthr0 : t / 2 ^ k % 2 = 0 := by omega
                rw [hthr0] at hbt
                clear hthr hthr0
                go_wp2_with fail
                go_roundw
                case rel => exact ⟨k + 1, bb, by go_num, rfl, by omega, by omega, HT, HB⟩
                case measure => simp [intOf]; omega
            · obtain rfl : k = n := by omega
              obtain rfl : bb = a := by rw [HBD.out, HA.out]
              obtain rfl : bb = b := by rw [HBD.out, HBB.out]
              have hsub : ((k : Int) - (bb : Int)) = (c : Int) := by have := HCS.out; rw [← HBD.out] at this; omega
              have hn8 := (HB.block w3.heap.size (by have := (Array.getElem?_eq_some_iff.1 HN7.out).1; omega)).trans HN7.out
              have r0 : wr.cell? ⟨w3.heap.size, 0, none⟩ = some (.int .i64 0) := blk_cell hn8 0
              have r2 : wr.cell? ⟨w3.heap.size, 2, none⟩ = some (.slice yA (k + 1) yc) := by have := blk_cell hn8 2; rw [HSL.out] at this; exact this
              have HFIN := hide (below_then HB7.out HB7.out.size HB)
              clear hn8
              go_wp2_with fail
              go_ret
              exact ⟨rfl, HFIN.out⟩
end Go.Proofs.YtkhlicmlnjccdaaDoor
