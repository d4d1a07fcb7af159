/-
  FnDeep: the walk.
-/
import Derived.Test.YtkhlicmlnjccdaaDoorKd28
import Derived.Test.YtkhlicmlnjccdaaDoorKd32
import Derived.Laws.StructEq
namespace Go.Proofs.YtkhlicmlnjccdaaDoor
open Go.RowKit Mem

theorem state_guard : Tryd.prog.eqGuardType Tryd.prog.depth 53 = false := by kernel_rfl
theorem state_stood : Tryd.prog.stoodInHeld 53 = false := by kernel_rfl
theorem state_under : Tryd.prog.underlying 53 = some (.struct (Tryd.prog.fieldsOf 53)) := by kernel_rfl
theorem state_same (s : Str) (a b c : Int) (w : World) : (binOp .neq 53 (.agg #[.string s, .int .i64 a, .int .i64 b, .int .i64 c]) (.agg #[.string s, .int .i64 a, .int .i64 b, .int .i64 c])).run Tryd.prog w = .ok (.bool false) w := by
  rw [run_neq_struct, run_equalIn_agg _ _ _ _ _ state_under state_stood]
  simp only [Program.fieldsOf, Tryd.underlying53]
  simp [Op.eqFields, part, go_sem, Tryd.underlying3, Tryd.underlying9, Tryd.underlying2]

set_option maxRecDepth 100000 in
set_option maxHeartbeats 400000 in
theorem wByte_calls (A : Option Addr) (cp n : Nat) (code : List Int) (S : Nat → Prop) (i : Int) (w : World) (h : Sl kU8 w S A code) (hn : code.length = n) (hs : ∀ x ∈ code, 0 ≤ x ∧ x ≤ 255) (hl : n ≤ 1048576) (hi : 0 ≤ i) (hi2 : i ≤ 100) :
    Calls Tryd.prog 29 #[.slice A n cp, .int .i64 i] w fun e w' => (∃ b : Nat, b ≤ 255 ∧ e = .returned (.int .i64 b)) ∧ w = w' := by
  subst hn
  by_cases h0 : code.length = 0
  · have e0 : ((code.length : Int) == 0) = true := by simpa using h0
    clear h0
    go_enter Tryd.func29, Tryd.ntmps29
    go_wp2_with fail
    go_ret
    exact ⟨⟨0, by omega, rfl⟩, rfl⟩
  · have e0 : ((code.length : Int) == 0) = false := by simpa using h0
    have hpos : (0 : Int) < code.length := by omega
    obtain ⟨j, hj⟩ : ∃ j : Nat, i % (code.length : Int) = j := ⟨(i % (code.length : Int)).toNat, by have := Int.emod_nonneg i (show (code.length : Int) ≠ 0 by omega); omega⟩
    have hjl : j < code.length := by have := Int.emod_lt_of_pos i hpos; omega
    have hjI : (j : Int) < code.length := by omega
    obtain ⟨ad, hA, hc⟩ := h.get hjl
    subst hA
    have e1 : w.cell? (ad.add j) = some (.int .u8 code[j]) := by
      have h2 : w.cell? (ad.add (j * 1)) = some (.int .u8 code[j]) := hc.2
      rwa [Nat.mul_one] at h2
    have hx := hs _ (List.getElem_mem hjl)
    clear hc h0
    generalize code[j] = x at e1 hx
    obtain ⟨hx0, hx1⟩ := hx
    go_enter Tryd.func29, Tryd.ntmps29
    go_wp2_with fail
    go_ret
    exact ⟨⟨x.toNat, by omega, ret_int (by omega)⟩, rfl⟩
theorem chain_sz {n : Nat} {back : Int} (hn : n ≤ 60) (hb : back < n) : WSz (Ch.chain n back) := by
  refine ⟨fun x hx => ?_, fun x hx => ?_, fun x hx y hy => ?_⟩
  · obtain rfl : x = ⟨#[]⟩ := by simpa [Ch.chain] using hx
    show 0 ≤ _; omega
  · obtain ⟨i, hi⟩ := List.getElem?_of_mem hx
    obtain ⟨h1, rfl⟩ := Ch.mods_lt hi
    have := mtx_size (k := i) (by omega)
    show (mtx i).size ≤ _; omega
  · obtain ⟨i, hi⟩ := List.getElem?_of_mem hx
    obtain ⟨h1, rfl⟩ := Ch.mods_lt hi
    have hnl := Ch.nxt_lt (back := back) h1 hb
    have hy' : y ∈ Ch.linesC n back i := hy
    unfold Ch.linesC at hy'
    split at hy'
    · have hm := mtx_size (k := (Ch.nxt n back i).toNat) (by omega)
      simp only [List.mem_cons, List.not_mem_nil, or_false] at hy'
      rcases hy' with rfl | rfl | rfl
      · show 0 ≤ _; omega
      · show (mtx _).size ≤ _; omega
      · show 0 ≤ _; omega
    · simp only [List.mem_cons, List.not_mem_nil, or_false] at hy'
      rcases hy' with rfl | rfl
      · show 0 ≤ _; omega
      · show 0 ≤ _; omega
theorem mtx_zero : mtx 0 = ⟨#[109, 48]⟩ := rfl

set_option maxRecDepth 100000 in
set_option maxHeartbeats 400000 in
theorem deep_calls (A : Option Addr) (cp n : Nat) (code : List Int) (S : Nat → Prop) (w : World) (h : Sl kU8 w S A code) (hn : code.length = n) (hs : ∀ x ∈ code, 0 ≤ x ∧ x ≤ 255) (hl : n ≤ maxLen) (hm : ML w) :
    Calls Tryd.prog 7 #[.slice A n cp] w fun e w' => e = .returned (.bool true) ∧ Below w.heap.size w w' := by
  unfold maxLen at hl
  by_cases hbig : 1048576 < n
  · go_enter Tryd.func7, Tryd.ntmps7
    go_wp2_with fail
    go_ret
    exact ⟨rfl, by (repeat (first | with_reducible exact Below.refl _ _ | with_reducible assumption | with_reducible refine Below.alloc ?_ (by first | exact Nat.le_refl _ | exact Below.size (by assumption) | exact Nat.le_trans (Below.size (by assumption)) (by simp; done) | (simp; done) | (simp; omega) | omega) _ | with_reducible refine below_drewN ?_ _ | with_reducible refine Below.drew ?_ | with_reducible refine Below.setCell ?_ (by first | exact Nat.le_refl _ | (simp; done) | (simp; omega) | omega) _))⟩
  have hwb := wByte_calls A cp n code S 0 w h hn hs (by omega) (by omega) (by omega)
  have HWB := hide hwb
  have HM := hide hm
  clear hwb h hn hs hm
  go_enter Tryd.func7, Tryd.ntmps7
  go_wp2_with fail
  refine (unhide HWB).mono ?_
  rintro e w' ⟨⟨b, hb, rfl⟩, rfl⟩
  clear HWB
  obtain ⟨q, hq⟩ : ∃ q : Nat, ((b : Int) % 10) = q := ⟨b % 10, by omega⟩
  have hq9 : q ≤ 9 := by omega
  obtain ⟨m, hm⟩ : ∃ m : Nat, m = 36 + q := ⟨_, rfl⟩
  have hmI : (36 + (q : Int)) = (m : Int) := by omega
  have hm1 : 36 ≤ m := by omega
  have hm2 : m ≤ 45 := by omega
  clear hm
  go_upto_region 4 with fail
  clear hq hmI hq9 hb
  have hmc := fun (W : World) => madeChain_calls m (-1) W (by omega) (by omega) (by omega)
  go_wp2_with fail
  refine (hmc w).mono ?_
  rintro e w1 ⟨vR, vM, vF, rfl, hin1, hb1⟩
  clear hmc
  obtain ⟨⟨A1, c1, hv1, _, _, _⟩, ⟨A2, c2, hv2, _, _, hMs⟩, ⟨A3, c3, hv3, _, _, _⟩⟩ := id hin1
  subst hv1 hv2 hv3
  have hbA : Below w1.heap.size w1 (w1.alloc (Obj.cells #[.slice A1 (Ch.chain m (-1)).roots.length c1, .slice A2 (Ch.chain m (-1)).mods.length c2, .slice A3 (Ch.chain m (-1)).faults.length c3] 46)) := by (repeat (first | with_reducible exact Below.refl _ _ | with_reducible assumption | with_reducible refine Below.alloc ?_ (by first | exact Nat.le_refl _ | exact Below.size (by assumption) | exact Nat.le_trans (Below.size (by assumption)) (by simp; done) | (simp; done) | (simp; omega) | omega) _ | with_reducible refine below_drewN ?_ _ | with_reducible refine Below.drew ?_ | with_reducible refine Below.setCell ?_ (by first | exact Nat.le_refl _ | (simp; done) | (simp; omega) | omega) _))
  have hnA := heap_alloc_new w1 (Obj.cells #[.slice A1 (Ch.chain m (-1)).roots.length c1, .slice A2 (Ch.chain m (-1)).mods.length c2, .slice A3 (Ch.chain m (-1)).faults.length c3] 46)
  have hzA : w1.heap.size < (w1.alloc (Obj.cells #[.slice A1 (Ch.chain m (-1)).roots.length c1, .slice A2 (Ch.chain m (-1)).mods.length c2, .slice A3 (Ch.chain m (-1)).faults.length c3] 46)).heap.size := by simp
  go_upto_region 5 with fail
  generalize w1.alloc (Obj.cells #[.slice A1 (Ch.chain m (-1)).roots.length c1, .slice A2 (Ch.chain m (-1)).mods.length c2, .slice A3 (Ch.chain m (-1)).faults.length c3] 46) = W2 at hbA hnA hzA ⊢
  have B2 := below_then hb1 hb1.size hbA
  have hin2 := hin1.below hbA
  have k0 : W2.cell? ⟨w1.heap.size, 0, none⟩ = some (.slice A1 (Ch.chain m (-1)).roots.length c1) := blk_cell hnA 0
  have k1 : W2.cell? ⟨w1.heap.size, 1, none⟩ = some (.slice A2 (Ch.chain m (-1)).mods.length c2) := blk_cell hnA 1
  have k2 : W2.cell? ⟨w1.heap.size, 2, none⟩ = some (.slice A3 (Ch.chain m (-1)).faults.length c3) := blk_cell hnA 2
  have hlc := iLoad_calls (Ch.chain m (-1)) _ _ _ _ W2 hin2 (chain_sz (by omega) (by omega)) (HM.out.below B2) (mtx 0) (by have := mtx_size (k := 0) (by omega); omega)
  have hbase : ∃ (c : Int) (T R : Nat), Ch.Base m (-1) c T R [] ∧ ((m ≤ 40 ∧ c = 0 ∧ T = m ∧ R = m) ∨ (40 < m ∧ c = 7 ∧ T = 40 ∧ R = 41)) := by
    by_cases h40 : m ≤ 40
    · exact ⟨0, m, m, .inl ⟨rfl, h40, rfl, rfl, rfl, rfl⟩, .inl ⟨h40, rfl, rfl, rfl⟩⟩
    · exact ⟨7, 40, 41, .inr (.inl ⟨rfl, by omega, by omega, rfl, rfl, rfl, rfl⟩), .inr ⟨by omega, rfl, rfl, rfl⟩⟩
  obtain ⟨c, T, R, hB, hcs⟩ := hbase
  obtain ⟨st, hld, hst, hre, hrgs⟩ := Ch.chain_load hB (by omega)
  clear hrgs
  rw [hld, mtx_zero] at hlc
  have HLC := hide hlc
  have HST := hide hst
  have HRE := hide hre
  have HMS := hide (hMs.below hbA)
  have HNA := hide hnA
  have hmd := hide (Ch.mods_len (n := m) (back := -1))
  have HCS := hide hcs
  clear hlc hst hre hld hB hnA hMs hin1 hin2 hcs
  go_wp2_with fail
  refine (unhide HLC).mono ?_
  rintro e w3 ⟨vc, vs, vr, rfl, hrep, hb3⟩
  obtain ⟨xA, xc, hx, _, _, _⟩ := hrep.recs.slV
  subst hx
  obtain ⟨yA, yc, hy, hyl, hym, hys⟩ := hrep.states.slV
  subst hy
  obtain ⟨KK, zs, hzs, _⟩ := id hrep.rings
  obtain ⟨zA, zc, hz'⟩ := row_form hzs
  subst hz'
  clear hzs HLC
  have HSL := hide (show st.states.length = T by rw [HST.out]; simp)
  have B3 := below_then B2 B2.size hb3
  have hst3 := hrep.states.sl
  have hk1 := (hb3.cell (p := ⟨w1.heap.size, 1, none⟩) hzA).trans k1
  have hms3 := (unhide HMS).below hb3
  clear k0 k1 k2 hbA B2
  dsimp only
  rw [HRE.out, HSL.out]
  have hbB : Below w3.heap.size w3 (w3.alloc (Obj.cells #[.int .i64 c, .slice xA st.recs.length xc, .slice yA T yc, .int .i64 R, .slice zA st.rings.length zc] 41)) := by (repeat (first | with_reducible exact Below.refl _ _ | with_reducible assumption | with_reducible refine Below.alloc ?_ (by first | exact Nat.le_refl _ | exact Below.size (by assumption) | exact Nat.le_trans (Below.size (by assumption)) (by simp; done) | (simp; done) | (simp; omega) | omega) _ | with_reducible refine below_drewN ?_ _ | with_reducible refine Below.drew ?_ | with_reducible refine Below.setCell ?_ (by first | exact Nat.le_refl _ | (simp; done) | (simp; omega) | omega) _))
  have hnB := heap_alloc_new w3 (Obj.cells #[.int .i64 c, .slice xA st.recs.length xc, .slice yA T yc, .int .i64 R, .slice zA st.rings.length zc] 41)
  have hzB : w3.heap.size < (w3.alloc (Obj.cells #[.int .i64 c, .slice xA st.recs.length xc, .slice yA T yc, .int .i64 R, .slice zA st.rings.length zc] 41)).heap.size := by simp
  go_upto_region 6 with fail
  generalize w3.alloc (Obj.cells #[.int .i64 c, .slice xA st.recs.length xc, .slice yA T yc, .int .i64 R, .slice zA st.rings.length zc] 41) = W4 at hbB hnB hzB ⊢
  have B4 := below_then B3 B3.size hbB
  have r0 : W4.cell? ⟨w3.heap.size, 0, none⟩ = some (.int .i64 c) := blk_cell hnB 0
  have r2 : W4.cell? ⟨w3.heap.size, 2, none⟩ = some (.slice yA T yc) := blk_cell hnB 2
  have r3 : W4.cell? ⟨w3.heap.size, 3, none⟩ = some (.int .i64 R) := blk_cell hnB 3
  have hst4 : Sl kState W4 _ yA st.states := hst3.below hbB
  have hms4 := hms3.below hbB
  have hz13 : w1.heap.size < w3.heap.size := Nat.lt_of_lt_of_le hzA hb3.size
  have q1 : W4.cell? ⟨w1.heap.size, 1, none⟩ = some (.slice A2 (Ch.chain m (-1)).mods.length c2) := (hbB.cell (p := ⟨w1.heap.size, 1, none⟩) hz13).trans hk1
  clear hst3 hms3 hnB hb3 hk1 hrep
  rcases HCS.out with ⟨h40, rfl, rfl, rfl⟩ | ⟨h40, rfl, rfl, rfl⟩
  · go_wp2_with fail
    go_ret
    exact ⟨rfl, B4⟩
  · have hne := state_same
    go_wp2_with fail
    go_loopw [6, 7, 54] (fun _ _ i wr => ∃ k : Nat, i = .int .i64 k ∧ k ≤ 40 ∧ Below W4.heap.size W4 wr) (fun _ _ i _ => 40 - (intOf i).toNat)
    case atStart => exact ⟨0, rfl, by omega, Below.refl _ _⟩
    case round =>
      obtain ⟨k, rfl, hk, HB⟩ := hrel
      by_cases hlt : k < 40
      · have hstk : st.states[k]? = some ⟨mtx k, 3, 0, 7⟩ := by rw [HST.out]; simp [hlt, Ch.ended]
        have hkl : k < st.states.length := by rw [HSL.out]; exact hlt
        obtain ⟨ad, hA, l0, l1, l2, l3⟩ := (hst4.below HB).get hkl
        have hx : st.states[k] = ⟨mtx k, 3, 0, 7⟩ := by rw [List.getElem?_eq_getElem hkl] at hstk; exact Option.some.inj hstk
        rw [hx] at l0 l1 l2 l3
        subst hA
        have e0 : wr.cell? (ad.add (k * 4)) = some (.string (mtx k)) := l0.2
        have e1 : wr.cell? ⟨(ad.add (k * 4)).block, (ad.add (k * 4)).off + 1, none⟩ = some (.int .i64 3) := by have := l1.2; rwa [add_pos _ _ (by omega)] at this
        have e2 : wr.cell? ⟨(ad.add (k * 4)).block, (ad.add (k * 4)).off + 2, none⟩ = some (.int .i64 0) := by have := l2.2; rwa [add_pos _ _ (by omega)] at this
        have e3 : wr.cell? ⟨(ad.add (k * 4)).block, (ad.add (k * 4)).off + 3, none⟩ = some (.int .i64 7) := by have := l3.2; rwa [add_pos _ _ (by omega)] at this
        have hkm : k < (Ch.chain m (-1)).mods.length := by rw [unhide hmd]; omega
        obtain ⟨bd, hA2, m0, m1⟩ := (hms4.below HB).get hkm
        have hmx : (Ch.chain m (-1)).mods[k] = Ch.modC m (-1) k := by
          have := Ch.mods_at (back := -1) (show k < m by omega)
          rw [List.getElem?_eq_getElem hkm] at this
          exact Option.some.inj this
        rw [hmx] at m0
        subst hA2
        have d0 : wr.cell? (bd.add (k * 2)) = some (.string (mtx k)) := m0.2
        have hkI : (k : Int) < (Ch.chain m (-1)).mods.length := by omega
        have q2 : wr.cell? ⟨w1.heap.size, 1, none⟩ = some (.slice (some bd) (Ch.chain m (-1)).mods.length c2) := (HB.cell (p := ⟨w1.heap.size, 1, none⟩) (Nat.lt_trans hz13 hzB)).trans q1
        have hz1r : w1.heap.size < wr.heap.size := Nat.lt_of_lt_of_le (Nat.lt_trans hz13 hzB) HB.size
        have hbdl := World.block_lt_of_cell? _ _ d0
        rw [block_add] at hbdl
        clear l0 l1 l2 l3 m0 m1 hmx hx hstk hkl hkm
        generalize mtx k = nm at e0 d0
        have hbX : Below wr.heap.size wr (wr.alloc (Obj.cells #[.string nm, .int .i64 3, .int .i64 0, .int .i64 7] 53)) := by (repeat (first | with_reducible exact Below.refl _ _ | with_reducible assumption | with_reducible refine Below.alloc ?_ (by first | exact Nat.le_refl _ | exact Below.size (by assumption) | exact Nat.le_trans (Below.size (by assumption)) (by simp; done) | (simp; done) | (simp; omega) | omega) _ | with_reducible refine below_drewN ?_ _ | with_reducible refine Below.drew ?_ | with_reducible refine Below.setCell ?_ (by first | exact Nat.le_refl _ | (simp; done) | (simp; omega) | omega) _))
        have hnX := heap_alloc_new wr (Obj.cells #[.string nm, .int .i64 3, .int .i64 0, .int .i64 7] 53)
        go_upto_region 13 with fail
        generalize wr.alloc (Obj.cells #[.string nm, .int .i64 3, .int .i64 0, .int .i64 7] 53) = WX at hbX hnX ⊢
        have x0 : WX.cell? ⟨wr.heap.size, 0, none⟩ = some (.string nm) := blk_cell hnX 0
        have x1 : WX.cell? ⟨wr.heap.size, 1, none⟩ = some (.int .i64 3) := blk_cell hnX 1
        have x2 : WX.cell? ⟨wr.heap.size, 2, none⟩ = some (.int .i64 0) := blk_cell hnX 2
        have x3 : WX.cell? ⟨wr.heap.size, 3, none⟩ = some (.int .i64 7) := blk_cell hnX 3
        have q2' := (hbX.cell (p := ⟨w1.heap.size, 1, none⟩) hz1r).trans q2
        have d0' := (hbX.cell (World.block_lt_of_cell? _ _ d0)).trans d0
        have HB2 := below_then HB HB.size hbX
        clear hnX hbX e0 e1 e2 e3 d0 q2 HB
        go_region
        all_goals
          go_wp2_with fail
          go_roundw
          case rel => exact ⟨k + 1, by go_num, by omega, by (repeat (first | with_reducible exact Below.refl _ _ | with_reducible assumption | with_reducible refine Below.alloc ?_ (by first | exact Nat.le_refl _ | exact Below.size (by assumption) | exact Nat.le_trans (Below.size (by assumption)) (by simp; done) | (simp; done) | (simp; omega) | omega) _ | with_reducible refine below_drewN ?_ _ | with_reducible refine Below.drew ?_ | with_reducible refine Below.setCell ?_ (by first | exact Nat.le_refl _ | (simp; done) | (simp; omega) | omega) _))⟩
          case measure => simp [intOf]; omega
      · obtain rfl : k = 40 := by omega
        go_wp2_with fail
        go_ret
        exact ⟨rfl, below_then B4 B4.size HB⟩
end Go.Proofs.YtkhlicmlnjccdaaDoor
