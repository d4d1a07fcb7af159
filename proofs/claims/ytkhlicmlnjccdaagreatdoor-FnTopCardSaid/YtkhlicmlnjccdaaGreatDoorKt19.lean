/-
  Walks: the laws' copies of lines, modules, numbers and worlds.
-/
import Derived.Test.YtkhlicmlnjccdaaGreatDoorKt8
import Derived.Test.YtkhlicmlnjccdaaGreatDoorKt16
namespace Go.Proofs.YtkhlicmlnjccdaaGreatDoor
open Go.RowKit Mem

set_option maxHeartbeats 400000 in
theorem toLine_calls (x : LineD) (w : World) :
    Calls Tryz.prog 123 #[.agg #[.int .i64 x.op, .string x.name, .int .i64 x.num, .int .i64 x.skip]] w fun e w' => e = .returned (.agg #[.int .i64 x.op, .string x.name, .int .i64 x.num, .int .i64 x.skip]) ∧ Below w.heap.size w w' := by
  go_enter Tryz.func123, Tryz.ntmps123
  go_wp2_with fail
  exact bodyPost_ret (v := .agg #[.int .i64 x.op, .string x.name, .int .i64 x.num, .int .i64 x.skip]) (by simp [results, Tryz.results123, go_sem]) rfl ⟨rfl, by (repeat (first | with_reducible exact Below.refl _ _ | with_reducible assumption | with_reducible refine Below.alloc ?_ (by first | exact Nat.le_refl _ | exact Below.size (by assumption) | exact Nat.le_trans (Below.size (by assumption)) (by simp; done) | (simp; done) | (simp; omega) | omega) _ | with_reducible refine below_drewN ?_ _ | with_reducible refine Below.drew ?_ | with_reducible refine Below.setCell ?_ (by first | exact Nat.le_refl _ | (simp; done) | (simp; omega) | omega) _))⟩

theorem info_line : (Tryz.prog.info? 106).map (fun i => (i.zero, i.size, i.bytes)) = some (some (.agg #[.int .i64 0, .string ⟨#[]⟩, .int .i64 0, .int .i64 0]), 4, 40) := by kernel_rfl
theorem info_mod : (Tryz.prog.info? 75).map (fun i => (i.zero, i.size, i.bytes)) = some (some (.agg #[.string ⟨#[]⟩, .slice none 0 0]), 2, 40) := by kernel_rfl
theorem info_int : (Tryz.prog.info? 3).map (fun i => (i.zero, i.size, i.bytes)) = some (some (.int .i64 0), 1, 8) := by kernel_rfl

set_option maxRecDepth 100000 in
set_option maxHeartbeats 1000000 in
theorem toLineS_calls (A : Option Addr) (c n : Nat) (xs : List LineD) (S : Nat → Prop) (w : World) (h : Sl kLine w S A xs) (hn : xs.length = n) (hl : n ≤ 1073741824) :
    Calls Tryz.prog 105 #[.slice A n c] w (RetOwn fLine w 106 xs) := by
  subst hn
  have hmk := fun W : World => run_make_st (P := Tryz.prog) 73 106 _ 4 40 Tryz.underlying73 info_line xs.length (by omega) (by omega) W
  have hblk0 := heap_alloc_new w (Obj.cells (madeCells (Value.agg #[.int .i64 0, .string ⟨#[]⟩, .int .i64 0, .int .i64 0]).cells (xs.length * 4)) 106)
  have hsz0 : (madeCells (Value.agg #[.int .i64 0, .string ⟨#[]⟩, .int .i64 0, .int .i64 0]).cells (xs.length * 4)).size = xs.length * 4 := size_madeCells _ _
  have hb1 : Below w.heap.size w (w.alloc (Obj.cells (madeCells (Value.agg #[.int .i64 0, .string ⟨#[]⟩, .int .i64 0, .int .i64 0]).cells (xs.length * 4)) 106)) := by (repeat (first | with_reducible exact Below.refl _ _ | with_reducible assumption | with_reducible refine Below.alloc ?_ (by first | exact Nat.le_refl _ | exact Below.size (by assumption) | exact Nat.le_trans (Below.size (by assumption)) (by simp; done) | (simp; done) | (simp; omega) | omega) _ | with_reducible refine below_drewN ?_ _ | with_reducible refine Below.drew ?_ | with_reducible refine Below.setCell ?_ (by first | exact Nat.le_refl _ | (simp; done) | (simp; omega) | omega) _))
  have hlt0 : w.heap.size < (w.alloc (Obj.cells (madeCells (Value.agg #[.int .i64 0, .string ⟨#[]⟩, .int .i64 0, .int .i64 0]).cells (xs.length * 4)) 106)).heap.size := by simp
  generalize madeCells (Value.agg #[.int .i64 0, .string ⟨#[]⟩, .int .i64 0, .int .i64 0]).cells (xs.length * 4) = cs0 at hmk hblk0 hsz0 hb1 hlt0
  have HZ := hide hsz0
  have HB0 := hide hblk0
  clear hsz0 hblk0
  go_enter Tryz.func105, Tryz.ntmps105
  go_wp2_with fail
  generalize (w.alloc (Obj.cells cs0 106)) = W0 at HB0 hb1 hlt0 ⊢
  clear hmk
  go_loopw [4] (fun i wr => ∃ (m : Nat) (cs : Array Value), i = .int .i64 m ∧ m ≤ xs.length ∧ Hid (wr.heap[w.heap.size]? = some (.cells cs 106 (0, 0))) ∧ Hid (cs.size = xs.length * 4 ∧ ∀ q x, q < m → xs[q]? = some x → Part cs 4 q (fLine.enc x)) ∧ Below w.heap.size w wr ∧ w.heap.size < wr.heap.size) (fun i _ => xs.length - (intOf i).toNat)
  case atStart => exact ⟨0, cs0, rfl, by omega, HB0, hide ⟨HZ.out, fun q x hq => absurd hq (by omega)⟩, hb1, hlt0⟩
  case round =>
    clear hb1 hlt0
    obtain ⟨m, cs, rfl, hm, HC, HP, HB, hlw⟩ := hrel
    by_cases hlt : m < xs.length
    · obtain ⟨ad, hA, l0, l1, l2, l3⟩ := (h.below HB).get hlt
      subst hA
      have e0 : wr.cell? (ad.add (m * 4)) = some (.int .i64 xs[m].op) := l0.2
      have e1 : wr.cell? ⟨(ad.add (m * 4)).block, (ad.add (m * 4)).off + 1, none⟩ = some (.string xs[m].name) := by have := l1.2; rwa [add_pos _ _ (by omega)] at this
      have e2 : wr.cell? ⟨(ad.add (m * 4)).block, (ad.add (m * 4)).off + 2, none⟩ = some (.int .i64 xs[m].num) := by have := l2.2; rwa [add_pos _ _ (by omega)] at this
      have e3 : wr.cell? ⟨(ad.add (m * 4)).block, (ad.add (m * 4)).off + 3, none⟩ = some (.int .i64 xs[m].skip) := by have := l3.2; rwa [add_pos _ _ (by omega)] at this
      have hx := hide (List.getElem?_eq_getElem hlt)
      clear l0 l1 l2 l3 h
      generalize xs[m] = x at e0 e1 e2 e3 hx
      go_wp2_with fail
      refine (toLine_calls x _).mono ?_
      rintro e w1 ⟨rfl, hb1⟩
      have hblk := (hb1.block _ hlw).trans HC.out
      have hbn := HP.out.1
      have c0 : w1.cell? ⟨w.heap.size, m * 4, none⟩ = some _ := (blk_cell hblk (m * 4)).trans (Array.getElem?_eq_getElem (show m * 4 < cs.size by omega))
      have c1 : w1.cell? ⟨w.heap.size, m * 4 + 1, none⟩ = some _ := (blk_cell hblk (m * 4 + 1)).trans (Array.getElem?_eq_getElem (show m * 4 + 1 < cs.size by omega))
      have c2 : w1.cell? ⟨w.heap.size, m * 4 + 2, none⟩ = some _ := (blk_cell hblk (m * 4 + 2)).trans (Array.getElem?_eq_getElem (show m * 4 + 2 < cs.size by omega))
      have c3 : w1.cell? ⟨w.heap.size, m * 4 + 3, none⟩ = some _ := (blk_cell hblk (m * 4 + 3)).trans (Array.getElem?_eq_getElem (show m * 4 + 3 < cs.size by omega))
      generalize cs[m * 4]'(by omega) = o0 at c0
      generalize cs[m * 4 + 1]'(by omega) = o1 at c1
      generalize cs[m * 4 + 2]'(by omega) = o2 at c2
      generalize cs[m * 4 + 3]'(by omega) = o3 at c3
      have f0 := blk_free hblk (m * 4)
      have f1 := blk_free hblk (m * 4 + 1)
      have f2 := blk_free hblk (m * 4 + 2)
      have f3 := blk_free hblk (m * 4 + 3)
      have HB1 := below_then HB HB.size hb1
      have hlw1 : w.heap.size < w1.heap.size := by have := hb1.size; omega
      have HBL := hide (blk_set (blk_set (blk_set (blk_set hblk (m * 4) (.int .i64 x.op)) (m * 4 + 1) (.string x.name)) (m * 4 + 2) (.int .i64 x.num)) (m * 4 + 3) (.int .i64 x.skip))
      have HPN := hide (show (set4 cs m (.int .i64 x.op) (.string x.name) (.int .i64 x.num) (.int .i64 x.skip)).size = xs.length * 4 ∧ ∀ q y, q < m + 1 → xs[q]? = some y → Part (set4 cs m (.int .i64 x.op) (.string x.name) (.int .i64 x.num) (.int .i64 x.skip)) 4 q (fLine.enc y) from
        ⟨set4_size.trans hbn, fun q y hq hy => by
          have h4 := fun l (hl : l.length ≤ 4) => set4_at (cs := cs) (q := m) (m := q) (a := .int .i64 x.op) (b := .string x.name) (c := .int .i64 x.num) (d := .int .i64 x.skip) (by omega) (l := l) hl
          by_cases he : q = m
          · subst he
            rw [hx.out] at hy
            obtain rfl := Option.some.inj hy
            exact (h4 [] (by simp)).1
          · exact (h4 _ (by simp [fLine])).2 he (HP.out.2 q y (by omega) hy)⟩)
      clear hb1 hblk hbn HB HC HP e0 e1 e2 e3 hlw
      go_wp2_with fail
      go_roundw
      case rel => exact ⟨m + 1, _, by go_num, by omega, HBL, HPN, by (repeat (first | with_reducible exact Below.refl _ _ | with_reducible assumption | with_reducible refine Below.alloc ?_ (by first | exact Nat.le_refl _ | exact Below.size (by assumption) | exact Nat.le_trans (Below.size (by assumption)) (by simp; done) | (simp; done) | (simp; omega) | omega) _ | with_reducible refine below_drewN ?_ _ | with_reducible refine Below.drew ?_ | with_reducible refine Below.setCell ?_ (by first | exact Nat.le_refl _ | (simp; done) | (simp; omega) | omega) _)), by simp [World.setCell]; omega⟩
      case measure => simp [intOf]; omega
    · obtain rfl : m = xs.length := by omega
      have HO := Own.of_block fLine (base := w.heap.size) HC.out (Nat.le_refl _) HP.out.1 rfl (Nat.le_refl _) (by unfold maxLen; omega) (fun q x hx => HP.out.2 q x (by
        rcases Nat.lt_or_ge q xs.length with h | h
        · exact h
        · rw [List.getElem?_eq_none h] at hx; simp at hx) hx)
      go_wp2_with fail
      go_ret
      exact ⟨_, rfl, HO, HB⟩

set_option maxRecDepth 100000 in
set_option maxHeartbeats 1000000 in
theorem toIntS_calls (A : Option Addr) (c n : Nat) (xs : List Int) (S : Nat → Prop) (w : World) (h : Sl kInt w S A xs) (hn : xs.length = n) (hl : n ≤ 1073741824) :
    Calls Tryz.prog 38 #[.slice A n c] w (RetOwn fInt w 3 xs) := by
  subst hn
  have hmk := fun W : World => run_make_st (P := Tryz.prog) 25 3 _ 1 8 Tryz.underlying25 info_int xs.length (by omega) (by omega) W
  have hblk0 := heap_alloc_new w (Obj.cells (madeCells (Value.int .i64 0).cells (xs.length * 1)) 3)
  have hsz0 : (madeCells (Value.int .i64 0).cells (xs.length * 1)).size = xs.length * 1 := size_madeCells _ _
  have hb1 : Below w.heap.size w (w.alloc (Obj.cells (madeCells (Value.int .i64 0).cells (xs.length * 1)) 3)) := by (repeat (first | with_reducible exact Below.refl _ _ | with_reducible assumption | with_reducible refine Below.alloc ?_ (by first | exact Nat.le_refl _ | exact Below.size (by assumption) | exact Nat.le_trans (Below.size (by assumption)) (by simp; done) | (simp; done) | (simp; omega) | omega) _ | with_reducible refine below_drewN ?_ _ | with_reducible refine Below.drew ?_ | with_reducible refine Below.setCell ?_ (by first | exact Nat.le_refl _ | (simp; done) | (simp; omega) | omega) _))
  have hlt0 : w.heap.size < (w.alloc (Obj.cells (madeCells (Value.int .i64 0).cells (xs.length * 1)) 3)).heap.size := by simp
  generalize madeCells (Value.int .i64 0).cells (xs.length * 1) = cs0 at hmk hblk0 hsz0 hb1 hlt0
  have HZ := hide hsz0
  have HB0 := hide hblk0
  clear hsz0 hblk0
  go_enter Tryz.func38, Tryz.ntmps38
  go_wp2_with fail
  generalize (w.alloc (Obj.cells cs0 3)) = W0 at HB0 hb1 hlt0 ⊢
  clear hmk
  go_loopw [4] (fun i wr => ∃ (m : Nat) (cs : Array Value), i = .int .i64 m ∧ m ≤ xs.length ∧ Hid (wr.heap[w.heap.size]? = some (.cells cs 3 (0, 0))) ∧ Hid (cs.size = xs.length * 1 ∧ ∀ q x, q < m → xs[q]? = some x → Part cs 1 q (fInt.enc x)) ∧ Below w.heap.size w wr ∧ w.heap.size < wr.heap.size) (fun i _ => xs.length - (intOf i).toNat)
  case atStart => exact ⟨0, cs0, rfl, by omega, HB0, hide ⟨HZ.out, fun q x hq => absurd hq (by omega)⟩, hb1, hlt0⟩
  case round =>
    clear hb1 hlt0
    obtain ⟨m, cs, rfl, hm, HC, HP, HB, hlw⟩ := hrel
    by_cases hlt : m < xs.length
    · obtain ⟨ad, hA, l0⟩ := (h.below HB).get hlt
      subst hA
      have e0 : wr.cell? (ad.add m) = some (.int .i64 xs[m]) := by simpa [kInt] using l0.2
      have hx := hide (List.getElem?_eq_getElem hlt)
      clear l0 h
      generalize xs[m] = x at e0 hx
      have hbn := HP.out.1
      have c0 : wr.cell? ⟨w.heap.size, m, none⟩ = some _ := (blk_cell HC.out m).trans (Array.getElem?_eq_getElem (show m < cs.size by omega))
      generalize cs[m]'(by omega) = o0 at c0
      have f0 := blk_free HC.out m
      have HBL := hide (blk_set HC.out m (.int .i64 x))
      have HPN := hide (show (cs.setIfInBounds m (.int .i64 x)).size = xs.length * 1 ∧ ∀ q y, q < m + 1 → xs[q]? = some y → Part (cs.setIfInBounds m (.int .i64 x)) 1 q (fInt.enc y) from
        ⟨by rw [Array.size_setIfInBounds]; exact hbn, fun q y hq hy j u hj => by
          have hj0 : j = 0 := by
            rcases j with _ | j
            · rfl
            · simp [fInt] at hj
          subst hj0
          rw [Array.getElem?_setIfInBounds]
          by_cases he : q = m
          · subst he
            rw [hx.out] at hy
            obtain rfl := Option.some.inj hy
            rw [if_pos (by omega), if_pos (by omega)]
            simpa [fInt] using hj
          · rw [if_neg (by omega)]
            exact HP.out.2 q y (by omega) hy 0 u hj⟩)
      clear hbn HC HP
      go_wp2_with fail
      go_roundw
      case rel => exact ⟨m + 1, _, by go_num, by omega, HBL, HPN, by (repeat (first | with_reducible exact Below.refl _ _ | with_reducible assumption | with_reducible refine Below.alloc ?_ (by first | exact Nat.le_refl _ | exact Below.size (by assumption) | exact Nat.le_trans (Below.size (by assumption)) (by simp; done) | (simp; done) | (simp; omega) | omega) _ | with_reducible refine below_drewN ?_ _ | with_reducible refine Below.drew ?_ | with_reducible refine Below.setCell ?_ (by first | exact Nat.le_refl _ | (simp; done) | (simp; omega) | omega) _)), by simp [World.setCell]; omega⟩
      case measure => simp [intOf]; omega
    · obtain rfl : m = xs.length := by omega
      have HO := Own.of_block fInt (base := w.heap.size) HC.out (Nat.le_refl _) HP.out.1 rfl (Nat.le_refl _) (by unfold maxLen; omega) (fun q x hx => HP.out.2 q x (by
        rcases Nat.lt_or_ge q xs.length with h | h
        · exact h
        · rw [List.getElem?_eq_none h] at hx; simp at hx) hx)
      go_wp2_with fail
      go_ret
      exact ⟨_, rfl, HO, HB⟩

set_option maxRecDepth 100000 in
set_option maxHeartbeats 400000 in
theorem toModule_calls (A : Option Addr) (c : Nat) (x : ModD) (S : Nat → Prop) (w : World) (h : Sl kLine w S A x.lines) (hl : x.lines.length ≤ 1073741824) :
    Calls Tryz.prog 80 #[.agg #[.string x.name, .slice A x.lines.length c]] w fun e w' => ∃ v, e = .returned (.agg #[.string x.name, v]) ∧ Own fLine w' w.heap.size 106 v x.lines ∧ Below w.heap.size w w' := by
  obtain ⟨nm, ls⟩ := x
  replace hl : ls.length ≤ 1073741824 := hl
  replace h : Sl kLine w S A ls := h
  go_enter Tryz.func80, Tryz.ntmps80
  go_wp2_with fail
  generalize hW : (((w.alloc (Obj.cells #[.string nm, .slice A ls.length c] 134)).alloc (Obj.cells #[.string ⟨#[]⟩, .slice none 0 0] 75)).alloc (Obj.cells #[.string nm, .slice none 0 0] 75)) = W
  have hbW : Below w.heap.size w W := by rw [← hW]; (repeat (first | with_reducible exact Below.refl _ _ | with_reducible assumption | with_reducible refine Below.alloc ?_ (by first | exact Nat.le_refl _ | exact Below.size (by assumption) | exact Nat.le_trans (Below.size (by assumption)) (by simp; done) | (simp; done) | (simp; omega) | omega) _ | with_reducible refine below_drewN ?_ _ | with_reducible refine Below.drew ?_ | with_reducible refine Below.setCell ?_ (by first | exact Nat.le_refl _ | (simp; done) | (simp; omega) | omega) _))
  have hzW : W.heap.size = w.heap.size + 3 := by rw [← hW]; simp
  have hr : W.heap[w.heap.size + 1]? = some (Obj.cells #[.string ⟨#[]⟩, .slice none 0 0] 75 (0, 0)) := by
    rw [← hW, alloc_old _ _ (by simp)]
    have := heap_alloc_new (w.alloc (Obj.cells #[.string nm, .slice A ls.length c] 134)) (Obj.cells #[.string ⟨#[]⟩, .slice none 0 0] 75)
    simpa using this
  have hr2 : W.heap[w.heap.size + 2]? = some (Obj.cells #[.string nm, .slice none 0 0] 75 (0, 0)) := by
    rw [← hW]
    have := heap_alloc_new ((w.alloc (Obj.cells #[.string nm, .slice A ls.length c] 134)).alloc (Obj.cells #[.string ⟨#[]⟩, .slice none 0 0] 75)) (Obj.cells #[.string nm, .slice none 0 0] 75)
    simpa using this
  have HR := hide hr
  have HR2 := hide hr2
  clear hW hr hr2
  refine (toLineS_calls A c ls.length ls S W (h.below hbW) rfl hl).mono ?_
  rintro e w1 ⟨v, rfl, HO, hb1⟩
  obtain ⟨A5, c5, hv5, _, _, _⟩ := HO.slV
  subst hv5
  have b1 := (hb1.block _ (by omega)).trans HR.out
  have b2 := (hb1.block _ (by omega)).trans HR2.out
  have HB := below_then hbW hbW.size hb1
  have z1 := HB.size
  have z2 := hb1.size
  have r0 : w1.cell? ⟨w.heap.size + 1, 0, none⟩ = some _ := blk_cell b1 0
  have r1 : w1.cell? ⟨w.heap.size + 1, 1, none⟩ = some _ := blk_cell b1 1
  have q0 : w1.cell? ⟨w.heap.size + 2, 0, none⟩ = some _ := blk_cell b2 0
  have q1 : w1.cell? ⟨w.heap.size + 2, 1, none⟩ = some _ := blk_cell b2 1
  have f0 := blk_free b1 0
  have f1 := blk_free b1 1
  have g0 := blk_free b2 0
  have g1 := blk_free b2 1
  clear hb1 b1 b2
  go_wp2_with fail
  refine bodyPost_ret (v := .agg #[.string nm, .slice A5 ls.length c5]) (by simp [results, Tryz.results80, go_sem, r0, r1]) rfl ⟨_, rfl, ?_, by (repeat (first | with_reducible exact Below.refl _ _ | with_reducible assumption | with_reducible refine Below.alloc ?_ (by first | exact Nat.le_refl _ | exact Below.size (by assumption) | exact Nat.le_trans (Below.size (by assumption)) (by simp; done) | (simp; done) | (simp; omega) | omega) _ | with_reducible refine below_drewN ?_ _ | with_reducible refine Below.drew ?_ | with_reducible refine Below.setCell ?_ (by first | exact Nat.le_refl _ | (simp; done) | (simp; omega) | omega) _))⟩
  refine (HO.more (base' := w.heap.size) (by omega)).same (fun b hb => ?_)
  have hbb := HO.le hb
  simp only [World.setCell]
  repeat rw [Array.getElem?_modify, if_neg (by omega)]

/-- a row of modules of one's own, each with a row of lines of its own -/
def OwnMods (w : World) (base : Nat) (v : Value) (xs : List ModD) : Prop :=
  ∃ g cs, v = .slice (some ⟨g, 0, none⟩) xs.length xs.length ∧ base ≤ g ∧ w.heap[g]? = some (.cells cs 75 (0, 0)) ∧ cs.size = xs.length * 2 ∧ xs.length ≤ maxLen ∧
    ∀ q x, xs[q]? = some x → ∃ u, Part cs 2 q [.string x.name, u] ∧ Own fLine w base 106 u x.lines
theorem OwnMods.slV {w : World} {base : Nat} {v : Value} {xs : List ModD} (h : OwnMods w base v xs) : SlV kMod w (fun b => base ≤ b) v xs := by
  obtain ⟨g, cs, rfl, hg, hb, hs, hm, hx⟩ := h
  refine ⟨_, _, rfl, Nat.le_refl _, hm, fun _ => ⟨_, rfl, fun i x hi => ?_⟩⟩
  obtain ⟨u, hp, ho⟩ := hx i x hi
  obtain ⟨A, c, hu, hl, hc, hsl⟩ := ho.slV
  have e : (⟨g, 0, none⟩ : Addr).add (i * kMod.size) = ⟨g, i * 2, none⟩ := by rw [add_plain, Nat.zero_add]; rfl
  rw [e]
  refine ⟨⟨hg, ?_⟩, A, c, ⟨?_, ?_⟩, hl, hc, hsl⟩
  · have := hp 0 _ rfl
    rw [blk_cell hb]; exact this
  · rw [block_add]; exact hg
  · rw [add_plain, blk_cell hb, ← hu]
    exact hp 1 _ rfl
theorem OwnMods.below {w w' : World} {base : Nat} {v : Value} {xs : List ModD} (h : OwnMods w base v xs) (hb : Below w.heap.size w w') : OwnMods w' base v xs := by
  obtain ⟨g, cs, hv, hg, hbk, hs, hm, hx⟩ := h
  have hlt : g < w.heap.size := (Array.getElem?_eq_some_iff.1 hbk).1
  refine ⟨g, cs, hv, hg, (hb.block _ hlt).trans hbk, hs, hm, fun q x hq => ?_⟩
  obtain ⟨u, hp, ho⟩ := hx q x hq
  exact ⟨u, hp, ho.below hb⟩
theorem OwnMods.more {w : World} {base base' : Nat} {v : Value} {xs : List ModD} (h : OwnMods w base v xs) (hb : base' ≤ base) : OwnMods w base' v xs := by
  obtain ⟨g, cs, hv, hg, hbk, hs, hm, hx⟩ := h
  refine ⟨g, cs, hv, by omega, hbk, hs, hm, fun q x hq => ?_⟩
  obtain ⟨u, hp, ho⟩ := hx q x hq
  exact ⟨u, hp, ho.more hb⟩
theorem OwnMods.same' {w w' : World} {base : Nat} {v : Value} {xs : List ModD} (h : OwnMods w base v xs) (hs : ∀ b, base ≤ b → w'.heap[b]? = w.heap[b]?) : OwnMods w' base v xs := by
  obtain ⟨g, cs, hv, hg, hbk, hz, hm, hx⟩ := h
  refine ⟨g, cs, hv, hg, (hs g hg).trans hbk, hz, hm, fun q x hq => ?_⟩
  obtain ⟨u, hp, ho⟩ := hx q x hq
  exact ⟨u, hp, ho.same (fun b hb => hs b (ho.le hb))⟩
theorem OwnMods.kept {w w' : World} {base g0 : Nat} {v : Value} {xs : List ModD} (h : OwnMods w base v xs) (hg0 : w.grownBy w' (some g0)) (hlt : g0 < base) : OwnMods w' base v xs := by
  obtain ⟨g, cs, hv, hg, hbk, hz, hm, hx⟩ := h
  have hl : g < w.heap.size := (Array.getElem?_eq_some_iff.1 hbk).1
  refine ⟨g, cs, hv, hg, (hg0.block g hl (by simp; omega)).trans hbk, hz, hm, fun q x hq => ?_⟩
  obtain ⟨u, hp, ho⟩ := hx q x hq
  exact ⟨u, hp, ho.kept hg0 (.inr (fun e => by have := ho.le e; omega))⟩
theorem OwnMods.drewN {w : World} {base : Nat} {v : Value} {xs : List ModD} (h : OwnMods w base v xs) (n : Nat) : OwnMods (w.drewN n) base v xs := h

set_option maxRecDepth 100000 in
set_option maxHeartbeats 1000000 in
theorem toModuleS_calls (A : Option Addr) (c n : Nat) (xs : List ModD) (S : Nat → Prop) (w : World) (h : Sl kMod w S A xs) (hn : xs.length = n) (hl : n ≤ 1073741824) (hll : ∀ x ∈ xs, x.lines.length ≤ 1073741824) :
    Calls Tryz.prog 37 #[.slice A n c] w fun e w' => ∃ v, e = .returned v ∧ OwnMods w' w.heap.size v xs ∧ Below w.heap.size w w' := by
  subst hn
  have hmk := fun W : World => run_make_st (P := Tryz.prog) 24 75 _ 2 40 Tryz.underlying24 info_mod xs.length (by omega) (by omega) W
  have hblk0 := heap_alloc_new w (Obj.cells (madeCells (Value.agg #[.string ⟨#[]⟩, .slice none 0 0]).cells (xs.length * 2)) 75)
  have hsz0 : (madeCells (Value.agg #[.string ⟨#[]⟩, .slice none 0 0]).cells (xs.length * 2)).size = xs.length * 2 := size_madeCells _ _
  have hb1 : Below w.heap.size w (w.alloc (Obj.cells (madeCells (Value.agg #[.string ⟨#[]⟩, .slice none 0 0]).cells (xs.length * 2)) 75)) := by (repeat (first | with_reducible exact Below.refl _ _ | with_reducible assumption | with_reducible refine Below.alloc ?_ (by first | exact Nat.le_refl _ | exact Below.size (by assumption) | exact Nat.le_trans (Below.size (by assumption)) (by simp; done) | (simp; done) | (simp; omega) | omega) _ | with_reducible refine below_drewN ?_ _ | with_reducible refine Below.drew ?_ | with_reducible refine Below.setCell ?_ (by first | exact Nat.le_refl _ | (simp; done) | (simp; omega) | omega) _))
  have hlt0 : w.heap.size < (w.alloc (Obj.cells (madeCells (Value.agg #[.string ⟨#[]⟩, .slice none 0 0]).cells (xs.length * 2)) 75)).heap.size := by simp
  generalize madeCells (Value.agg #[.string ⟨#[]⟩, .slice none 0 0]).cells (xs.length * 2) = cs0 at hmk hblk0 hsz0 hb1 hlt0
  have HZ := hide hsz0
  have HB0 := hide hblk0
  have HLL := hide hll
  clear hsz0 hblk0 hll
  go_enter Tryz.func37, Tryz.ntmps37
  go_wp2_with fail
  generalize (w.alloc (Obj.cells cs0 75)) = W0 at HB0 hb1 hlt0 ⊢
  clear hmk
  go_loopw [4] (fun i wr => ∃ (m : Nat) (cs : Array Value), i = .int .i64 m ∧ m ≤ xs.length ∧ Hid (wr.heap[w.heap.size]? = some (.cells cs 75 (0, 0))) ∧ Hid (cs.size = xs.length * 2 ∧ ∀ q x, q < m → xs[q]? = some x → ∃ u, Part cs 2 q [.string x.name, u] ∧ Own fLine wr (w.heap.size + 1) 106 u x.lines) ∧ Below w.heap.size w wr ∧ w.heap.size < wr.heap.size) (fun i _ => xs.length - (intOf i).toNat)
  case atStart => exact ⟨0, cs0, rfl, by omega, HB0, hide ⟨HZ.out, fun q x hq => absurd hq (by omega)⟩, hb1, hlt0⟩
  case round =>
    clear hb1 hlt0
    obtain ⟨m, cs, rfl, hm, HC, HP, HB, hlw⟩ := hrel
    by_cases hlt : m < xs.length
    · obtain ⟨ad, hA, hc0, A4, c4, hc4, hl4, hm4, hs4⟩ := (h.below HB).get hlt
      subst hA
      have e0 : wr.cell? (ad.add (m * 2)) = some (.string xs[m].name) := hc0.2
      have e1 : wr.cell? ⟨(ad.add (m * 2)).block, (ad.add (m * 2)).off + 1, none⟩ = some (.slice A4 xs[m].lines.length c4) := by have := hc4.2; rwa [add_pos _ _ (by omega)] at this
      have hx := hide (List.getElem?_eq_getElem hlt)
      have hxl := HLL.out xs[m] (List.getElem_mem _)
      clear hc0 hc4 h
      generalize xs[m] = x at e0 e1 hx hs4 hxl hl4
      go_wp2_with fail
      refine (toModule_calls A4 c4 x S _ hs4 hxl).mono ?_
      rintro e w1 ⟨v, rfl, HO, hb1⟩
      obtain ⟨A5, c5, hv5, _, _, _⟩ := HO.slV
      subst hv5
      have hblk := (hb1.block _ hlw).trans HC.out
      have hbn := HP.out.1
      have c0 : w1.cell? ⟨w.heap.size, m * 2, none⟩ = some _ := (blk_cell hblk (m * 2)).trans (Array.getElem?_eq_getElem (show m * 2 < cs.size by omega))
      have c1 : w1.cell? ⟨w.heap.size, m * 2 + 1, none⟩ = some _ := (blk_cell hblk (m * 2 + 1)).trans (Array.getElem?_eq_getElem (show m * 2 + 1 < cs.size by omega))
      generalize cs[m * 2]'(by omega) = o0 at c0
      generalize cs[m * 2 + 1]'(by omega) = o1 at c1
      have f0 := blk_free hblk (m * 2)
      have f1 := blk_free hblk (m * 2 + 1)
      have HB1 := below_then HB HB.size hb1
      have hlw1 : w.heap.size < w1.heap.size := by have := hb1.size; omega
      have HBL := hide (blk_set (blk_set hblk (m * 2) (.string x.name)) (m * 2 + 1) (.slice A5 x.lines.length c5))
      have hkeep : ∀ (b : Nat), w.heap.size + 1 ≤ b → ((w1.setCell ⟨w.heap.size, m * 2, none⟩ (.string x.name)).setCell ⟨w.heap.size, m * 2 + 1, none⟩ (.slice A5 x.lines.length c5)).heap[b]? = w1.heap[b]? := fun b hb => by
        simp only [World.setCell]
        repeat rw [Array.getElem?_modify, if_neg (by omega)]
      have HPN := hide (show (set2 cs m (.string x.name) (.slice A5 x.lines.length c5)).size = xs.length * 2 ∧ ∀ q y, q < m + 1 → xs[q]? = some y → ∃ u, Part (set2 cs m (.string x.name) (.slice A5 x.lines.length c5)) 2 q [.string y.name, u] ∧ Own fLine ((w1.setCell ⟨w.heap.size, m * 2, none⟩ (.string x.name)).setCell ⟨w.heap.size, m * 2 + 1, none⟩ (.slice A5 x.lines.length c5)) (w.heap.size + 1) 106 u y.lines from
        ⟨set2_size.trans hbn, fun q y hq hy => by
          have h2 := fun l (hl : l.length ≤ 2) => set2_at (cs := cs) (q := m) (m := q) (a := .string x.name) (b := .slice A5 x.lines.length c5) (by omega) (l := l) hl
          by_cases he : q = m
          · subst he
            rw [hx.out] at hy
            obtain rfl := Option.some.inj hy
            exact ⟨_, (h2 [] (by simp)).1, (HO.more (base' := w.heap.size + 1) (by omega)).same (fun b hb => hkeep b (by have := HO.le hb; omega))⟩
          · obtain ⟨u, hu1, hu2⟩ := HP.out.2 q y (by omega) hy
            exact ⟨u, (h2 _ (by simp)).2 he hu1, (hu2.below hb1).same (fun b hb => hkeep b (hu2.le hb))⟩⟩)
      clear hb1 hblk hbn HB HC HP e0 e1 hlw HO hkeep hs4
      go_wp2_with fail
      go_roundw
      case rel => exact ⟨m + 1, _, by go_num, by omega, HBL, HPN, by (repeat (first | with_reducible exact Below.refl _ _ | with_reducible assumption | with_reducible refine Below.alloc ?_ (by first | exact Nat.le_refl _ | exact Below.size (by assumption) | exact Nat.le_trans (Below.size (by assumption)) (by simp; done) | (simp; done) | (simp; omega) | omega) _ | with_reducible refine below_drewN ?_ _ | with_reducible refine Below.drew ?_ | with_reducible refine Below.setCell ?_ (by first | exact Nat.le_refl _ | (simp; done) | (simp; omega) | omega) _)), by simp [World.setCell]; omega⟩
      case measure => simp [intOf]; omega
    · obtain rfl : m = xs.length := by omega
      have HO : OwnMods wr w.heap.size (.slice (some ⟨w.heap.size, 0, none⟩) xs.length xs.length) xs := ⟨_, cs, rfl, Nat.le_refl _, HC.out, HP.out.1, by unfold maxLen; omega, fun q x hx => by
        obtain ⟨u, h1, h2⟩ := HP.out.2 q x (by
          rcases Nat.lt_or_ge q xs.length with h | h
          · exact h
          · rw [List.getElem?_eq_none h] at hx; simp at hx) hx
        exact ⟨u, h1, h2.more (by omega)⟩⟩
      go_wp2_with fail
      go_ret
      exact ⟨_, rfl, HO, HB⟩

/-- a world of one's own, from base on -/
structure OwnWorld (w : World) (base : Nat) (vR vM vF : Value) (D : WorldD) : Prop where
  R : Own fStr w base 9 vR D.roots
  M : OwnMods w base vM D.mods
  F : Own fInt w base 3 vF D.faults
theorem OwnWorld.below {w w' : World} {base : Nat} {vR vM vF : Value} {D : WorldD} (h : OwnWorld w base vR vM vF D) (hb : Below w.heap.size w w') : OwnWorld w' base vR vM vF D := ⟨h.R.below hb, h.M.below hb, h.F.below hb⟩
theorem OwnWorld.drewN {w : World} {base : Nat} {vR vM vF : Value} {D : WorldD} (h : OwnWorld w base vR vM vF D) (n : Nat) : OwnWorld (w.drewN n) base vR vM vF D := ⟨h.R, h.M, h.F⟩
theorem OwnWorld.wIn {w : World} {base : Nat} {vR vM vF : Value} {D : WorldD} (h : OwnWorld w base vR vM vF D) : WIn w (fun b => base ≤ b) vR vM vF D := ⟨h.R.slV, h.M.slV, h.F.slV⟩

set_option maxRecDepth 100000 in
set_option maxHeartbeats 1000000 in
theorem toWorld_calls (D : WorldD) (vR vM vF : Value) (S : Nat → Prop) (w : World) (h : WIn w S vR vM vF D) (hr : D.roots.length ≤ 1048576) (hm : D.mods.length ≤ 1048576) (hf : D.faults.length ≤ 1048576) (hll : ∀ m ∈ D.mods, m.lines.length ≤ 1048576) :
    Calls Tryz.prog 14 #[.agg #[vR, vM, vF]] w fun e w' => ∃ uR uM uF, e = .returned (.agg #[uR, uM, uF]) ∧ OwnWorld w' w.heap.size uR uM uF D ∧ Below w.heap.size w w' := by
  obtain ⟨⟨A1, c1, rfl, hc1, hd1, hR⟩, ⟨A2, c2, rfl, hc2, hd2, hM⟩, ⟨A3, c3, rfl, hc3, hd3, hF⟩⟩ := h
  have HLL := hide (fun m hm => Nat.le_trans (hll m hm) (show 1048576 ≤ 1073741824 by omega))
  clear hll
  go_enter Tryz.func14, Tryz.ntmps14
  go_wp2_with fail
  generalize hW : (((w.alloc (Obj.cells #[.slice A1 D.roots.length c1, .slice A2 D.mods.length c2, .slice A3 D.faults.length c3] 43)).alloc (Obj.cells #[.slice none 0 0, .slice none 0 0, .slice none 0 0] 27)).alloc (Obj.cells #[.slice none 0 0, .slice none 0 0, .slice none 0 0] 27)) = W
  have hbW : Below w.heap.size w W := by rw [← hW]; (repeat (first | with_reducible exact Below.refl _ _ | with_reducible assumption | with_reducible refine Below.alloc ?_ (by first | exact Nat.le_refl _ | exact Below.size (by assumption) | exact Nat.le_trans (Below.size (by assumption)) (by simp; done) | (simp; done) | (simp; omega) | omega) _ | with_reducible refine below_drewN ?_ _ | with_reducible refine Below.drew ?_ | with_reducible refine Below.setCell ?_ (by first | exact Nat.le_refl _ | (simp; done) | (simp; omega) | omega) _))
  have hzW : W.heap.size = w.heap.size + 3 := by rw [← hW]; simp
  have hbx : W.heap[w.heap.size]? = some (Obj.cells #[.slice A1 D.roots.length c1, .slice A2 D.mods.length c2, .slice A3 D.faults.length c3] 43 (0, 0)) := by
    rw [← hW, alloc_old _ _ (by simp; omega), alloc_old _ _ (by simp)]
    exact heap_alloc_new w _
  have hr : W.heap[w.heap.size + 1]? = some (Obj.cells #[.slice none 0 0, .slice none 0 0, .slice none 0 0] 27 (0, 0)) := by
    rw [← hW, alloc_old _ _ (by simp)]
    have := heap_alloc_new (w.alloc (Obj.cells #[.slice A1 D.roots.length c1, .slice A2 D.mods.length c2, .slice A3 D.faults.length c3] 43)) (Obj.cells #[.slice none 0 0, .slice none 0 0, .slice none 0 0] 27)
    simpa using this
  have hr2 : W.heap[w.heap.size + 2]? = some (Obj.cells #[.slice none 0 0, .slice none 0 0, .slice none 0 0] 27 (0, 0)) := by
    rw [← hW]
    have := heap_alloc_new ((w.alloc (Obj.cells #[.slice A1 D.roots.length c1, .slice A2 D.mods.length c2, .slice A3 D.faults.length c3] 43)).alloc (Obj.cells #[.slice none 0 0, .slice none 0 0, .slice none 0 0] 27)) (Obj.cells #[.slice none 0 0, .slice none 0 0, .slice none 0 0] 27)
    simpa using this
  have HBX := hide hbx
  have HR := hide hr
  have HR2 := hide hr2
  clear hW hr hr2 hbx
  refine (toStringS_calls A1 c1 D.roots.length D.roots S W (hR.below hbW) rfl (by omega)).mono ?_
  rintro e w1 ⟨v1, rfl, O1, hb1⟩
  obtain ⟨A5, c5, hv5, _, _, _⟩ := O1.slV
  subst hv5
  have HB1 := below_then hbW hbW.size hb1
  have z1 := hb1.size
  have b0 := (hb1.block _ (by omega)).trans HBX.out
  have b2 := (hb1.block _ (by omega)).trans HR2.out
  have k1 : w1.cell? ⟨w.heap.size, 1, none⟩ = some _ := blk_cell b0 1
  have q0 : w1.cell? ⟨w.heap.size + 2, 0, none⟩ = some _ := blk_cell b2 0
  have g0 := blk_free b2 0
  have HR' := hide ((hb1.block _ (by omega)).trans HR.out)
  have HBX' := hide b0
  have HR2' := hide b2
  clear hb1 b0 b2 HR HBX HR2
  go_wp2_with fail
  generalize hW2 : w1.setCell ⟨w.heap.size + 2, 0, none⟩ (.slice A5 D.roots.length c5) = W2
  have hg : w1.grownBy W2 (some (w.heap.size + 2)) := by rw [← hW2]; exact ⟨rfl, rfl, rfl, by simp [World.setCell], fun b hb hn => Below.heap_setCell _ _ _ b (fun e => hn (by rw [e]))⟩
  have hB2 : Below w.heap.size w W2 := HB1.grown hg HB1.size (fun b hb => by injection hb with hb; omega)
  have O1' := O1.kept hg (.inr (fun e => by have := O1.le e; omega))
  have b2 := blk_set HR2'.out 0 (.slice A5 D.roots.length c5)
  rw [hW2] at b2
  have b0 := (hg.block w.heap.size (by omega) (by simp)).trans HBX'.out
  have b1 := (hg.block (w.heap.size + 1) (by omega) (by simp)).trans HR'.out
  have z2 := hg.size
  have HBX := hide b0
  have HR := hide b1
  have HR2 := hide b2
  clear hW2 hg b0 b1 b2 HBX' HR' HR2' O1 HB1 k1 q0 g0
  refine (toModuleS_calls A2 c2 D.mods.length D.mods S W2 (hM.below hB2) rfl (by omega) HLL.out).mono ?_
  rintro e w3 ⟨v3, rfl, O3, hb3⟩
  obtain ⟨A6, c6, hv6, _, _, _⟩ := O3.slV
  subst hv6
  have HB3 := below_then hB2 hB2.size hb3
  have z3 := hb3.size
  have O1 := O1'.below hb3
  have b0 := (hb3.block _ (by omega)).trans HBX.out
  have b2 := (hb3.block _ (by omega)).trans HR2.out
  have k2 : w3.cell? ⟨w.heap.size, 2, none⟩ = some _ := blk_cell b0 2
  have q1 : w3.cell? ⟨w.heap.size + 2, 1, none⟩ = some _ := blk_cell b2 1
  have g1 := blk_free b2 1
  have HR' := hide ((hb3.block _ (by omega)).trans HR.out)
  have HR2' := hide b2
  clear hb3 b0 b2 HR HBX HR2 O1'
  go_wp2_with fail
  generalize hW4 : w3.setCell ⟨w.heap.size + 2, 1, none⟩ (.slice A6 D.mods.length c6) = W4
  have hg : w3.grownBy W4 (some (w.heap.size + 2)) := by rw [← hW4]; exact ⟨rfl, rfl, rfl, by simp [World.setCell], fun b hb hn => Below.heap_setCell _ _ _ b (fun e => hn (by rw [e]))⟩
  have hB4 : Below w.heap.size w W4 := HB3.grown hg HB3.size (fun b hb => by injection hb with hb; omega)
  have O1' := O1.kept hg (.inr (fun e => by have := O1.le e; omega))
  have O3' := O3.kept hg (by omega)
  have b2 := blk_set HR2'.out 1 (.slice A6 D.mods.length c6)
  rw [hW4] at b2
  have b1 := (hg.block (w.heap.size + 1) (by omega) (by simp)).trans HR'.out
  have z4 := hg.size
  have HR := hide b1
  have HR2 := hide b2
  clear hW4 hg b1 b2 HR' HR2' O1 O3 HB3 k2 q1 g1
  refine (toIntS_calls A3 c3 D.faults.length D.faults S W4 (hF.below hB4) rfl (by omega)).mono ?_
  rintro e w5 ⟨v5, rfl, O5, hb5⟩
  obtain ⟨A7, c7, hv7, _, _, _⟩ := O5.slV
  subst hv7
  have HB5 := below_then hB4 hB4.size hb5
  have z5 := hb5.size
  have O1 := O1'.below hb5
  have O3 := O3'.below hb5
  have b2 := (hb5.block _ (by omega)).trans HR2.out
  have b1 := (hb5.block _ (by omega)).trans HR.out
  have q0 : w5.cell? ⟨w.heap.size + 2, 0, none⟩ = some _ := blk_cell b2 0
  have q1 : w5.cell? ⟨w.heap.size + 2, 1, none⟩ = some _ := blk_cell b2 1
  have q2 : w5.cell? ⟨w.heap.size + 2, 2, none⟩ = some _ := blk_cell b2 2
  have g2 := blk_free b2 2
  have r0 : w5.cell? ⟨w.heap.size + 1, 0, none⟩ = some _ := blk_cell b1 0
  have r1 : w5.cell? ⟨w.heap.size + 1, 1, none⟩ = some _ := blk_cell b1 1
  have r2 : w5.cell? ⟨w.heap.size + 1, 2, none⟩ = some _ := blk_cell b1 2
  have f0 := blk_free b1 0
  have f1 := blk_free b1 1
  have f2 := blk_free b1 2
  clear hb5 b1 b2 HR HR2 O1' O3'
  go_wp2_with fail
  refine bodyPost_ret (v := .agg #[.slice A5 D.roots.length c5, .slice A6 D.mods.length c6, .slice A7 D.faults.length c7]) (by simp [results, Tryz.results14, go_sem, r0, r1, r2]) rfl ⟨_, _, _, rfl, ?_, by (repeat (first | with_reducible exact Below.refl _ _ | with_reducible assumption | with_reducible refine Below.alloc ?_ (by first | exact Nat.le_refl _ | exact Below.size (by assumption) | exact Nat.le_trans (Below.size (by assumption)) (by simp; done) | (simp; done) | (simp; omega) | omega) _ | with_reducible refine below_drewN ?_ _ | with_reducible refine Below.drew ?_ | with_reducible refine Below.setCell ?_ (by first | exact Nat.le_refl _ | (simp; done) | (simp; omega) | omega) _))⟩
  have hsame : ∀ (W : World) (b i : Nat) (u : Value), b ≠ w.heap.size + 1 → b ≠ w.heap.size + 2 → True := fun _ _ _ _ _ _ => trivial
  have hk : ∀ b, w.heap.size + 3 ≤ b → ((((w5.setCell ⟨w.heap.size + 2, 2, none⟩ (.slice A7 D.faults.length c7)).setCell ⟨w.heap.size + 1, 0, none⟩ (.slice A5 D.roots.length c5)).setCell ⟨w.heap.size + 1, 1, none⟩ (.slice A6 D.mods.length c6)).setCell ⟨w.heap.size + 1, 2, none⟩ (.slice A7 D.faults.length c7)).heap[b]? = w5.heap[b]? := fun b hb => by
    simp only [World.setCell]
    repeat rw [Array.getElem?_modify, if_neg (by omega)]
  exact ⟨(O1.more (by omega)).same (fun b hb => hk b (by have := O1.le hb; omega)), (O3.same' (fun b hb => hk b (by omega))).more (by omega), (O5.more (by omega)).same (fun b hb => hk b (by have := O5.le hb; omega))⟩
end Go.Proofs.YtkhlicmlnjccdaaGreatDoor
