/-
  Walks: the program's shortest ring.
-/
import Derived.Test.YtkhlicmlnjccdaaDoorKorder6
import Derived.Test.YtkhlicmlnjccdaaDoorKorder8
import Derived.Test.YtkhlicmlnjccdaaDoorKd1
import Derived.Lib.SliceRun
namespace Go.Proofs.YtkhlicmlnjccdaaDoor
open Go.RowKit Mem Go.Maps Go.ChangeMaps Go.WideMaps

theorem zero_int8 : ∀ w : World, (zeroValue 3).run Tryd.prog w = .ok (.int .i64 0) w := fun _ => by kernel_rfl
theorem look_int8 {n : Nat} (h : n ≤ 400) : keyOf Tryd.prog 3 (.int .i64 (n : Int)) = some (.int .i64 (n : Int)) := keyOf_int_mk Tryd.underlying3 (by
  simp only [Lit.wf, Bool.and_eq_true, decide_eq_true_eq]
  have h1 : IntKind.i64.min = -9223372036854775808 := by decide +kernel
  have h2 : IntKind.i64.max = 9223372036854775807 := by decide +kernel
  rw [h1, h2]
  omega)
/-- what the map of a search from k holds -/
def mfr (k : Nat) (s : Gr.BS) (y : Nat) : Option Value := if y = k then some (.int .i64 (-1)) else (s.fr y).map fun p : Nat => Value.int .i64 (p : Int)
structure QAt (w : World) (mb k : Nat) (vq : Value) (n : Nat) (f : Lit → Option Value) (s : Gr.BS) : Prop where
  map : MapIs w Tryd.prog 3 mb n f
  fit : ∀ y : Nat, f (.int .i64 (y : Int)) = mfr k s y
  n : n ≤ s.q.length
  q : Own fInt w (mb + 1) 3 vq (nI s.q)
def QIs (w : World) (mb k : Nat) (vq : Value) (s : Gr.BS) : Prop := ∃ n f, QAt w mb k vq n f s
theorem QIs.below {w w' : World} {mb k : Nat} {vq : Value} {s : Gr.BS} (h : QIs w mb k vq s) (hb : Below w.heap.size w w') : QIs w' mb k vq s := by
  obtain ⟨n, f, h⟩ := h
  exact ⟨n, f, h.map.below hb, h.fit, h.n, h.q.below hb⟩
theorem QIs.drewN {w : World} {mb k : Nat} {vq : Value} {s : Gr.BS} (h : QIs w mb k vq s) (m : Nat) : QIs (w.drewN m) mb k vq s := h.below (below_drewN (Below.refl _ _) m)
theorem QAt.met {w1 : World} {mb k cnt d x : Nat} {v1 : Value} {f : Lit → Option Value} {s : Gr.BS} (hm : MapIs w1 Tryd.prog 3 mb (cnt + 1) (put f (.int .i64 (d : Int)) (.int .i64 (x : Int)))) (hf : ∀ y : Nat, f (.int .i64 (y : Int)) = mfr k s y) (hn : cnt ≤ s.q.length) (hdk : d ≠ k)
    (ho : Own fInt w1 (mb + 1) 3 v1 (nI s.q ++ [(d : Int)])) : QIs w1 mb k v1 (s.met d x) := by
  refine ⟨cnt + 1, _, hm, fun y => ?_, by simp [Gr.BS.met]; omega, by simpa [nI, Gr.BS.met] using ho⟩
  by_cases hy : y = d
  · subst hy
    rw [put_same _ (kl := .int .i64 (y : Int)) trivial _]
    unfold mfr
    rw [if_neg hdk]
    show _ = Option.map _ (if y = y then some x else s.fr y)
    rw [if_pos rfl]; rfl
  · rw [put_other _ _ (fun e => hy (by injection e with _ e; omega)), hf y]
    unfold mfr
    by_cases hk : y = k
    · rw [if_pos hk, if_pos hk]
    · rw [if_neg hk, if_neg hk]
      show _ = Option.map _ (if y = d then some x else s.fr y)
      rw [if_neg hy]
/-- the best ring's names -/
def BestIs (w : World) (B : Nat) (v : Value) (D : WorldD) (l : List Nat) : Prop := (l = [] ∧ v = .slice none 0 0) ∨ (l ≠ [] ∧ Own fStr w B 9 v (l.map (Gr.nameAt D)))
theorem BestIs.below {w w' : World} {B : Nat} {v : Value} {D : WorldD} {l : List Nat} (h : BestIs w B v D l) (hb : Below w.heap.size w w') : BestIs w' B v D l := by
  rcases h with h | ⟨h1, h2⟩
  · exact .inl h
  · exact .inr ⟨h1, h2.below hb⟩
theorem BestIs.own {w : World} {B : Nat} {v : Value} {D : WorldD} {l : List Nat} (h : BestIs w B v D l) : Own fStr w B 9 v (l.map (Gr.nameAt D)) := by
  rcases h with ⟨rfl, rfl⟩ | ⟨_, h2⟩
  · exact Own.nil _ _ _
  · exact h2

set_option maxRecDepth 100000 in
set_option maxHeartbeats 8000000 in
theorem iShortestRing_calls (D : WorldD) (vR vM vF : Value) (S : Nat → Prop) (w : World) (h : WIn w S vR vM vF D) (hz : WSz D) (hml : ML w) :
    Calls Tryd.prog 37 #[.agg #[vR, vM, vF]] w (RetOwn fStr w 9 (Gr.shortest D)) := by
  obtain ⟨⟨A1, c1, rfl, hc1, hd1, hR⟩, ⟨A2, c2, rfl, hc2, hd2, hM⟩, ⟨A3, c3, rfl, _, _, _⟩⟩ := id h
  have hb0 : Below w.heap.size w (w.alloc (Obj.cells #[.slice A1 D.roots.length c1, .slice A2 D.mods.length c2, .slice A3 D.faults.length c3] 46)) := by (repeat (first | with_reducible exact Below.refl _ _ | with_reducible assumption | with_reducible refine Below.alloc ?_ (by first | exact Nat.le_refl _ | exact Below.size (by assumption) | exact Nat.le_trans (Below.size (by assumption)) (by simp; done) | (simp; done) | (simp; omega) | omega) _ | with_reducible refine below_drewN ?_ _ | with_reducible refine Below.drew ?_ | with_reducible refine Below.setCell ?_ (by first | exact Nat.le_refl _ | (simp; done) | (simp; omega) | omega) _))
  have hblk := heap_alloc_new w (Obj.cells #[.slice A1 D.roots.length c1, .slice A2 D.mods.length c2, .slice A3 D.faults.length c3] 46)
  have hsz := (show w.heap.size < (w.alloc (Obj.cells #[.slice A1 D.roots.length c1, .slice A2 D.mods.length c2, .slice A3 D.faults.length c3] 46)).heap.size by simp)
  have hok := iWorldOk_calls D _ _ _ S _ (h.below hb0) hz (hml.below hb0)
  have hwg := wr_guard
  by_cases h0 : (Wd.worldOk D).1 = 0
  · rw [Wd.worldOk_zero_of h0] at hok
    have hne := wr_zero
    have hwk := Wd.wok_of h0
    have hlm : D.mods.length ≤ 60 := hwk.mods
    have hlmI : (D.mods.length : Int) ≤ 60 := by omega
    have hed := fun (W : World) (hb : Below w.heap.size w W) => iEdges_calls D _ _ _ S W (h.below hb) hz (hml.below hb)
    have hEl := Gr.edges_len (D := D)
    have HF := hide (fun e he => Gr.edges_fit (D := D) (e := e) he)
    have hsh : Gr.shortest D = (Gr.bestUp (Gr.edges D) D.mods.length D.mods.length).map (Gr.nameAt D) := rfl
    generalize Gr.edges D = E at hed hEl HF hsh
    generalize Gr.shortest D = res at hsh ⊢
    have HSH := hide hsh
    have HED := hide hed
    have HOK := hide hok
    have HBK := hide hblk
    have hElI : (E.length : Int) ≤ 3600 := by omega
    have hmm := @run_makeMap Tryd.prog
    clear hok hwk hblk h0 hed hsh
    go_enter Tryd.func37, Tryd.ntmps37
    go_wp2_with fail
    refine HOK.out.mono ?_
    rintro e w0 ⟨rfl, hb1⟩
    have HB0 := below_then hb0 hb0.size hb1
    have hbk1 := (hb1.block _ hsz).trans HBK.out
    have hz1 : w.heap.size < w0.heap.size := Nat.lt_of_lt_of_le hsz hb1.size
    have k0 : w0.cell? ⟨w.heap.size, 0, none⟩ = some (.slice A1 D.roots.length c1) := blk_cell hbk1 0
    have k1 : w0.cell? ⟨w.heap.size, 1, none⟩ = some (.slice A2 D.mods.length c2) := blk_cell hbk1 1
    have k2 : w0.cell? ⟨w.heap.size, 2, none⟩ = some (.slice A3 D.faults.length c3) := blk_cell hbk1 2
    have HBK1 := hide hbk1
    clear HOK hb1 hbk1 HBK
    go_wp2_with fail
    refine (HED.out w0 HB0).mono ?_
    rintro e w1 ⟨vE, rfl, hoE, hb2⟩
    obtain ⟨AE, cE, hvE, _, _, _⟩ := hoE.slV
    subst hvE
    have HB1 := below_then HB0 HB0.size hb2
    have hbk2 := (hb2.block _ hz1).trans HBK1.out
    have hz2 : w.heap.size < w1.heap.size := Nat.lt_of_lt_of_le hz1 hb2.size
    have k1 : w1.cell? ⟨w.heap.size, 1, none⟩ = some (.slice A2 D.mods.length c2) := blk_cell hbk2 1
    have HBK2 := hide hbk2
    have HES := hide (hoE.sl.old.more (T := fun b => b < w1.heap.size) (fun b hb => hb.2))
    clear hb2 hbk2 HBK1 k0 k2 hne hwg hoE HED
    go_wp2_with fail
    clear k1
    go_loopw [4, 25] (fun v4 v25 wr => ∃ k : Nat, v25 = .int .i64 k ∧ k ≤ D.mods.length ∧ Hid (BestIs wr w1.heap.size v4 D (Gr.bestUp E D.mods.length k)) ∧ Below w1.heap.size w1 wr) (fun _ i _ => D.mods.length - (intOf i).toNat)
    case atStart => exact ⟨0, rfl, by omega, hide (.inl ⟨rfl, rfl⟩), Below.refl _ _⟩
    case round =>
      obtain ⟨k, rfl, hk, HO, HB⟩ := hrel
      have HBB := below_then HB1 HB1.size HB
      have hbk := (HB.block _ hz2).trans HBK2.out
      by_cases hlt : k < D.mods.length
      · have hsucc := hide (Gr.bestUp_succ E D.mods.length k)
        have hkI : (k : Int) < D.mods.length := by omega
        have hmade := MapIs.made wr Tryd.prog 3
        obtain ⟨wm, hins, hmm1, hmg⟩ := hmade.update (int_keyed Tryd.underlying3) (t := 109) Tryd.underlying109 (by unfold maxLen; omega) (look_int8 (n := k) (by omega)) (val := .int .i64 (-1)) trivial
        have hbm : Below wr.heap.size wr wm := (show Below wr.heap.size wr (wr.alloc (.map #[] 0)) by (repeat (first | with_reducible exact Below.refl _ _ | with_reducible assumption | with_reducible refine Below.alloc ?_ (by first | exact Nat.le_refl _ | exact Below.size (by assumption) | exact Nat.le_trans (Below.size (by assumption)) (by simp; done) | (simp; done) | (simp; omega) | omega) _ | with_reducible refine below_drewN ?_ _ | with_reducible refine Below.drew ?_ | with_reducible refine Below.setCell ?_ (by first | exact Nat.le_refl _ | (simp; done) | (simp; omega) | omega) _))).grown hmg (by simp) (fun b e => by injection e with e; omega)
        have hmbl : wr.heap.size < wm.heap.size := hmm1.lt
        have hq1 := Own.one (k := fInt) wm (wr.heap.size + 1) 3 (k : Int) #[.int .i64 k] rfl (by omega)
        have hbQ : Below wm.heap.size wm (wm.alloc (Obj.cells #[.int .i64 k] 3)) := by (repeat (first | with_reducible exact Below.refl _ _ | with_reducible assumption | with_reducible refine Below.alloc ?_ (by first | exact Nat.le_refl _ | exact Below.size (by assumption) | exact Nat.le_trans (Below.size (by assumption)) (by simp; done) | (simp; done) | (simp; omega) | omega) _ | with_reducible refine below_drewN ?_ _ | with_reducible refine Below.drew ?_ | with_reducible refine Below.setCell ?_ (by first | exact Nat.le_refl _ | (simp; done) | (simp; omega) | omega) _))
        have HBQ := hide (below_then hbm hbm.size hbQ)
        have HQ0 := hide (show QIs (wm.alloc (Obj.cells #[.int .i64 k] 3)) wr.heap.size k (.slice (some ⟨wm.heap.size, 0, none⟩) 1 1) ⟨[k], fun _ => none⟩ from
          ⟨1, _, (hmm1.more (by omega)).below hbQ, fun y => by
            unfold mfr
            by_cases hy : y = k
            · subst hy
              rw [put_same _ (kl := .int .i64 (y : Int)) trivial _, if_pos rfl]
            · rw [put_other _ _ (fun e => hy (by injection e with _ e; omega)), if_neg hy]; rfl, by simp, by simpa [nI] using hq1⟩)
        have HBO := hide (Gr.BOk.start (n := D.mods.length) hlt)
        have HBKr := hide hbk
        have hzr : w.heap.size < wr.heap.size := Nat.lt_of_lt_of_le hz2 HB.size
        clear hmade hmm1 hmg hq1 hbQ hbm hbk
        go_upto_region 10 with fail
        generalize wm.alloc (Obj.cells #[.int .i64 k] 3) = W1 at HBQ HQ0 ⊢
        have hbQ := HBQ.out
        clear HBQ hins
        obtain ⟨wk, rfl⟩ : ∃ wk : World, wk = wr := ⟨_, rfl⟩
        go_wp2_with fail
        have hstart := hide (show Gr.bfs k E D.mods.length 0 ⟨[k], fun _ => none⟩ = Gr.bfs k E (D.mods.length - 0) 0 ⟨[k], fun _ => none⟩ from rfl)
        go_loopw [7, 8, 9] (fun v7 v8 v9 wx => ∃ (i : Nat) (s : Gr.BS), v9 = .int .i64 i ∧ i ≤ D.mods.length ∧ Hid (QIs wx wk.heap.size k v7 s) ∧ Hid (Gr.BOk D.mods.length k s) ∧ ((v8 = .int .i64 (-1) ∧ i ≤ s.q.length ∧ Hid (Gr.bfs k E D.mods.length 0 ⟨[k], fun _ => none⟩ = Gr.bfs k E (D.mods.length - i) i s)) ∨ (∃ x j : Nat, v8 = .int .i64 x ∧ Hid (Gr.bfs k E D.mods.length 0 ⟨[k], fun _ => none⟩ = (some x, s)) ∧ Hid (s.q[j]? = some x))) ∧ Below wk.heap.size wk wx) (fun _ _ i _ => D.mods.length - (intOf i).toNat)
        case atStart => exact ⟨0, _, rfl, by omega, HQ0, HBO, .inl ⟨rfl, Nat.zero_le _, hstart⟩, hbQ⟩
        case round =>
          clear HQ0 HBO hstart hbQ
          obtain ⟨i, s, rfl, hi, HQ, HOk, hcase, HX⟩ := hrel
          have HXX := below_then HBB HBB.size HX
          obtain ⟨nq0, f, hQ⟩ := HQ.out
          obtain ⟨Aq, cq, hvq, _, _, _⟩ := hQ.q.slV
          rw [nI_len] at hvq
          subst hvq
          have hql := HOk.out.len
          have hqlI : (s.q.length : Int) ≤ 60 := by omega
          clear hQ
          rcases hcase with ⟨rfl, hiq0, HS⟩ | ⟨x, jx, rfl, HS, HJ⟩
          · by_cases hiq : i < s.q.length
            · obtain ⟨x, hx⟩ : ∃ x, s.q[i]? = some x := ⟨_, List.getElem?_eq_getElem hiq⟩
              have hxn := HOk.out.lt x (List.mem_of_getElem? hx)
              have hstep := HS.out
              rw [show D.mods.length - i = (D.mods.length - (i + 1)) + 1 by omega, Gr.bfs_step hx] at hstep
              have HST := hide hstep
              have HX0 := hide hx
              have hscan := hide (show Gr.scan k x E s = Gr.scan k x (E.drop 0) s from rfl)
              have hi1 : i + 1 ≤ D.mods.length := by omega
              clear hstep hx HS
              go_wp2_with fail
              go_loopw [7, 8, 45] (fun v7 v8 v45 wx => ∃ (j : Nat) (s' : Gr.BS), v8 = .int .i64 (-1) ∧ v45 = .int .i64 j ∧ j ≤ E.length ∧ Hid (QIs wx wk.heap.size k v7 s') ∧ Hid (Gr.BOk D.mods.length k s') ∧ Hid (Gr.scan k x E s = Gr.scan k x (E.drop j) s') ∧ Hid (s'.q[i]? = some x) ∧ Below wk.heap.size wk wx) (fun _ _ j _ => E.length - (intOf j).toNat)
              case atStart => exact ⟨0, s, rfl, rfl, Nat.zero_le _, HQ, HOk, hscan, HX0, HX⟩
              case round =>
                clear HQ HOk hscan HX0 HX HXX hiq hql hqlI hiq0
                obtain ⟨j, s', rfl, rfl, hj, HQ, HOk, HSC, HXq, HX⟩ := hrel
                have HXX := below_then HB HB.size HX
                obtain ⟨nq0, f, hQ⟩ := HQ.out
                obtain ⟨Aq, cq, hvq, _, _, _⟩ := hQ.q.slV
                rw [nI_len] at hvq
                subst hvq
                have hql := HOk.out.len
                have hqlI : (s'.q.length : Int) ≤ 60 := by omega
                have hiq : i < s'.q.length := by
                  rcases Nat.lt_or_ge i s'.q.length with h1 | h1
                  · exact h1
                  · have := HXq.out; rw [List.getElem?_eq_none h1] at this; simp at this
                have hiqI : (i : Int) < s'.q.length := by omega
                by_cases hltj : j < E.length
                · obtain ⟨ad, hA, l0, l1, l2⟩ := (HES.out.same (fun b hb => HXX.block b hb)).get hltj
                  subst hA
                  have e0 : wr.cell? (ad.add (j * 3)) = some (.int .i64 E[j].src) := l0.2
                  have e1 : wr.cell? ⟨(ad.add (j * 3)).block, (ad.add (j * 3)).off + 1, none⟩ = some (.int .i64 E[j].line) := by have := l1.2; rwa [add_pos _ _ (by omega)] at this
                  have e2 : wr.cell? ⟨(ad.add (j * 3)).block, (ad.add (j * 3)).off + 2, none⟩ = some (.int .i64 E[j].dst) := by have := l2.2; rwa [add_pos _ _ (by omega)] at this
                  have hod := Gr.scan_drop (k := k) (x := x) (s := s') (List.getElem?_eq_getElem hltj)
                  have hfit := HF.out _ (List.getElem_mem hltj)
                  clear l0 l1 l2
                  generalize E[j] = ed at e0 e1 e2 hod hfit
                  obtain ⟨xs, xl, xd⟩ := ed
                  have hd1 : xd < (D.mods.length : Int) := hfit.dst1
                  replace e0 : wr.cell? (ad.add (j * 3)) = some (.int .i64 xs) := e0
                  replace e1 : wr.cell? ⟨(ad.add (j * 3)).block, (ad.add (j * 3)).off + 1, none⟩ = some (.int .i64 xl) := e1
                  replace e2 : wr.cell? ⟨(ad.add (j * 3)).block, (ad.add (j * 3)).off + 2, none⟩ = some (.int .i64 xd) := e2
                  replace hod : Gr.scan k x (E.drop j) s' = if xs = x ∧ 0 ≤ xd then (if xd = k then (true, s') else Gr.scan k x (E.drop (j + 1)) (if (s'.fr xd.toNat).isSome = true then s' else s'.met xd.toNat x)) else Gr.scan k x (E.drop (j + 1)) s' := hod
                  obtain ⟨adq, hAq, hqc⟩ := hQ.q.sl.get (i := i) (by rw [nI_len]; exact hiq)
                  subst hAq
                  have hqv : (nI s'.q)[i]'(by rw [nI_len]; exact hiq) = (x : Int) := by
                    have := nI_get HXq.out
                    rw [List.getElem?_eq_getElem (by rw [nI_len]; exact hiq)] at this
                    exact Option.some.inj this
                  have qx : wr.cell? (adq.add i) = some (.int .i64 x) := by
                    have h2 := hqc.2
                    rw [hqv] at h2
                    simpa [fInt, kInt] using h2
                  have hqb : adq.block < wr.heap.size := by have := World.block_lt_of_cell? _ _ qx; rwa [block_add] at this
                  have hbW : Below wr.heap.size wr (wr.alloc (Obj.cells #[.int .i64 xs, .int .i64 xl, .int .i64 xd] 78)) := by (repeat (first | with_reducible exact Below.refl _ _ | with_reducible assumption | with_reducible refine Below.alloc ?_ (by first | exact Nat.le_refl _ | exact Below.size (by assumption) | exact Nat.le_trans (Below.size (by assumption)) (by simp; done) | (simp; done) | (simp; omega) | omega) _ | with_reducible refine below_drewN ?_ _ | with_reducible refine Below.drew ?_ | with_reducible refine Below.setCell ?_ (by first | exact Nat.le_refl _ | (simp; done) | (simp; omega) | omega) _))
                  have hnW := heap_alloc_new wr (Obj.cells #[.int .i64 xs, .int .i64 xl, .int .i64 xd] 78)
                  go_upto_region 17 with fail
                  generalize wr.alloc (Obj.cells #[.int .i64 xs, .int .i64 xl, .int .i64 xd] 78) = WL at hbW hnW ⊢
                  have n0 : WL.cell? ⟨wr.heap.size, 0, none⟩ = some (.int .i64 xs) := blk_cell hnW 0
                  have n2 : WL.cell? ⟨wr.heap.size, 2, none⟩ = some (.int .i64 xd) := blk_cell hnW 2
                  have qx : WL.cell? (adq.add i) = some (.int .i64 x) := (hbW.cell (by rw [block_add]; exact hqb)).trans qx
                  have HQL := hide (HQ.out.below hbW)
                  have hkr : wk.heap.size < wr.heap.size := hQ.map.lt
                  have HXL := below_then HX HX.size hbW
                  clear hbW hnW e0 e1 e2 hqc hqv hQ HQ HX HXX hfit
                  by_cases hc : xs = x ∧ 0 ≤ xd
                  · rw [if_pos hc] at hod
                    obtain ⟨rfl, h0⟩ := hc
                    obtain ⟨d, rfl⟩ : ∃ d : Nat, xd = d := ⟨xd.toNat, by omega⟩
                    rw [Int.toNat_natCast] at hod
                    have hks : ((x : Int) != x) = false := by simp
                    by_cases hdk : d = k
                    · subst hdk
                      rw [if_pos rfl] at hod
                      have hdkb : ((d : Int) == d) = true := by simp
                      have HFD := hide (show Gr.bfs d E D.mods.length 0 ⟨[d], fun _ => none⟩ = (some x, s') by
                        have h1 := HSC.out.trans hod
                        have h2 := HST.out
                        rw [h1] at h2
                        exact h2)
                      clear hod HSC HST
                      go_quiet (fail)
                      go_wp2_with fail
                      go_roundw
                      case rel => exact ⟨i + 1, s', by go_num, by omega, hide (HQL.out.drewN _), HOk, .inr ⟨x, i, rfl, HFD, HXq⟩, by (repeat (first | with_reducible exact Below.refl _ _ | with_reducible assumption | with_reducible refine Below.alloc ?_ (by first | exact Nat.le_refl _ | exact Below.size (by assumption) | exact Nat.le_trans (Below.size (by assumption)) (by simp; done) | (simp; done) | (simp; omega) | omega) _ | with_reducible refine below_drewN ?_ _ | with_reducible refine Below.drew ?_ | with_reducible refine Below.setCell ?_ (by first | exact Nat.le_refl _ | (simp; done) | (simp; omega) | omega) _))⟩
                      case measure => simp [intOf]; omega
                    · rw [if_neg (by omega)] at hod
                      have hdkb : ((d : Int) == k) = false := by simpa using (by omega : ¬ ((d : Int) = k))
                      have hdI : (d : Int) < D.mods.length := by omega
                      obtain ⟨cnt, f, hQL⟩ := HQL.out
                      have hlk := fun m : Nat => (hQL.map.drewN m).look_ok (int_keyed Tryd.underlying3) (t := 109) Tryd.underlying109 (zero_int8 _) (look_int8 (n := d) (by omega)) trivial
                      have hfd := hQL.fit d
                      unfold mfr at hfd
                      rw [if_neg hdk] at hfd
                      rw [hfd] at hlk
                      cases hfr : s'.fr d with
                      | some p =>
                        rw [hfr] at hod hlk
                        have HOD := hide (show Gr.scan k x E s = Gr.scan k x (E.drop (j + 1)) s' from HSC.out.trans (hod.trans (by simp)))
                        replace hlk : ∀ m : Nat, (Instr.lookup 109 (.map (some wk.heap.size)) (.int .i64 (d : Int)) true).run Tryd.prog (WL.drewN m) = .ok (.tuple #[.int .i64 (p : Int), .bool true]) (WL.drewN m) := hlk
                        clear hod HSC hfr hfd hQL
                        go_quiet (fail)
                        go_wp2_with fail
                        go_roundw
                        case rel => exact ⟨j + 1, s', rfl, by go_num, by omega, hide (HQL.out.drewN _), HOk, HOD, HXq, by (repeat (first | with_reducible exact Below.refl _ _ | with_reducible assumption | with_reducible refine Below.alloc ?_ (by first | exact Nat.le_refl _ | exact Below.size (by assumption) | exact Nat.le_trans (Below.size (by assumption)) (by simp; done) | (simp; done) | (simp; omega) | omega) _ | with_reducible refine below_drewN ?_ _ | with_reducible refine Below.drew ?_ | with_reducible refine Below.setCell ?_ (by first | exact Nat.le_refl _ | (simp; done) | (simp; omega) | omega) _))⟩
                        case measure => simp [intOf]; omega
                      | none =>
                        rw [hfr] at hod hlk
                        have HOD := hide (show Gr.scan k x E s = Gr.scan k x (E.drop (j + 1)) (s'.met d x) from HSC.out.trans (hod.trans (by simp)))
                        replace hlk : ∀ m : Nat, (Instr.lookup 109 (.map (some wk.heap.size)) (.int .i64 (d : Int)) true).run Tryd.prog (WL.drewN m) = .ok (.tuple #[.int .i64 0, .bool false]) (WL.drewN m) := hlk
                        have HBK := hide (HOk.out.met (x := d) (by omega) (by omega) (by rw [hfr]; rfl) HXq.out)
                        have HXM := hide (Gr.met_q (x := d) (p := x) HXq.out)
                        have HQL2 := hide hQL
                        have hmpl := hQL.map.lt
                        clear hod HSC hfr hfd hQL
                        go_quiet (fail)
                        go_upto_region 22 with fail
                        obtain ⟨w5, hup, hm5, hg5⟩ := (HQL2.out.map.drewN (nq + 1)).update (int_keyed Tryd.underlying3) (t := 109) Tryd.underlying109 (by have := HQL2.out.n; unfold maxLen; omega) (look_int8 (n := d) (by omega)) (val := .int .i64 (x : Int)) trivial
                        have m2 : w5.cell? ⟨wr.heap.size, 2, none⟩ = some (.int .i64 d) := hg5.cell (a := ⟨wr.heap.size, 2, none⟩) n2 (by simp; omega)
                        have hown5 : Own fInt w5 (wk.heap.size + 1) 3 (.slice (some adq) s'.q.length cq) (nI s'.q) := (show Own fInt (WL.drewN (nq + 1)) (wk.heap.size + 1) 3 (.slice (some adq) s'.q.length cq) (nI s'.q) from HQL2.out.q).kept hg5 (by
                          cases he : (Value.slice (some adq) s'.q.length cq).ownBlock with
                          | none => exact .inl rfl
                          | some b => exact .inr (fun e => by injection e with e; have := HQL2.out.q.le he; omega))
                        have hB5 : Below wk.heap.size wk w5 := (below_drewN HXL (nq + 1)).grown hg5 (by show wk.heap.size ≤ WL.heap.size; omega) (fun b e => by injection e with e; omega)
                        have hz5 : wk.heap.size < w5.heap.size := hm5.lt
                        have HM5 := hide hm5
                        go_region
                        all_goals
                          clear hup hg5 hm5 n0 n2 qx hlk
                          go_wp2_with (at_builtin; refine append_own_g fInt (wk.heap.size + 1) rfl _ _ 44 3 (.int .i64 0) 8 rfl Tryd.underlying44 info_int7 rfl (by omega) (.slice (some adq) s'.q.length cq) (nI s'.q) (d : Int) #[.int .i64 d] rfl rfl w5.heap.size rfl rfl hown5 (Below.refl _ _) (by omega) (by rw [nI_len]; omega) ?_; intro v1 w7 hown hbel hgr _)
                          have hm7 := HM5.out.same (hgr.block wk.heap.size hz5 (fun e => by have := hown5.le e.symm; omega))
                          have hB7 : Below wk.heap.size wk w7 := hB5.grown hgr (by omega) (fun b e => by have := hown5.le e; omega)
                          have HRN := hide (QAt.met hm7 HQL2.out.fit HQL2.out.n hdk hown)
                          clear hown hbel hgr hm7
                          go_roundw
                          case rel => exact ⟨j + 1, s'.met d x, rfl, by go_num, by omega, HRN, HBK, HOD, HXM, hB7⟩
                          case measure => simp [intOf]; omega
                  · rw [if_neg hc] at hod
                    have HOD := hide (HSC.out.trans hod)
                    clear hod HSC
                    by_cases hs1 : xs = x
                    · subst hs1
                      have hx0 : ¬ 0 ≤ xd := fun h => hc ⟨rfl, h⟩
                      have hks : ((x : Int) != x) = false := by simp
                      have hlt0 : decide (xd < 0) = true := by simpa using hx0
                      clear hc
                      go_quiet (fail)
                      go_wp2_with fail
                      go_roundw
                      case rel => exact ⟨j + 1, s', rfl, by go_num, by omega, hide (HQL.out.drewN _), HOk, HOD, HXq, by (repeat (first | with_reducible exact Below.refl _ _ | with_reducible assumption | with_reducible refine Below.alloc ?_ (by first | exact Nat.le_refl _ | exact Below.size (by assumption) | exact Nat.le_trans (Below.size (by assumption)) (by simp; done) | (simp; done) | (simp; omega) | omega) _ | with_reducible refine below_drewN ?_ _ | with_reducible refine Below.drew ?_ | with_reducible refine Below.setCell ?_ (by first | exact Nat.le_refl _ | (simp; done) | (simp; omega) | omega) _))⟩
                      case measure => simp [intOf]; omega
                    · have hks : (xs != (x : Int)) = true := by simpa using hs1
                      clear hs1 hc
                      go_quiet (fail)
                      go_wp2_with fail
                      go_roundw
                      case rel => exact ⟨j + 1, s', rfl, by go_num, by omega, hide (HQL.out.drewN _), HOk, HOD, HXq, by (repeat (first | with_reducible exact Below.refl _ _ | with_reducible assumption | with_reducible refine Below.alloc ?_ (by first | exact Nat.le_refl _ | exact Below.size (by assumption) | exact Nat.le_trans (Below.size (by assumption)) (by simp; done) | (simp; done) | (simp; omega) | omega) _ | with_reducible refine below_drewN ?_ _ | with_reducible refine Below.drew ?_ | with_reducible refine Below.setCell ?_ (by first | exact Nat.le_refl _ | (simp; done) | (simp; omega) | omega) _))⟩
                      case measure => simp [intOf]; omega
                · obtain rfl : j = E.length := by omega
                  have HFIN := hide (show Gr.bfs k E D.mods.length 0 ⟨[k], fun _ => none⟩ = Gr.bfs k E (D.mods.length - (i + 1)) (i + 1) s' by
                    have h1 := HSC.out
                    rw [List.drop_length] at h1
                    rw [HST.out, h1]; rfl)
                  clear HST HSC
                  go_wp2_with fail
                  go_roundw
                  case rel => exact ⟨i + 1, s', by go_num, by omega, HQ, HOk, .inl ⟨rfl, by omega, HFIN⟩, HX⟩
                  case measure => simp [intOf]; omega
            · obtain rfl : i = s.q.length := by omega
              have HRN := hide (show Gr.ringOf E D.mods.length k = [] by unfold Gr.ringOf; rw [HS.out, Gr.bfs_end (Nat.le_refl _)])
              have HNX := hide (hsucc.out.trans (Gr.better_no (.inl HRN.out)))
              clear HS
              go_wp2_with fail
              go_roundw
              case rel => exact ⟨k + 1, by go_num, by omega, hide (by rw [HNX.out]; exact HO.out.below HX), below_then HB HB.size HX⟩
              case measure => simp [intOf]; omega
          · obtain ⟨l, hw, hll, hln⟩ := HOk.out.way jx x HJ.out
            have hjl : jx < s.q.length := by
              rcases Nat.lt_or_ge jx s.q.length with h1 | h1
              · exact h1
              · have := HJ.out; rw [List.getElem?_eq_none h1] at this; simp at this
            have hxn := HOk.out.lt x (List.mem_of_getElem? HJ.out)
            have HRG := hide (show Gr.ringOf E D.mods.length k = k :: l.reverse by
              unfold Gr.ringOf
              rw [HS.out]
              show k :: (Gr.back s.fr k D.mods.length x).reverse = _
              rw [Gr.way_back hw D.mods.length (by omega)])
            have hlm : l.length < D.mods.length := by omega
            have HLN := hide hln
            have HW := hide hw
            have hxI : ¬ ((x : Int) < 0) := by omega
            clear hw hln HS HJ hll hjl
            have hci : ((i : Int) < s.q.length) ∨ ¬ ((i : Int) < s.q.length) := Classical.em _
            rcases hci with hci | hci
            all_goals
              go_wp2_with fail
              obtain ⟨wf, rfl⟩ : ∃ wf : World, wf = wr := ⟨_, rfl⟩
              have hzf := HX.size
              have HXf := below_then HB HB.size HX
              have hbkf := hide ((HX.block _ hzr).trans HBKr.out)
              have heql := fun (w : World) (a : Option Addr) (n c : Nat) => Lib.run_eql_slice_nil (P := Tryd.prog) w 29 9 a n c 0 0 Tryd.underlying29
              have hof := HO.out.below HX
              have HOF := hide hof
              clear hof
              go_loopw [14, 15] (fun v14 v15 wx => ∃ done : List Nat, Hid (Own fStr wx wf.heap.size 9 v14 (done.reverse.map (Gr.nameAt D))) ∧ Below wf.heap.size wf wx ∧ sliceLen v14 = done.length ∧ done.length ≤ 61 ∧ ((v15 = .int .i64 (-1) ∧ Hid (l ++ [k] = done)) ∨ (∃ (y : Nat) (l2 : List Nat), v15 = .int .i64 y ∧ y < D.mods.length ∧ Hid (Gr.Way s.fr k y l2) ∧ Hid (l ++ [k] = done ++ (l2 ++ [k]))))) (fun v _ _ => D.mods.length + 1 - sliceLen v)
              case atStart => exact ⟨[], hide (by simpa using Own.nil _ _ _), Below.refl _ _, rfl, by simp, .inr ⟨x, l, rfl, hxn, HW, rfl⟩⟩
              case round =>
                clear HW
                obtain ⟨done, HOr, HWx, hsl, hdl, hcs⟩ := hrel
                have HXX := below_then HXf HXf.size HWx
                have HX1 := below_then HX hzf HWx
                have hzx := HWx.size
                obtain ⟨Ar, cr, hvr, _, _, _⟩ := HOr.out.slV
                rw [List.length_map, List.length_reverse] at hvr
                subst hvr
                rcases hcs with ⟨rfl, HD⟩ | ⟨y, l2, rfl, hyn, HWy, HD⟩
                · have hrg : Gr.ringOf E D.mods.length k = done.reverse := by rw [HRG.out, ← HD.out]; simp
                  have hrne : Gr.ringOf E D.mods.length k ≠ [] := by rw [HRG.out]; simp
                  have hrl : done.length = (Gr.ringOf E D.mods.length k).length := by rw [hrg]; simp
                  have HR2 := hide (show Own fStr wr w1.heap.size 9 (.slice Ar done.length cr) ((Gr.ringOf E D.mods.length k).map (Gr.nameAt D)) by rw [hrg]; exact HOr.out.more (by have := HB.size; omega))
                  have HSU := hide hsucc.out
                  generalize Gr.ringOf E D.mods.length k = r at hrne hrl HR2 HSU
                  have HRNE := hide hrne
                  have HO2 := HOF.out.below HWx
                  rcases HO2 with ⟨hb, rfl⟩ | ⟨hb, hob⟩
                  · have HN := hide (HSU.out.trans (Gr.better_yes hrne (.inl hb)))
                    clear hrg hrne hb hrl HOr HD HSU
                    go_wp2_with fail
                    go_roundw
                    case rel => exact ⟨k + 1, by go_num, by omega, hide (by rw [HN.out]; exact .inr ⟨HRNE.out, HR2.out⟩), below_then HB HB.size HX1⟩
                    case measure => simp [intOf]; omega
                  · obtain ⟨gb, c4, hv4, _, _, _, _, _, _⟩ := hob.form (by simpa using hb)
                    rw [List.length_map] at hv4
                    subst hv4
                    have HOB := hide hob
                    have hbl := Gr.bestUp_len E D.mods.length k
                    rcases Nat.lt_or_ge r.length (Gr.bestUp E D.mods.length k).length with h3 | h3
                    · have HN := hide (HSU.out.trans (Gr.better_yes hrne (.inr h3)))
                      have hlen : (done.length : Int) < (Gr.bestUp E D.mods.length k).length := by omega
                      clear hrg hrne hb hrl HOr HD HSU h3 hob
                      go_wp2_with fail
                      go_roundw
                      case rel => exact ⟨k + 1, by go_num, by omega, hide (by rw [HN.out]; exact .inr ⟨HRNE.out, HR2.out⟩), below_then HB HB.size HX1⟩
                      case measure => simp [intOf]; omega
                    · have HN := hide (HSU.out.trans (Gr.better_no (.inr ⟨hb, h3⟩)))
                      have hlen : ¬ (done.length : Int) < (Gr.bestUp E D.mods.length k).length := by omega
                      have HBN := hide hb
                      clear hrg hrne hb hrl HOr HD HSU h3 hob
                      go_wp2_with fail
                      go_roundw
                      case rel => exact ⟨k + 1, by go_num, by omega, hide (by rw [HN.out]; exact .inr ⟨HBN.out, HOB.out⟩), below_then HB HB.size HX1⟩
                      case measure => simp [intOf]; omega
                · have HM1 := below_then HBB HBB.size HX1
                  obtain ⟨bd, hA2, m0, m1⟩ := (hM.below HM1).get hyn
                  have hnk : (D.mods[y]).name = Gr.nameAt D y := by unfold Gr.nameAt; rw [List.getElem?_eq_getElem hyn]
                  have d0 : wr.cell? (bd.add (y * 2)) = some (.string (Gr.nameAt D y)) := by rw [← hnk]; exact m0.2
                  have hbkx := (HWx.block _ (by omega)).trans hbkf.out
                  have k1 : wr.cell? ⟨w.heap.size, 1, none⟩ = some (.slice A2 D.mods.length c2) := blk_cell hbkx 1
                  rw [hA2] at k1
                  have hynI : (y : Int) < D.mods.length := by omega
                  have hbdl : bd.block < wr.heap.size := by have := World.block_lt_of_cell? _ _ d0; rwa [block_add] at this
                  clear m0 m1 hnk hbkx hA2
                  have hdl2 : done.length + l2.length = l.length := by have := congrArg List.length HD.out; simp at this; omega
                  have HOw := HOr.out
                  have hrll : (done.reverse.map (Gr.nameAt D)).length = done.length := by simp
                  generalize hnm : Gr.nameAt D y = nm at d0
                  generalize hrl : done.reverse.map (Gr.nameAt D) = rl at HOw hrll
                  have HNM := hide hnm
                  have HRL := hide hrl
                  have HRLL := hide hrll
                  have ho1 := Own.one (k := fStr) wr wf.heap.size 9 nm #[.string nm] rfl hzx
                  have hsr : Sl kStr (wr.alloc (Obj.cells #[.string nm] 9)) (fun b => wf.heap.size ≤ b) Ar rl := HOw.sl.below (by (repeat (first | with_reducible exact Below.refl _ _ | with_reducible assumption | with_reducible refine Below.alloc ?_ (by first | exact Nat.le_refl _ | exact Below.size (by assumption) | exact Nat.le_trans (Below.size (by assumption)) (by simp; done) | (simp; done) | (simp; omega) | omega) _ | with_reducible refine below_drewN ?_ _ | with_reducible refine Below.drew ?_ | with_reducible refine Below.setCell ?_ (by first | exact Nat.le_refl _ | (simp; done) | (simp; omega) | omega) _)))
                  clear hnm hrl hrll HOw HOr
                  by_cases hyk : y = k
                  · have hl2 : l2 = [] := by
                      rcases HWy.out.start with ⟨_, h2⟩ | ⟨p, r, h2, _⟩
                      · exact h2
                      · exact absurd hyk h2
                    have HD2 := hide (show l ++ [k] = done ++ [y] by rw [HD.out, hl2, hyk]; rfl)
                    have HYK := hide hyk
                    clear hl2 HD HWy hyk
                    go_wp2_with (at_builtin; refine append_strs wf.heap.size rfl _ _ 29 9 rfl Tryd.underlying29 info_str5' (.slice (some ⟨wr.heap.size, 0, none⟩) 1 1) [nm] rl Ar done.length cr HRLL.out rfl rfl ho1 hsr (by simp; omega) (by have := HRLL.out; simp; omega) ?_; intro v1 w7 hown hgr hat; have hB7 : Below wf.heap.size wf w7 := (HWx.alloc hzx _).grown hgr (by simp; omega) (fun b e => by have h9 : wr.heap.size = b := (by simpa [Value.ownBlock] using e); omega); obtain ⟨c7, f7, hq7⟩ := HQ.out.below hB7; have hlk := hq7.map.look (int_keyed Tryd.underlying3) (t := 109) Tryd.underlying109 (zero_int8 w7) (look_int8 (n := y) (by omega)) trivial; rw [hq7.fit y] at hlk; unfold mfr at hlk; rw [if_pos HYK.out] at hlk; replace hlk : (Instr.lookup 109 (.map (some wk.heap.size)) (.int .i64 (y : Int)) false).run Tryd.prog w7 = .ok (.int .i64 (-1)) w7 := hlk)
                    have hlv : sliceLen v1 = done.length + 1 := by
                      obtain ⟨A9, c9, hv9, _, _, _⟩ := hown.slV
                      rw [hv9]
                      show ([nm] ++ rl).length = _
                      rw [List.length_append, HRLL.out]; simp; omega
                    have HON := hide (show Own fStr w7 wf.heap.size 9 v1 ((done ++ [y]).reverse.map (Gr.nameAt D)) by
                      rw [List.reverse_append, List.map_append, HRL.out]
                      show Own fStr w7 wf.heap.size 9 v1 ([Gr.nameAt D y] ++ rl)
                      rw [HNM.out]; exact hown)
                    clear hown hgr hat hlk hq7
                    try go_wp2_with fail
                    go_roundw
                    case rel => exact ⟨done ++ [y], HON, hB7, by rw [hlv]; simp, by simp; omega, .inl ⟨rfl, HD2⟩⟩
                    case measure => rw [hlv]; show _ < D.mods.length + 1 - done.length; omega
                  · obtain ⟨p, r, hfp, hl2, hwp⟩ : ∃ p r, s.fr y = some p ∧ l2 = y :: r ∧ Gr.Way s.fr k p r := by
                      rcases HWy.out.start with ⟨h1, _⟩ | ⟨p, r, _, h2, h3, h4⟩
                      · exact absurd h1 hyk
                      · exact ⟨p, r, h2, h3, h4⟩
                    have hlmem : ∀ z ∈ l, z < D.mods.length := HLN.out
                    have hsub : ∀ z, z ∈ l2 → z ∈ l := fun z hz => by
                      have h1 : l ++ [k] = (done ++ l2) ++ [k] := by rw [HD.out, List.append_assoc]
                      rw [List.append_cancel_right h1]
                      exact List.mem_append_right _ hz
                    have hpn : p < D.mods.length := by
                      rcases hwp.start with ⟨h1, _⟩ | ⟨p', r', _, _, h3, _⟩
                      · omega
                      · exact hlmem p (hsub p (by rw [hl2, h3]; simp))
                    have HD2 := hide (show l ++ [k] = (done ++ [y]) ++ (r ++ [k]) by rw [HD.out, hl2]; simp)
                    have HW2 := hide hwp
                    have HFP := hide hfp
                    have HYK := hide hyk
                    have hl2p : 0 < l2.length := by rw [hl2]; simp
                    clear hl2 HD HWy hyk hfp hwp hsub hlmem
                    go_wp2_with (at_builtin; refine append_strs wf.heap.size rfl _ _ 29 9 rfl Tryd.underlying29 info_str5' (.slice (some ⟨wr.heap.size, 0, none⟩) 1 1) [nm] rl Ar done.length cr HRLL.out rfl rfl ho1 hsr (by simp; omega) (by have := HRLL.out; simp; omega) ?_; intro v1 w7 hown hgr hat; have hB7 : Below wf.heap.size wf w7 := (HWx.alloc hzx _).grown hgr (by simp; omega) (fun b e => by have h9 : wr.heap.size = b := (by simpa [Value.ownBlock] using e); omega); obtain ⟨c7, f7, hq7⟩ := HQ.out.below hB7; have hlk := hq7.map.look (int_keyed Tryd.underlying3) (t := 109) Tryd.underlying109 (zero_int8 w7) (look_int8 (n := y) (by omega)) trivial; rw [hq7.fit y] at hlk; unfold mfr at hlk; rw [if_neg HYK.out, HFP.out] at hlk; replace hlk : (Instr.lookup 109 (.map (some wk.heap.size)) (.int .i64 (y : Int)) false).run Tryd.prog w7 = .ok (.int .i64 (p : Int)) w7 := hlk)
                    have hlv : sliceLen v1 = done.length + 1 := by
                      obtain ⟨A9, c9, hv9, _, _, _⟩ := hown.slV
                      rw [hv9]
                      show ([nm] ++ rl).length = _
                      rw [List.length_append, HRLL.out]; simp; omega
                    have HON := hide (show Own fStr w7 wf.heap.size 9 v1 ((done ++ [y]).reverse.map (Gr.nameAt D)) by
                      rw [List.reverse_append, List.map_append, HRL.out]
                      show Own fStr w7 wf.heap.size 9 v1 ([Gr.nameAt D y] ++ rl)
                      rw [HNM.out]; exact hown)
                    clear hown hgr hat hlk hq7
                    try go_wp2_with fail
                    go_roundw
                    case rel => exact ⟨done ++ [y], HON, hB7, by rw [hlv]; simp, by simp; omega, .inr ⟨p, r, rfl, hpn, HW2, HD2⟩⟩
                    case measure => rw [hlv]; show _ < D.mods.length + 1 - done.length; omega
      · obtain rfl : k = D.mods.length := by omega
        have hO := HO.out.own
        rw [← HSH.out] at hO
        go_wp2_with fail
        go_ret
        exact ⟨_, rfl, hO.more (base' := w.heap.size) (by omega), HBB⟩
  · have HEd := hide (Gr.shortest_bad h0)
    obtain ⟨r1, r2, r3, hq⟩ : ∃ r1 r2 r3, Wd.worldOk D = (r1, r2, r3) := ⟨_, _, _, rfl⟩
    rw [hq] at hok h0
    have hne := fun (w : World) => wr_pos (a := r1) h0 r2 r3 w
    clear hq
    have HOK := hide hok
    clear hok h0
    go_enter Tryd.func37, Tryd.ntmps37
    go_wp2_with fail
    refine HOK.out.mono ?_
    rintro e w1 ⟨rfl, hb1⟩
    have HB1 := below_then hb0 hb0.size hb1
    clear hb1
    go_wp2_with fail
    go_ret
    exact ⟨_, rfl, by rw [HEd.out]; exact Own.nil _ _ _, HB1⟩
end Go.Proofs.YtkhlicmlnjccdaaDoor
