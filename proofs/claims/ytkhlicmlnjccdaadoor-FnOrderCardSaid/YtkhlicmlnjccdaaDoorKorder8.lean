/-
  Walks: the reference's shortest ring.
-/
import Derived.Test.YtkhlicmlnjccdaaDoorKorder4
import Derived.Test.YtkhlicmlnjccdaaDoorKorder1
import Derived.Test.YtkhlicmlnjccdaaDoorKd16
import Derived.Test.YtkhlicmlnjccdaaDoorKorder3
import Derived.Deep.DeepCutAuto
namespace Go.Proofs.YtkhlicmlnjccdaaDoor
open Go.RowKit Mem

def nI (l : List Nat) : List Int := l.map fun x : Nat => (x : Int)
theorem nI_len (l : List Nat) : (nI l).length = l.length := by simp [nI]
theorem nI_get {l : List Nat} {i x : Nat} (h : l[i]? = some x) : (nI l)[i]? = some (x : Int) := by simp [nI, h]
/-- what a search holds: the row of where each was met from, the row of what was met -/
structure RAt (w : World) (gf n : Nat) (vq : Value) (cf : Array Value) (s : Gr.BS) : Prop where
  blk : w.heap[gf]? = some (.cells cf 3 (0, 0))
  size : cf.size = n
  at_ : ∀ y, y < n → cf[y]? = some (.int .i64 (idxI (s.fr y)))
  q : Own fInt w (gf + 1) 3 vq (nI s.q)
section
variable {w w' : World} {gf n : Nat} {vq : Value} {cf : Array Value} {s : Gr.BS}
theorem RAt.lt (h : RAt w gf n vq cf s) : gf < w.heap.size := (Array.getElem?_eq_some_iff.1 h.blk).1
theorem RAt.below (h : RAt w gf n vq cf s) (hb : Below w.heap.size w w') : RAt w' gf n vq cf s := ⟨(hb.block _ h.lt).trans h.blk, h.size, h.at_, h.q.below hb⟩
theorem RAt.set (h : RAt w gf n vq cf s) {y x : Nat} (_hy : y < n) : (w.setCell ⟨gf, y, none⟩ (.int .i64 (x : Int))).heap[gf]? = some (.cells (cf.setIfInBounds y (.int .i64 (x : Int))) 3 (0, 0)) ∧ Own fInt (w.setCell ⟨gf, y, none⟩ (.int .i64 (x : Int))) (gf + 1) 3 vq (nI s.q) := by
  have hg := grown_set w gf y (.int .i64 (x : Int))
  refine ⟨blk_set h.blk y _, h.q.kept hg ?_⟩
  cases he : vq.ownBlock with
  | none => exact .inl rfl
  | some b => exact .inr (fun e => by injection e with e; have := h.q.le he; omega)
theorem RAt.met {v1 : Value} {w1 : World} {x y : Nat} (hb : w1.heap[gf]? = some (.cells (cf.setIfInBounds y (.int .i64 (x : Int))) 3 (0, 0))) (hs : cf.size = n) (ha : ∀ y, y < n → cf[y]? = some (.int .i64 (idxI (s.fr y)))) (hy : y < n) (ho : Own fInt w1 (gf + 1) 3 v1 (nI s.q ++ [(y : Int)])) : RAt w1 gf n v1 (cf.setIfInBounds y (.int .i64 (x : Int))) (s.met y x) := by
  refine ⟨hb, by rw [Array.size_setIfInBounds]; exact hs, fun z hz => ?_, by simpa [nI, Gr.BS.met] using ho⟩
  rw [Array.getElem?_setIfInBounds]
  show _ = some (Value.int .i64 (idxI (if z = y then some x else s.fr z)))
  by_cases he : y = z
  · subst he
    rw [if_pos rfl, if_pos (by omega), if_pos rfl]; rfl
  · rw [if_neg he, ha z hz, if_neg (Ne.symm he)]
end
def RIs (w : World) (gf n : Nat) (vq : Value) (s : Gr.BS) : Prop := ∃ cf, RAt w gf n vq cf s
theorem info_str5' : (Tryd.prog.info? 9).map (fun i => (i.zero, i.size, i.bytes)) = some (some (.string ByteArray.empty), 1, 16) := by kernel_rfl
theorem info_int7 : (Tryd.prog.info? 3).map (fun i => (i.zero, i.size, i.bytes)) = some (some (.int .i64 0), 1, 8) := by kernel_rfl
theorem RIs.drewN {w : World} {gf n : Nat} {vq : Value} {s : Gr.BS} (h : RIs w gf n vq s) (m : Nat) : RIs (w.drewN m) gf n vq s := by
  obtain ⟨cf, h⟩ := h
  exact ⟨cf, h.blk, h.size, h.at_, h.q⟩
def sliceLen : Value → Nat
  | .slice _ n _ => n
  | _ => 0

set_option maxRecDepth 100000 in
set_option maxHeartbeats 4000000 in
theorem l4ring_calls (A : Option Addr) (c n k : Nat) (E : List EdgeD) (S : Nat → Prop) (w : World) (h : Sl kEdge w S A E) (hEl : E.length ≤ 3600) (hF : ∀ e ∈ E, Gr.Fit n e) (hn : n ≤ 1048576) (hk : k < n) :
    Calls Tryd.prog 86 #[.slice A E.length c, .int .i64 n, .int .i64 k] w (RetOwn fInt w 3 (nI (Gr.ringOf E n k))) := by
  have hmk := fun W : World => run_make_row' (P := Tryd.prog) 44 3 (.int .i64 0) 8 Tryd.underlying44 info_int7 rfl .i64 .i64 n (by omega) (by omega) W
  have hcsz : (madeCells #[Value.int .i64 0] n).size = n := by simp [size_madeCells]
  have hblk := heap_alloc_new w (Obj.cells (madeCells #[Value.int .i64 0] n) 3)
  have hb0 : Below w.heap.size w (w.alloc (Obj.cells (madeCells #[Value.int .i64 0] n) 3)) := by (repeat (first | with_reducible exact Below.refl _ _ | with_reducible assumption | with_reducible refine Below.alloc ?_ (by first | exact Nat.le_refl _ | exact Below.size (by assumption) | exact Nat.le_trans (Below.size (by assumption)) (by simp; done) | (simp; done) | (simp; omega) | omega) _ | with_reducible refine below_drewN ?_ _ | with_reducible refine Below.drew ?_ | with_reducible refine Below.setCell ?_ (by first | exact Nat.le_refl _ | (simp; done) | (simp; omega) | omega) _))
  have hz0 : w.heap.size < (w.alloc (Obj.cells (madeCells #[Value.int .i64 0] n) 3)).heap.size := by simp
  generalize madeCells #[Value.int .i64 0] n = cs0 at hmk hcsz hblk hb0 hz0
  have hring : Gr.ringOf E n k = match Gr.bfs k E n 0 ⟨[k], fun _ => none⟩ with
    | (some x, s) => k :: (Gr.back s.fr k n x).reverse
    | (none, _) => [] := by unfold Gr.ringOf; split <;> rename_i h1 <;> rw [h1]
  generalize Gr.ringOf E n k = res at hring ⊢
  have HRING := hide hring
  have HCS := hide hcsz
  have HB0 := hide hblk
  have HF := hide hF
  have hElI : (E.length : Int) ≤ 3600 := by omega
  clear hcsz hblk hF hring
  go_enter Tryd.func86, Tryd.ntmps86
  go_wp2_with fail
  generalize w.alloc (Obj.cells cs0 3) = W0 at HB0 hb0 hz0 ⊢
  clear hmk
  go_loopw [8, 21] (fun _ i wr => ∃ (m : Nat) (cs : Array Value), i = .int .i64 m ∧ m ≤ n ∧ Hid (wr.heap[w.heap.size]? = some (.cells cs 3 (0, 0))) ∧ Hid (cs.size = n ∧ ∀ q, q < m → cs[q]? = some (.int .i64 (-1))) ∧ Below w.heap.size w wr ∧ w.heap.size < wr.heap.size) (fun _ i _ => n - (intOf i).toNat)
  case atStart => exact ⟨0, cs0, rfl, by omega, HB0, hide ⟨HCS.out, fun q hq => absurd hq (by omega)⟩, hb0, hz0⟩
  case round =>
    clear HB0 HCS hb0 hz0
    obtain ⟨m, cs, rfl, hm, HC, HP, HB, hlw⟩ := hrel
    by_cases hlt : m < n
    · have hbn := HP.out.1
      have c0 : wr.cell? ⟨w.heap.size, m, none⟩ = some _ := (blk_cell HC.out m).trans (Array.getElem?_eq_getElem (show m < cs.size by omega))
      generalize cs[m]'(by omega) = o0 at c0
      have f0 := blk_free HC.out m
      have HBL := hide (blk_set HC.out m (.int .i64 (-1)))
      have HPN := hide (show (cs.setIfInBounds m (.int .i64 (-1))).size = n ∧ ∀ q, q < m + 1 → (cs.setIfInBounds m (.int .i64 (-1)))[q]? = some (.int .i64 (-1)) from
        ⟨by rw [Array.size_setIfInBounds]; exact hbn, fun q hq => by
          rw [Array.getElem?_setIfInBounds]
          by_cases he : m = q
          · rw [if_pos he, if_pos (by omega)]
          · rw [if_neg he]; exact HP.out.2 q (by omega)⟩)
      clear hbn HC HP
      go_wp2_with fail
      go_roundw
      case rel => exact ⟨m + 1, _, by go_num, by omega, HBL, HPN, by (repeat (first | with_reducible exact Below.refl _ _ | with_reducible assumption | with_reducible refine Below.alloc ?_ (by first | exact Nat.le_refl _ | exact Below.size (by assumption) | exact Nat.le_trans (Below.size (by assumption)) (by simp; done) | (simp; done) | (simp; omega) | omega) _ | with_reducible refine below_drewN ?_ _ | with_reducible refine Below.drew ?_ | with_reducible refine Below.setCell ?_ (by first | exact Nat.le_refl _ | (simp; done) | (simp; omega) | omega) _)), by simp [World.setCell]; omega⟩
      case measure => simp [intOf]; omega
    · obtain rfl : m = n := by omega
      have hq1 := Own.one (k := fInt) wr (w.heap.size + 1) 3 (k : Int) #[.int .i64 k] rfl (by omega)
      have hbQ : Below wr.heap.size wr (wr.alloc (Obj.cells #[.int .i64 k] 3)) := by (repeat (first | with_reducible exact Below.refl _ _ | with_reducible assumption | with_reducible refine Below.alloc ?_ (by first | exact Nat.le_refl _ | exact Below.size (by assumption) | exact Nat.le_trans (Below.size (by assumption)) (by simp; done) | (simp; done) | (simp; omega) | omega) _ | with_reducible refine below_drewN ?_ _ | with_reducible refine Below.drew ?_ | with_reducible refine Below.setCell ?_ (by first | exact Nat.le_refl _ | (simp; done) | (simp; omega) | omega) _))
      have HBQ := below_then HB HB.size hbQ
      have hbfs := (hbQ.block _ hlw).trans HC.out
      have HR0 := hide (show RIs (wr.alloc (Obj.cells #[.int .i64 k] 3)) w.heap.size m (.slice (some ⟨wr.heap.size, 0, none⟩) 1 1) ⟨[k], fun _ => none⟩ from ⟨cs, hbfs, HP.out.1, fun y hy => HP.out.2 y hy, by simpa [nI] using hq1⟩)
      have HBO := hide (Gr.BOk.start (n := m) hk)
      clear hq1 hbQ hbfs HC HP HB
      go_upto_region 8 with fail
      generalize wr.alloc (Obj.cells #[.int .i64 k] 3) = W1 at HR0 HBQ ⊢
      go_wp2_with fail
      have hstart := hide (show Gr.bfs k E m 0 ⟨[k], fun _ => none⟩ = Gr.bfs k E (m - 0) 0 ⟨[k], fun _ => none⟩ from rfl)
      go_loopw [9, 10] (fun v9 v10 wr => ∃ (i : Nat) (s : Gr.BS), v10 = .int .i64 i ∧ i ≤ s.q.length ∧ Hid (RIs wr w.heap.size m v9 s) ∧ Hid (Gr.BOk m k s) ∧ Hid (Gr.bfs k E m 0 ⟨[k], fun _ => none⟩ = Gr.bfs k E (m - i) i s) ∧ Below w.heap.size w wr) (fun _ i _ => m - (intOf i).toNat)
      case atStart => exact ⟨0, _, rfl, Nat.zero_le _, HR0, HBO, hstart, HBQ⟩
      case round =>
        clear HR0 HBO hstart HBQ
        obtain ⟨i, s, rfl, hi, HR, HO, HS, HB⟩ := hrel
        obtain ⟨cf, hR⟩ := HR.out
        obtain ⟨Aq, cq, hvq, _, _, _⟩ := hR.q.slV
        rw [nI_len] at hvq
        subst hvq
        have hql := HO.out.len
        have hqlI : (s.q.length : Int) ≤ 1048576 := by omega
        clear hR
        by_cases hiq : i < s.q.length
        · obtain ⟨x, hx⟩ : ∃ x, s.q[i]? = some x := ⟨_, List.getElem?_eq_getElem hiq⟩
          have hxn := HO.out.lt x (List.mem_of_getElem? hx)
          have hstep := HS.out
          rw [show m - i = (m - (i + 1)) + 1 by omega, Gr.bfs_step hx] at hstep
          have HST := hide hstep
          have HX0 := hide hx
          have hscan := hide (show Gr.scan k x E s = Gr.scan k x (E.drop 0) s from rfl)
          clear hstep hx HS
          go_wp2_with fail
          go_loopw [9, 12, 38] (fun v9 _ v38 wr => ∃ (j : Nat) (s' : Gr.BS), v38 = .int .i64 j ∧ j ≤ E.length ∧ Hid (RIs wr w.heap.size m v9 s') ∧ Hid (Gr.BOk m k s') ∧ Hid (Gr.scan k x E s = Gr.scan k x (E.drop j) s') ∧ Hid (s'.q[i]? = some x) ∧ Below w.heap.size w wr) (fun _ _ j _ => E.length - (intOf j).toNat)
          case atStart => exact ⟨0, s, rfl, Nat.zero_le _, HR, HO, hscan, HX0, HB⟩
          case round =>
            clear HR HO hscan HX0 HB hiq hql hqlI
            obtain ⟨j, s', rfl, hj, HR, HO, HSC, HX, HB⟩ := hrel
            obtain ⟨cf, hR⟩ := HR.out
            obtain ⟨Aq, cq, hvq, _, _, _⟩ := hR.q.slV
            rw [nI_len] at hvq
            subst hvq
            have hql := HO.out.len
            have hqlI : (s'.q.length : Int) ≤ 1048576 := by omega
            have hiq : i < s'.q.length := by
              rcases Nat.lt_or_ge i s'.q.length with h1 | h1
              · exact h1
              · have := HX.out; rw [List.getElem?_eq_none h1] at this; simp at this
            have hiqI : (i : Int) < s'.q.length := by omega
            by_cases hlt : j < E.length
            · obtain ⟨ad, hA, l0, l1, l2⟩ := (h.below HB).get hlt
              subst hA
              have e0 : wr.cell? (ad.add (j * 3)) = some (.int .i64 E[j].src) := l0.2
              have e1 : wr.cell? ⟨(ad.add (j * 3)).block, (ad.add (j * 3)).off + 1, none⟩ = some (.int .i64 E[j].line) := by have := l1.2; rwa [add_pos _ _ (by omega)] at this
              have e2 : wr.cell? ⟨(ad.add (j * 3)).block, (ad.add (j * 3)).off + 2, none⟩ = some (.int .i64 E[j].dst) := by have := l2.2; rwa [add_pos _ _ (by omega)] at this
              have hod := Gr.scan_drop (k := k) (x := x) (s := s') (List.getElem?_eq_getElem hlt)
              have hfit := HF.out _ (List.getElem_mem hlt)
              clear l0 l1 l2
              generalize E[j] = ed at e0 e1 e2 hod hfit
              obtain ⟨xs, xl, xd⟩ := ed
              have hd1 : xd < (m : Int) := hfit.dst1
              replace e0 : wr.cell? (ad.add (j * 3)) = some (.int .i64 xs) := e0
              replace e1 : wr.cell? ⟨(ad.add (j * 3)).block, (ad.add (j * 3)).off + 1, none⟩ = some (.int .i64 xl) := e1
              replace e2 : wr.cell? ⟨(ad.add (j * 3)).block, (ad.add (j * 3)).off + 2, none⟩ = some (.int .i64 xd) := e2
              replace hod : Gr.scan k x (E.drop j) s' = if xs = x ∧ 0 ≤ xd then (if xd = k then (true, s') else Gr.scan k x (E.drop (j + 1)) (if (s'.fr xd.toNat).isSome = true then s' else s'.met xd.toNat x)) else Gr.scan k x (E.drop (j + 1)) s' := hod
              obtain ⟨adq, hAq, hqc⟩ := hR.q.sl.get (i := i) (by rw [nI_len]; exact hiq)
              subst hAq
              have hqv : (nI s'.q)[i]'(by rw [nI_len]; exact hiq) = (x : Int) := by
                have := nI_get HX.out
                rw [List.getElem?_eq_getElem (by rw [nI_len]; exact hiq)] at this
                exact Option.some.inj this
              have qx : wr.cell? (adq.add i) = some (.int .i64 x) := by
                have h2 := hqc.2
                rw [hqv] at h2
                simpa [fInt, kInt] using h2
              have hqb : adq.block < wr.heap.size := by have := World.block_lt_of_cell? _ _ qx; rwa [block_add] at this
              have hbW : Below wr.heap.size wr (wr.alloc (Obj.cells #[.int .i64 xs, .int .i64 xl, .int .i64 xd] 78)) := by (repeat (first | with_reducible exact Below.refl _ _ | with_reducible assumption | with_reducible refine Below.alloc ?_ (by first | exact Nat.le_refl _ | exact Below.size (by assumption) | exact Nat.le_trans (Below.size (by assumption)) (by simp; done) | (simp; done) | (simp; omega) | omega) _ | with_reducible refine below_drewN ?_ _ | with_reducible refine Below.drew ?_ | with_reducible refine Below.setCell ?_ (by first | exact Nat.le_refl _ | (simp; done) | (simp; omega) | omega) _))
              have hnW := heap_alloc_new wr (Obj.cells #[.int .i64 xs, .int .i64 xl, .int .i64 xd] 78)
              go_upto_region 14 with fail
              generalize wr.alloc (Obj.cells #[.int .i64 xs, .int .i64 xl, .int .i64 xd] 78) = WL at hbW hnW ⊢
              have n0 : WL.cell? ⟨wr.heap.size, 0, none⟩ = some (.int .i64 xs) := blk_cell hnW 0
              have n2 : WL.cell? ⟨wr.heap.size, 2, none⟩ = some (.int .i64 xd) := blk_cell hnW 2
              have qx : WL.cell? (adq.add i) = some (.int .i64 x) := (hbW.cell (by rw [block_add]; exact hqb)).trans qx
              have hRL := hR.below hbW
              have hgr0 : w.heap.size < wr.heap.size := hR.lt
              have HRL := hide (show RIs WL w.heap.size m (.slice (some adq) s'.q.length cq) s' from ⟨cf, hRL⟩)
              have HBL := below_then HB HB.size hbW
              clear hbW hnW e0 e1 e2 hqc hqv hR HR HB hfit
              by_cases hc : xs = x ∧ 0 ≤ xd
              · rw [if_pos hc] at hod
                obtain ⟨rfl, h0⟩ := hc
                obtain ⟨d, rfl⟩ : ∃ d : Nat, xd = d := ⟨xd.toNat, by omega⟩
                rw [Int.toNat_natCast] at hod
                have hks : ((x : Int) != x) = false := by simp
                by_cases hdk : d = k
                · subst hdk
                  rw [if_pos rfl] at hod
                  have hdkb : ((d : Int) == d) = true := by simp
                  obtain ⟨l, hw, hll, hln⟩ := HO.out.way i x HX.out
                  have HRES := hide (show res = d :: l.reverse by
                    have h1 := HSC.out.trans hod
                    have h2 := HST.out
                    rw [h1] at h2
                    have h3 := HRING.out
                    rw [h2] at h3
                    rw [h3]
                    show d :: (Gr.back s'.fr d m x).reverse = _
                    rw [Gr.way_back hw m (by omega)])
                  have HLN := hide hln
                  have hlm : l.length < m := by omega
                  have HW := hide hw
                  have hcf := hide hRL.blk
                  have hca := hide hRL.at_
                  have hgw := hRL.lt
                  clear hod HSC HST HRING hw hln hRL HRL HX hll
                  go_quiet (fail)
                  go_wp2_with fail
                  go_loopw [13, 14] (fun v13 v14 wr => ∃ (y : Nat) (l1 l2 : List Nat), v14 = .int .i64 y ∧ y < m ∧ Hid (l = l1 ++ l2) ∧ Hid (Gr.Way s'.fr d y l2) ∧ Own fInt wr (w.heap.size + 1) 3 v13 (nI l1) ∧ Hid (wr.heap[w.heap.size]? = some (.cells cf 3 (0, 0))) ∧ Below w.heap.size w wr ∧ w.heap.size < wr.heap.size ∧ sliceLen v13 = l1.length) (fun v _ _ => m - sliceLen v)
                  case atStart => exact ⟨x, [], l, rfl, hxn, rfl, HW, Own.nil _ _ _, hcf, by (repeat (first | with_reducible exact Below.refl _ _ | with_reducible assumption | with_reducible refine Below.alloc ?_ (by first | exact Nat.le_refl _ | exact Below.size (by assumption) | exact Nat.le_trans (Below.size (by assumption)) (by simp; done) | (simp; done) | (simp; omega) | omega) _ | with_reducible refine below_drewN ?_ _ | with_reducible refine Below.drew ?_ | with_reducible refine Below.setCell ?_ (by first | exact Nat.le_refl _ | (simp; done) | (simp; omega) | omega) _)), hgw, rfl⟩
                  case round =>
                    clear HW hcf n0 n2 qx
                    obtain ⟨y, l1, l2, rfl, hym, HL, HW, HOb, HC, HBb, hgb, hsl⟩ := hrel
                    have hl1 : l1.length + l2.length = l.length := by have := congrArg List.length HL.out; rw [List.length_append] at this; omega
                    obtain ⟨Ab, cb, hvb, _, _, _⟩ := HOb.slV
                    rw [nI_len] at hvb
                    subst hvb
                    by_cases hyk : y = d
                    · subst hyk
                      have hl2 : l2 = [] := by
                        rcases HW.out.start with ⟨_, h2⟩ | ⟨p, r, h2, _⟩
                        · exact h2
                        · exact absurd rfl h2
                      subst hl2
                      have HLL := hide (show l = l1 by rw [HL.out, List.append_nil])
                      have hyb : ((y : Int) != y) = false := by simp
                      have hlI : l1.length ≤ 1048576 := by omega
                      have hsb := HOb.sl
                      have hq1 := Own.one (k := fInt) wr wr.heap.size 3 (y : Int) #[.int .i64 y] rfl (Nat.le_refl _)
                      have hbQ : Below wr.heap.size wr (wr.alloc (Obj.cells #[.int .i64 y] 3)) := by (repeat (first | with_reducible exact Below.refl _ _ | with_reducible assumption | with_reducible refine Below.alloc ?_ (by first | exact Nat.le_refl _ | exact Below.size (by assumption) | exact Nat.le_trans (Below.size (by assumption)) (by simp; done) | (simp; done) | (simp; omega) | omega) _ | with_reducible refine below_drewN ?_ _ | with_reducible refine Below.drew ?_ | with_reducible refine Below.setCell ?_ (by first | exact Nat.le_refl _ | (simp; done) | (simp; omega) | omega) _))
                      have HSB := hide (hsb.old.more (T := fun b => b < wr.heap.size) (fun b hb => hb.2))
                      have HQ1 := hide (show Own fInt (wr.alloc (Obj.cells #[.int .i64 y] 3)) wr.heap.size 3 (.slice (some ⟨wr.heap.size, 0, none⟩) 1 1) (nI (y :: (l1.drop l1.length).reverse)) by rw [List.drop_length]; exact hq1)
                      clear hsb hq1 HOb HC HL HW hl1
                      go_upto_region 22 with fail
                      generalize wr.alloc (Obj.cells #[.int .i64 y] 3) = Wo at hbQ HQ1 ⊢
                      go_wp2_with fail
                      obtain ⟨wb, rfl⟩ : ∃ wb : World, wb = wr := ⟨_, rfl⟩
                      go_loopw [15, 16] (fun v15 v16 wx => ∃ (q : Nat), v16 = .int .i64 ((q : Int) - 1) ∧ q ≤ l1.length ∧ Hid (Own fInt wx wb.heap.size 3 v15 (nI (y :: (l1.drop q).reverse))) ∧ Below wb.heap.size wb wx) (fun _ v _ => (intOf v + 1).toNat)
                      case atStart => exact ⟨l1.length, rfl, Nat.le_refl _, HQ1, hbQ⟩
                      case round =>
                        clear HQ1 hbQ
                        obtain ⟨q, rfl, hq, HQ, HBx⟩ := hrel
                        have HBB := below_then HBb HBb.size HBx
                        rcases q with _ | q
                        · have HFIN := hide (show res = y :: (l1.drop 0).reverse by rw [HRES.out, HLL.out]; rfl)
                          go_wp2_with fail
                          go_ret
                          exact ⟨_, rfl, by rw [HFIN.out]; exact HQ.out.more (by omega), HBB⟩
                        · have hql2 : q < l1.length := by omega
                          have hcast : (((q + 1 : Nat) : Int) - 1) = (q : Int) := by omega
                          have hqI : (q : Int) < l1.length := by omega
                          obtain ⟨bb, hAb, hbc⟩ := (HSB.out.same (fun b hb => HBx.block b hb)).get (i := q) (by rw [nI_len]; exact hql2)
                          subst hAb
                          obtain ⟨z, hz⟩ : ∃ z, l1[q]? = some z := ⟨_, List.getElem?_eq_getElem hql2⟩
                          have hzv : (nI l1)[q]'(by rw [nI_len]; exact hql2) = (z : Int) := by
                            have := nI_get hz
                            rw [List.getElem?_eq_getElem (by rw [nI_len]; exact hql2)] at this
                            exact Option.some.inj this
                          have zc : wr.cell? (bb.add q) = some (.int .i64 z) := by
                            have h2 := hbc.2
                            rw [hzv] at h2
                            simpa [fInt, kInt] using h2
                          have hbbl : bb.block < wr.heap.size := by have := World.block_lt_of_cell? _ _ zc; rwa [block_add] at this
                          have hdq : l1.drop q = z :: l1.drop (q + 1) := by
                            rw [List.drop_eq_getElem_cons hql2]
                            rw [List.getElem?_eq_getElem hql2] at hz
                            rw [Option.some.inj hz]
                          have HNX := hide (show nI (y :: (l1.drop q).reverse) = nI (y :: (l1.drop (q + 1)).reverse) ++ [(z : Int)] by rw [hdq]; simp [nI])
                          have hOx := HQ.out
                          obtain ⟨Ao, co, hvo, _, _, _⟩ := hOx.slV
                          subst hvo
                          have hlo : (nI (y :: (l1.drop (q + 1)).reverse)).length ≤ 1048577 := by rw [nI_len]; simp; omega
                          generalize nI (y :: (l1.drop (q + 1)).reverse) = outl at hOx hlo HNX
                          have hzx := HBx.size
                          clear hbc hzv hz hdq HQ HSB
                          simp only [hcast]
                          go_wp2_with (at_builtin; refine append_own_g fInt wb.heap.size rfl _ _ 44 3 (.int .i64 0) 8 rfl Tryd.underlying44 info_int7 rfl (by omega) (.slice Ao outl.length co) outl (z : Int) #[.int .i64 z] rfl rfl wr.heap.size rfl rfl hOx HBx hzx (by omega) ?_; intro v1 w1 hown hbel hgr _)
                          have HON := hide (show Own fInt w1 wb.heap.size 3 v1 (nI (y :: (l1.drop q).reverse)) by rw [HNX.out]; exact hown)
                          go_roundw
                          case rel => exact ⟨q, rfl, by omega, HON, hbel⟩
                          case measure => simp [intOf]
                    · have hyb : ((y : Int) != d) = true := by simpa using (by omega : ¬ ((y : Int) = d))
                      obtain ⟨p, r, hfp, hl2, hwp⟩ : ∃ p r, s'.fr y = some p ∧ l2 = y :: r ∧ Gr.Way s'.fr d p r := by
                        rcases HW.out.start with ⟨h1, _⟩ | ⟨p, r, _, h2, h3, h4⟩
                        · exact absurd h1 hyk
                        · exact ⟨p, r, h2, h3, h4⟩
                      have hpm : p < m := by
                        rcases hwp.start with ⟨h1, _⟩ | ⟨p', r', _, _, h3, _⟩
                        · omega
                        · exact HLN.out p (by rw [HL.out, hl2, h3]; simp)
                      have HL2 := hide (show l = (l1 ++ [y]) ++ r by rw [HL.out, hl2]; simp)
                      have HW2 := hide hwp
                      have hnx : nI (l1 ++ [y]) = nI l1 ++ [(y : Int)] := by simp [nI]
                      have HNX := hide hnx
                      have hl2p : 0 < l2.length := by rw [hl2]; simp
                      have hyI : (y : Int) < m := by omega
                      have hcy := hide ((hca.out y hym).trans (by rw [hfp]; rfl : some (Value.int .i64 (idxI (s'.fr y))) = some (.int .i64 (p : Int))))
                      have hlo : (nI l1).length ≤ 1048576 := by rw [nI_len]; omega
                      have hlz : sliceLen (Value.slice Ab l1.length cb) = l1.length := rfl
                      have hll2 : (nI l1 ++ [(y : Int)]).length = l1.length + 1 := by rw [List.length_append, nI_len]; rfl
                      have HLZ := hide hll2
                      clear HL hl2 hwp hfp hnx hyk HW hll2
                      go_wp2_with (at_builtin; refine append_own_g fInt (w.heap.size + 1) rfl _ _ 44 3 (.int .i64 0) 8 rfl Tryd.underlying44 info_int7 rfl (by omega) (.slice Ab l1.length cb) (nI l1) (y : Int) #[.int .i64 y] rfl rfl wr.heap.size rfl rfl HOb (Below.refl _ _) (by omega) (by omega) ?_; intro v1 w1 hown hbel hgr _; have hb1 := (hgr.block w.heap.size hgb (fun e => by have := HOb.le e.symm; omega)).trans HC.out; have hfy : w1.cell? ⟨w.heap.size, y, none⟩ = some (.int .i64 p) := (blk_cell hb1 y).trans hcy.out)
                      have hB1 : Below w.heap.size w w1 := HBb.grown hgr (by omega) (fun b e => by have := HOb.le e; omega)
                      obtain ⟨A9, c9, hv9, _, _, _⟩ := hown.slV
                      have hsl1 : sliceLen v1 = l1.length + 1 := by rw [hv9]; exact HLZ.out
                      have HON := hide (show Own fInt w1 (w.heap.size + 1) 3 v1 (nI (l1 ++ [y])) by rw [HNX.out]; exact hown)
                      have HB1 := hide hb1
                      have hg1 : w.heap.size < w1.heap.size := Nat.lt_of_lt_of_le hgb hgr.size
                      clear hown hbel hgr hb1 hv9
                      try go_wp2_with fail
                      go_roundw
                      case rel => exact ⟨p, l1 ++ [y], r, rfl, hpm, HL2, HW2, HON.out, HB1, hB1, hg1, by rw [hsl1]; simp⟩
                      case measure => rw [hsl1]; omega
                · rw [if_neg (by omega)] at hod
                  have hdkb : ((d : Int) == k) = false := by simpa using (by omega : ¬ ((d : Int) = k))
                  have hfc : WL.cell? ⟨w.heap.size, d, none⟩ = some (.int .i64 (idxI (s'.fr d))) := (blk_cell hRL.blk d).trans (hRL.at_ d (by omega))
                  have hff := blk_free hRL.blk d
                  have hdI : (d : Int) < m := by omega
                  cases hfr : s'.fr d with
                  | some p =>
                    rw [hfr] at hod hfc
                    have HOD := hide (show Gr.scan k x E s = Gr.scan k x (E.drop (j + 1)) s' from HSC.out.trans (hod.trans (by simp)))
                    replace hfc : WL.cell? ⟨w.heap.size, d, none⟩ = some (.int .i64 (p : Int)) := hfc
                    clear hod HSC hRL hfr
                    go_quiet (fail)
                    go_wp2_with fail
                    go_roundw
                    case rel => exact ⟨j + 1, s', by go_num, by omega, hide (HRL.out.drewN _), HO, HOD, HX, by (repeat (first | with_reducible exact Below.refl _ _ | with_reducible assumption | with_reducible refine Below.alloc ?_ (by first | exact Nat.le_refl _ | exact Below.size (by assumption) | exact Nat.le_trans (Below.size (by assumption)) (by simp; done) | (simp; done) | (simp; omega) | omega) _ | with_reducible refine below_drewN ?_ _ | with_reducible refine Below.drew ?_ | with_reducible refine Below.setCell ?_ (by first | exact Nat.le_refl _ | (simp; done) | (simp; omega) | omega) _))⟩
                    case measure => simp [intOf]; omega
                  | none =>
                    rw [hfr] at hod hfc
                    have HOD := hide (show Gr.scan k x E s = Gr.scan k x (E.drop (j + 1)) (s'.met d x) from HSC.out.trans (hod.trans (by simp)))
                    replace hfc : WL.cell? ⟨w.heap.size, d, none⟩ = some (.int .i64 (-1)) := hfc
                    have HBK := hide (HO.out.met (x := d) (by omega) (by omega) (by rw [hfr]; rfl) HX.out)
                    have HXM := hide (Gr.met_q (x := d) (p := x) HX.out)
                    have hset := hRL.set (y := d) (x := x) (by omega)
                    have HRR := hide hRL
                    have hgw := hRL.lt
                    clear hod HSC hfr hRL
                    go_quiet (fail)
                    go_upto_region 28 with fail
                    go_region
                    all_goals
                      have hgs := grown_set (WL.drewN (nq + 1)) w.heap.size d (.int .i64 (x : Int))
                      obtain ⟨Ws, hWs⟩ : ∃ Ws, Ws = (WL.drewN (nq + 1)).setCell ⟨w.heap.size, d, none⟩ (.int .i64 (x : Int)) := ⟨_, rfl⟩
                      rw [← hWs] at hgs
                      have HOs : Own fInt Ws (w.heap.size + 1) 3 (.slice (some adq) s'.q.length cq) (nI s'.q) := by rw [hWs]; exact hset.2
                      have hbs : Ws.heap[w.heap.size]? = some (.cells (cf.setIfInBounds d (.int .i64 (x : Int))) 3 (0, 0)) := by rw [hWs]; exact hset.1
                      have hBs : Below w.heap.size w Ws := by rw [hWs]; (repeat (first | with_reducible exact Below.refl _ _ | with_reducible assumption | with_reducible refine Below.alloc ?_ (by first | exact Nat.le_refl _ | exact Below.size (by assumption) | exact Nat.le_trans (Below.size (by assumption)) (by simp; done) | (simp; done) | (simp; omega) | omega) _ | with_reducible refine below_drewN ?_ _ | with_reducible refine Below.drew ?_ | with_reducible refine Below.setCell ?_ (by first | exact Nat.le_refl _ | (simp; done) | (simp; omega) | omega) _))
                      have m2 : Ws.cell? ⟨wr.heap.size, 2, none⟩ = some (.int .i64 d) := hgs.cell (a := ⟨wr.heap.size, 2, none⟩) n2 (by simp; omega)
                      have hzs : w.heap.size < Ws.heap.size := (Array.getElem?_eq_some_iff.1 hbs).1
                      have hml2 : wr.heap.size < Ws.heap.size := World.block_lt_of_cell? _ _ m2
                      rw [← hWs]
                      clear hWs hgs hset n0 n2 qx hfc hff
                      go_wp2_with (at_builtin; refine append_own_g fInt (w.heap.size + 1) rfl _ _ 44 3 (.int .i64 0) 8 rfl Tryd.underlying44 info_int7 rfl (by omega) (.slice (some adq) s'.q.length cq) (nI s'.q) (d : Int) #[.int .i64 d] rfl rfl Ws.heap.size rfl rfl HOs (Below.refl _ _) (by omega) (by rw [nI_len]; omega) ?_; intro v1 w1 hown hbel hgr _)
                      have hb1 := (hgr.block w.heap.size hzs (fun e => by have := HOs.le e.symm; omega)).trans hbs
                      have hB1 : Below w.heap.size w w1 := hBs.grown hgr (by omega) (fun b e => by have := HOs.le e; omega)
                      have HRN := hide (show RIs w1 w.heap.size m v1 (s'.met d x) from ⟨_, RAt.met hb1 HRR.out.size HRR.out.at_ (by omega) hown⟩)
                      clear hown hbel hgr hb1
                      go_roundw
                      case rel => exact ⟨j + 1, s'.met d x, by go_num, by omega, HRN, HBK, HOD, HXM, hB1⟩
                      case measure => simp [intOf]; omega
              · rw [if_neg hc] at hod
                have HOD := hide (HSC.out.trans hod)
                clear hod HSC hRL
                by_cases hs1 : xs = x
                · subst hs1
                  have hx0 : ¬ 0 ≤ xd := fun h => hc ⟨rfl, h⟩
                  have hks : ((x : Int) != x) = false := by simp
                  have hlt0 : decide (xd < 0) = true := by simpa using hx0
                  clear hc
                  go_quiet (fail)
                  go_wp2_with fail
                  go_roundw
                  case rel => exact ⟨j + 1, s', by go_num, by omega, hide (HRL.out.drewN _), HO, HOD, HX, by (repeat (first | with_reducible exact Below.refl _ _ | with_reducible assumption | with_reducible refine Below.alloc ?_ (by first | exact Nat.le_refl _ | exact Below.size (by assumption) | exact Nat.le_trans (Below.size (by assumption)) (by simp; done) | (simp; done) | (simp; omega) | omega) _ | with_reducible refine below_drewN ?_ _ | with_reducible refine Below.drew ?_ | with_reducible refine Below.setCell ?_ (by first | exact Nat.le_refl _ | (simp; done) | (simp; omega) | omega) _))⟩
                  case measure => simp [intOf]; omega
                · have hks : (xs != (x : Int)) = true := by simpa using hs1
                  clear hs1 hc
                  go_quiet (fail)
                  go_wp2_with fail
                  go_roundw
                  case rel => exact ⟨j + 1, s', by go_num, by omega, hide (HRL.out.drewN _), HO, HOD, HX, by (repeat (first | with_reducible exact Below.refl _ _ | with_reducible assumption | with_reducible refine Below.alloc ?_ (by first | exact Nat.le_refl _ | exact Below.size (by assumption) | exact Nat.le_trans (Below.size (by assumption)) (by simp; done) | (simp; done) | (simp; omega) | omega) _ | with_reducible refine below_drewN ?_ _ | with_reducible refine Below.drew ?_ | with_reducible refine Below.setCell ?_ (by first | exact Nat.le_refl _ | (simp; done) | (simp; omega) | omega) _))⟩
                  case measure => simp [intOf]; omega
            · obtain rfl : j = E.length := by omega
              have HFIN := hide (show Gr.bfs k E m 0 ⟨[k], fun _ => none⟩ = Gr.bfs k E (m - (i + 1)) (i + 1) s' by
                have h1 := HSC.out
                rw [List.drop_length] at h1
                rw [HST.out, h1]; rfl)
              clear HST HSC
              go_wp2_with fail
              go_roundw
              case rel => exact ⟨i + 1, s', by go_num, by omega, HR, HO, HFIN, HB⟩
              case measure => simp [intOf]; omega
        · obtain rfl : i = s.q.length := by omega
          have HN := hide (show res = [] by rw [HRING.out, HS.out, Gr.bfs_end (Nat.le_refl _)])
          go_wp2_with fail
          go_ret
          exact ⟨_, rfl, by rw [HN.out]; exact Own.nil _ _ _, HB⟩

set_option maxRecDepth 100000 in
set_option maxHeartbeats 4000000 in
theorem sShortestRing_calls (D : WorldD) (vR vM vF : Value) (S : Nat → Prop) (w : World) (h : WIn w S vR vM vF D) (hz : WSz D) (hmx : D.mods.length ≤ 1048576) :
    Calls Tryd.prog 48 #[.agg #[vR, vM, vF]] w (RetOwn fStr w 9 (Gr.shortest D)) := by
  obtain ⟨⟨A1, c1, rfl, hc1, hd1, hR⟩, ⟨A2, c2, rfl, hc2, hd2, hM⟩, ⟨A3, c3, rfl, _, _, _⟩⟩ := id h
  have hb0 : Below w.heap.size w (w.alloc (Obj.cells #[.slice A1 D.roots.length c1, .slice A2 D.mods.length c2, .slice A3 D.faults.length c3] 46)) := by (repeat (first | with_reducible exact Below.refl _ _ | with_reducible assumption | with_reducible refine Below.alloc ?_ (by first | exact Nat.le_refl _ | exact Below.size (by assumption) | exact Nat.le_trans (Below.size (by assumption)) (by simp; done) | (simp; done) | (simp; omega) | omega) _ | with_reducible refine below_drewN ?_ _ | with_reducible refine Below.drew ?_ | with_reducible refine Below.setCell ?_ (by first | exact Nat.le_refl _ | (simp; done) | (simp; omega) | omega) _))
  have hblk := heap_alloc_new w (Obj.cells #[.slice A1 D.roots.length c1, .slice A2 D.mods.length c2, .slice A3 D.faults.length c3] 46)
  have hsz := (show w.heap.size < (w.alloc (Obj.cells #[.slice A1 D.roots.length c1, .slice A2 D.mods.length c2, .slice A3 D.faults.length c3] 46)).heap.size by simp)
  have hed := sEdges_calls D _ _ _ S _ (h.below hb0) hz
  have hEl := Gr.edges_len (D := D)
  have HF := hide (fun e he => Gr.edges_fit (D := D) (e := e) he)
  have hsh : Gr.shortest D = (Gr.bestUp (Gr.edges D) D.mods.length D.mods.length).map (Gr.nameAt D) := rfl
  generalize Gr.edges D = E at hed hEl HF hsh
  generalize Gr.shortest D = res at hsh ⊢
  have HSH := hide hsh
  have HED := hide hed
  have HBK := hide hblk
  have hmI : (D.mods.length : Int) ≤ 1048576 := by omega
  clear hed hblk hsh
  go_enter Tryd.func48, Tryd.ntmps48
  go_wp2_with fail
  refine HED.out.mono ?_
  rintro e w1 ⟨vE, rfl, hoE, hb1⟩
  obtain ⟨AE, cE, hvE, _, _, _⟩ := hoE.slV
  subst hvE
  have HB1 := below_then hb0 hb0.size hb1
  have hbk1 := (hb1.block _ hsz).trans HBK.out
  have hz1 : w.heap.size < w1.heap.size := Nat.lt_of_lt_of_le hsz hb1.size
  have k1 : w1.cell? ⟨w.heap.size, 1, none⟩ = some (.slice A2 D.mods.length c2) := blk_cell hbk1 1
  have HBK1 := hide hbk1
  have HES := hide (hoE.sl.old.more (T := fun b => b < w1.heap.size) (fun b hb => hb.2))
  clear HED hb1 hbk1 HBK hoE
  go_wp2_with fail
  clear k1
  go_loopw [4, 5, 6, 15] (fun v4 _ _ v15 wr => ∃ k : Nat, v15 = .int .i64 k ∧ k ≤ D.mods.length ∧ Hid (Own fInt wr w1.heap.size 3 v4 (nI (Gr.bestUp E D.mods.length k))) ∧ Below w1.heap.size w1 wr) (fun _ _ _ i _ => D.mods.length - (intOf i).toNat)
  case atStart => exact ⟨0, rfl, by omega, Own.nil _ _ _, Below.refl _ _⟩
  case round =>
    obtain ⟨k, rfl, hk, HO, HB⟩ := hrel
    have HBB := below_then HB1 HB1.size HB
    obtain ⟨Ab, cb, hvb, _, _, _⟩ := HO.out.slV
    rw [nI_len] at hvb
    subst hvb
    have hbk := (HB.block _ hz1).trans HBK1.out
    by_cases hlt : k < D.mods.length
    · have k1 : wr.cell? ⟨w.heap.size, 1, none⟩ = some (.slice A2 D.mods.length c2) := blk_cell hbk 1
      have hl := l4ring_calls AE cE D.mods.length k E (fun b => b < w1.heap.size) wr (HES.out.same (fun b hb => HB.block b hb)) hEl HF.out hmx hlt
      have HL := hide hl
      have hsucc := hide (Gr.bestUp_succ E D.mods.length k)
      have hbl := Gr.bestUp_len E D.mods.length k
      have hrl := Gr.ringOf_len' E D.mods.length k
      clear hl hbk
      go_wp2_with fail
      refine HL.out.mono ?_
      rintro e w2 ⟨v6, rfl, ho2, hb2⟩
      have HO2 := hide (HO.out.below hb2)
      have HB2 := below_then HB HB.size hb2
      obtain ⟨Ar, cr, hvr, _, _, _⟩ := ho2.slV
      rw [nI_len] at hvr
      subst hvr
      have HR2 := hide (ho2.more (base' := w1.heap.size) HB.size)
      clear HL hb2 ho2 HO k1
      generalize Gr.ringOf E D.mods.length k = r at HR2 hsucc hrl
      generalize Gr.bestUp E D.mods.length k = b at HO2 hsucc hbl
      rcases (show (r = []) ∨ (r ≠ [] ∧ b = []) ∨ (r ≠ [] ∧ b ≠ [] ∧ r.length < b.length) ∨ (r ≠ [] ∧ b ≠ [] ∧ b.length ≤ r.length) by
        by_cases h1 : r = []
        · exact .inl h1
        · by_cases h2 : b = []
          · exact .inr (.inl ⟨h1, h2⟩)
          · rcases Nat.lt_or_ge r.length b.length with h3 | h3
            · exact .inr (.inr (.inl ⟨h1, h2, h3⟩))
            · exact .inr (.inr (.inr ⟨h1, h2, h3⟩))) with h1 | ⟨h1, h2⟩ | ⟨h1, h2, h3⟩ | ⟨h1, h2, h3⟩
      · have HN := hide (hsucc.out.trans (Gr.better_no (.inl h1)))
        have hr0 : r.length = 0 := by rw [h1]; rfl
        have HR0 := hr0
        rw [hr0]
        clear h1 hr0 HR0 hsucc HR2 hrl
        go_wp2_with fail
        go_roundw
        case rel => exact ⟨k + 1, by go_num, by omega, hide (by rw [HN.out]; exact HO2.out), HB2⟩
        case measure => simp [intOf]; omega
      · have HN := hide (hsucc.out.trans (Gr.better_yes h1 (.inl h2)))
        have hr0 : 0 < r.length := List.length_pos_iff.2 h1
        have hb0' : b.length = 0 := by rw [h2]; rfl
        rw [hb0']
        have hr0I : (0 : Int) < r.length := by omega
        clear h1 h2 hb0' hsucc HO2 hbl
        go_wp2_with fail
        go_roundw
        case rel => exact ⟨k + 1, by go_num, by omega, hide (by rw [HN.out]; exact HR2.out), HB2⟩
        case measure => simp [intOf]; omega
      · have HN := hide (hsucc.out.trans (Gr.better_yes h1 (.inr h3)))
        have hr0 : 0 < r.length := List.length_pos_iff.2 h1
        have hb0' : 0 < b.length := by omega
        have hr0I : (0 : Int) < r.length := by omega
        have hbbI : ((b.length : Int) == 0) = false := by simp; omega
        have hrbI : (r.length : Int) < b.length := by omega
        clear h1 h2 hsucc HO2
        go_wp2_with fail
        go_roundw
        case rel => exact ⟨k + 1, by go_num, by omega, hide (by rw [HN.out]; exact HR2.out), HB2⟩
        case measure => simp [intOf]; omega
      · have HN := hide (hsucc.out.trans (Gr.better_no (.inr ⟨h2, h3⟩)))
        have hr0 : 0 < r.length := List.length_pos_iff.2 h1
        have hb0' : 0 < b.length := List.length_pos_iff.2 h2
        have hr0I : (0 : Int) < r.length := by omega
        have hbbI : ((b.length : Int) == 0) = false := by simp; omega
        have hrbI : ¬ (r.length : Int) < b.length := by omega
        clear h1 h2 hsucc HR2
        go_wp2_with fail
        go_roundw
        case rel => exact ⟨k + 1, by go_num, by omega, hide (by rw [HN.out]; exact HO2.out), HB2⟩
        case measure => simp [intOf]; omega
    · obtain rfl : k = D.mods.length := by omega
      have hbl := Gr.bestUp_len E D.mods.length D.mods.length
      have HLT := hide (Gr.bestUp_lt HF.out D.mods.length (Nat.le_refl _))
      have HOS := hide (HO.out.sl.old.more (T := fun b => b < wr.heap.size) (fun b hb => hb.2))
      generalize Gr.bestUp E D.mods.length D.mods.length = bst at HOS hbl HLT HSH
      have HBK2 := hide hbk
      have hz2 : w.heap.size < wr.heap.size := Nat.lt_of_lt_of_le hz1 HB.size
      have hblI : (bst.length : Int) ≤ 1048577 := by omega
      clear hbk HO
      go_wp2_with fail
      obtain ⟨wb, rfl⟩ : ∃ wb : World, wb = wr := ⟨_, rfl⟩
      go_loopw [7, 9, 43] (fun v7 _ v43 wx => ∃ q : Nat, v43 = .int .i64 q ∧ q ≤ bst.length ∧ Hid (Own fStr wx wb.heap.size 9 v7 ((bst.take q).map (Gr.nameAt D))) ∧ Below wb.heap.size wb wx) (fun _ _ i _ => bst.length - (intOf i).toNat)
      case atStart => exact ⟨0, rfl, by omega, hide (by simpa using Own.nil _ _ _), Below.refl _ _⟩
      case round =>
        obtain ⟨q, rfl, hq, HQ, HX⟩ := hrel
        have HXX := below_then HBB HBB.size HX
        by_cases hql : q < bst.length
        · obtain ⟨bb, hAb, hbc⟩ := (HOS.out.same (fun b hb => HX.block b hb)).get (i := q) (by rw [nI_len]; exact hql)
          subst hAb
          obtain ⟨z, hzz⟩ : ∃ z, bst[q]? = some z := ⟨_, List.getElem?_eq_getElem hql⟩
          have hzv : (nI bst)[q]'(by rw [nI_len]; exact hql) = (z : Int) := by
            have := nI_get hzz
            rw [List.getElem?_eq_getElem (by rw [nI_len]; exact hql)] at this
            exact Option.some.inj this
          have zc : wr.cell? (bb.add q) = some (.int .i64 z) := by
            have h2 := hbc.2
            rw [hzv] at h2
            simpa [fInt, kInt] using h2
          have hzn : z < D.mods.length := HLT.out z (List.mem_of_getElem? hzz)
          have hznI : (z : Int) < D.mods.length := by omega
          obtain ⟨bd, hA2, m0, m1⟩ := (hM.below HXX).get hzn
          subst hA2
          have hnk : (D.mods[z]).name = Gr.nameAt D z := by unfold Gr.nameAt; rw [List.getElem?_eq_getElem hzn]
          have d0 : wr.cell? (bd.add (z * 2)) = some (.string (Gr.nameAt D z)) := by rw [← hnk]; exact m0.2
          have hbkx := (HX.block _ hz2).trans HBK2.out
          have k1 : wr.cell? ⟨w.heap.size, 1, none⟩ = some (.slice (some bd) D.mods.length c2) := blk_cell hbkx 1
          have HNX := hide (show (bst.take (q + 1)).map (Gr.nameAt D) = (bst.take q).map (Gr.nameAt D) ++ [Gr.nameAt D z] by
            rw [List.take_succ_eq_append_getElem hql, List.map_append]
            rw [List.getElem?_eq_getElem hql] at hzz
            rw [Option.some.inj hzz]; rfl)
          have hOx := HQ.out
          obtain ⟨Ao, co, hvo, _, _, _⟩ := hOx.slV
          subst hvo
          have hlo : ((bst.take q).map (Gr.nameAt D)).length ≤ 1048577 := by rw [List.length_map, List.length_take]; omega
          have hzx := HX.size
          generalize (bst.take q).map (Gr.nameAt D) = outl at hOx hlo HNX
          generalize Gr.nameAt D z = nz at d0 HNX
          clear hbc hzv hzz HQ m0 m1 hnk hbkx
          go_wp2_with (at_builtin; refine append_own_g fStr wb.heap.size rfl _ _ 29 9 (.string ByteArray.empty) 16 rfl Tryd.underlying29 info_str5' rfl (by omega) (.slice Ao outl.length co) outl nz #[.string nz] rfl rfl wr.heap.size rfl rfl hOx HX hzx (by omega) ?_; intro v1 w3 hown hbel hgr _)
          have HON := hide (show Own fStr w3 wb.heap.size 9 v1 ((bst.take (q + 1)).map (Gr.nameAt D)) by rw [HNX.out]; exact hown)
          try go_wp2_with fail
          go_roundw
          case rel => exact ⟨q + 1, by go_num, by omega, HON, hbel⟩
          case measure => simp [intOf]; omega
        · obtain rfl : q = bst.length := by omega
          have HRES := hide (show res = (bst.take bst.length).map (Gr.nameAt D) by rw [List.take_length]; exact HSH.out)
          go_wp2_with fail
          go_ret
          exact ⟨_, rfl, by rw [HRES.out]; exact HQ.out.more (by have := HBB.size; omega), HXX⟩
end Go.Proofs.YtkhlicmlnjccdaaDoor
