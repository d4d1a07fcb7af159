/-
  Walk: the program's Answer.
-/
import Derived.Test.YtkhlicmlnjccdaaGreatDoorKt40
import Derived.Test.YtkhlicmlnjccdaaGreatDoorKt10
import Derived.Test.YtkhlicmlnjccdaaGreatDoorKt38
import Derived.Test.YtkhlicmlnjccdaaGreatDoorShelf
import Derived.Test.YtkhlicmlnjccdaaGreatDoorShelfF
import Derived.Sort.Grow
namespace Go.Proofs.YtkhlicmlnjccdaaGreatDoor
open Go.RowKit Mem

theorem below_grow (w : World) (n : Nat) (os : Array Obj) : Below w.heap.size w (Go.Sort.grow (w.drewN n) os) :=
  ⟨rfl, rfl, rfl, by simp [Go.Sort.grow, World.drewN], fun i hi => by
    show (w.heap ++ os)[i]? = w.heap[i]?
    rw [Array.getElem?_append_left hi]⟩
theorem fmt_calls (n : Int) (w : World) (h0 : -9223372036854775808 ≤ n) (h1 : n ≤ 9223372036854775807) (ht : Tabs w) :
    Calls Tryz.prog 30 #[.int .i64 n, .int .i64 10] w fun e w' => e = .returned (.string (decT n)) ∧ Below w.heap.size w w' := by
  refine (Tryz.strconv_FormatInt_10 n h0 h1 w ht.pow).mono ?_
  rintro e w' ⟨rfl, k, os, rfl⟩
  exact ⟨by rw [decT_itoa], below_grow w k os⟩
namespace Ans
/-- a record's words, as texts -/
def strsOf (q : Nat) (fn : Str) (r : Nat) (fm : Int) : List Str := [Nm.mk (kindW q)] ++ (if fn = ⟨#[]⟩ then [] else [fn]) ++ (if (r : Int) = 0 then [] else [Nm.mk (codeW r)]) ++ (if tells ⟨q, fn, r, fm⟩ = true then [decT fm] else [])
theorem strs_words (q : Nat) (fn : Str) (r : Nat) (fm : Int) : (strsOf q fn r fm).map (·.data.toList) = wordsOf ⟨q, fn, r, fm⟩ := by
  unfold strsOf wordsOf
  simp only [List.map_append]
  congr 1
  · congr 1
    · congr 1
      split <;> rfl
    · split <;> rfl
  · split <;> rfl
end Ans
theorem info_str8 : (Tryz.prog.info? 9).map (fun i => (i.zero, i.size, i.bytes)) = some (some (.string ByteArray.empty), 1, 16) := by kernel_rfl
/-- join of one's own row -/
theorem join_own {w : World} {B n c : Nat} {A : Option Addr} {xs : List Str} (sep : Str) (h : Own fStr w B 9 (.slice A n c) xs) (hne : xs ≠ []) (hN : xs.length ≤ 100) (hlen : (Lib.join (xs.map (·.data.toList)) sep.data.toList).length ≤ 140737488355328) :
    Calls Tryz.prog 31 #[.slice A n c, .string sep] w fun e w' => e = .returned (.string ⟨(Lib.join (xs.map (·.data.toList)) sep.data.toList).toArray⟩) ∧ Below w.heap.size w w' := by
  obtain ⟨g, c', hv, _, hlt, hnc, _, _, hsl⟩ := h.form hne
  simp only [Value.slice.injEq] at hv
  obtain ⟨rfl, rfl, rfl⟩ := hv
  refine Tryz.strings_Join g 0 c xs sep w (fun j x hx => ?_) hlt (by omega) hnc hlen
  obtain ⟨ad, hA, hx2⟩ := hsl hne
  simp only [Option.some.injEq] at hA
  subst hA
  have := (hx2 j x hx).2
  rw [show j * fStr.kind.size = j from Nat.mul_one j, add_plain] at this
  exact this
theorem ring_join {g : List Str} (h : g ≠ []) : Ans.ringW ++ 32 :: Lib.join (g.map (·.data.toList)) [32] = Ans.ringLine g := by
  cases g with
  | nil => exact absurd rfl h
  | cons x r =>
    unfold Ans.ringLine
    rw [List.map_cons, Lib.join_cons, List.flatMap_cons]
    congr 1
    show 32 :: (Nm.bs x ++ Lib.joinTail [32] (r.map (·.data.toList))) = (32 :: Nm.bs x) ++ _
    rw [List.cons_append]
    congr 2
    unfold Lib.joinTail
    clear h
    induction r with
    | nil => rfl
    | cons y t ih => simp only [List.map_cons, List.flatten_cons, List.flatMap_cons] at ih ⊢; rw [ih]; rfl

set_option maxRecDepth 100000 in
set_option maxHeartbeats 4000000 in
theorem iAnswer_calls (D : WorldD) (vR vM vF : Value) (S : Nat → Prop) (w : World) (h : WIn w S vR vM vF D) (hz : WSz D) (hm : ML w) (htab : Tabs w) (name : Str) (hn : name.size ≤ 1048576) (hf : Ans.Fine (Ld.load D name)) :
    Calls Tryz.prog 11 #[.agg #[vR, vM, vF], .string name] w fun e w' => e = .returned (.string (Ans.answer D name)) ∧ Below w.heap.size w w' := by
  have hs := h
  obtain ⟨⟨A1, c1, rfl, _, _, _⟩, ⟨A2, c2, rfl, _, _, _⟩, ⟨A3, c3, rfl, _, _, _⟩⟩ := hs
  have hb0 : Below w.heap.size w (w.alloc (Obj.cells #[.slice A1 D.roots.length c1, .slice A2 D.mods.length c2, .slice A3 D.faults.length c3] 27)) := by (repeat (first | with_reducible exact Below.refl _ _ | with_reducible assumption | with_reducible refine Below.alloc ?_ (by first | exact Nat.le_refl _ | exact Below.size (by assumption) | exact Nat.le_trans (Below.size (by assumption)) (by simp; done) | (simp; done) | (simp; omega) | omega) _ | with_reducible refine below_drewN ?_ _ | with_reducible refine Below.drew ?_ | with_reducible refine Below.setCell ?_ (by first | exact Nat.le_refl _ | (simp; done) | (simp; omega) | omega) _))
  have hsl := iLoad_calls D _ _ _ S _ (h.below hb0) hz (hm.below hb0) name hn
  obtain ⟨c, s, hq⟩ : ∃ c s, Ld.load D name = (c, s) := ⟨_, _, rfl⟩
  have HANS := hide (show Ans.answer D name = Nm.mk (Ans.text (c, s)) by unfold Ans.answer; rw [hq])
  rw [hq] at hf hsl
  have HSL := hide hsl
  have HF := hide hf
  have HTB := hide htab
  generalize Ans.answer D name = ans at HANS ⊢
  clear hq hsl h hf htab hm
  go_enter Tryz.func11, Tryz.ntmps11
  go_wp2_with fail
  refine (unhide HSL).mono ?_
  rintro e w1 ⟨vc, vs, vr, rfl, hrep, hb1⟩
  obtain ⟨P1, p1, rfl, _, _, q1⟩ := (hrep.rg).recs
  obtain ⟨P2, p2, rfl, _, _, q2⟩ := (hrep.rg).states
  obtain ⟨P3, p3, rfl, _, _, q3⟩ := (hrep.rg).rings
  have B1 := below_then hb0 hb0.size hb1
  have hrr := hrep.rings
  clear hb1 hb0 HSL q2 q3 hrep
  dsimp only
  have hbA : Below w1.heap.size w1 (w1.alloc (Obj.cells #[.int .i64 c, .slice P1 s.recs.length p1, .slice P2 s.states.length p2, .int .i64 s.reads, .slice P3 s.rings.length p3] 34)) := by (repeat (first | with_reducible exact Below.refl _ _ | with_reducible assumption | with_reducible refine Below.alloc ?_ (by first | exact Nat.le_refl _ | exact Below.size (by assumption) | exact Nat.le_trans (Below.size (by assumption)) (by simp; done) | (simp; done) | (simp; omega) | omega) _ | with_reducible refine below_drewN ?_ _ | with_reducible refine Below.drew ?_ | with_reducible refine Below.setCell ?_ (by first | exact Nat.le_refl _ | (simp; done) | (simp; omega) | omega) _))
  have hN := heap_alloc_new w1 (Obj.cells #[.int .i64 c, .slice P1 s.recs.length p1, .slice P2 s.states.length p2, .int .i64 s.reads, .slice P3 s.rings.length p3] 34)
  have hzA : w1.heap.size < (w1.alloc (Obj.cells #[.int .i64 c, .slice P1 s.recs.length p1, .slice P2 s.states.length p2, .int .i64 s.reads, .slice P3 s.rings.length p3] 34)).heap.size := by simp
  go_upto_region 2 with fail
  generalize w1.alloc (Obj.cells #[.int .i64 c, .slice P1 s.recs.length p1, .slice P2 s.states.length p2, .int .i64 s.reads, .slice P3 s.rings.length p3] 34) = W at hbA hN hzA ⊢
  have BW := below_then B1 B1.size hbA
  have Q1 := hide (q1.below hbA)
  obtain ⟨KR, hrr⟩ := hrr
  have HRR := hide (hrr.below hbA)
  have HTW := hide (HTB.out.below BW)
  have x0 : W.cell? ⟨w1.heap.size, 0, none⟩ = some (.int .i64 c) := blk_cell hN 0
  have x1 : W.cell? ⟨w1.heap.size, 1, none⟩ = some (.slice P1 s.recs.length p1) := blk_cell hN 1
  have HN := hide hN
  clear hbA q1 B1 hN HTB hrr
  by_cases hc : c = -1
  · have HT := hide (show ans = Nm.mk Ans.noWorld by rw [HANS.out]; unfold Ans.text; rw [if_pos hc])
    have hcb : (c == -1) = true := by simp [hc]
    clear hc
    go_wp2_with fail
    go_ret
    exact ⟨ret_str HT.out.symm, BW⟩
  have HT := hide (show ans = Nm.mk (Ans.recsText s.recs ++ Ans.ringsText s.rings ++ (Ans.lastW c ++ [10])) by rw [HANS.out]; unfold Ans.text; rw [if_neg hc])
  have hcb : (c == -1) = false := by simpa using hc
  have hc0 : 0 ≤ c := by have := HF.out.code.1; simp only at this; omega
  have hc7 : c ≤ 7 := HF.out.code.2
  obtain ⟨cq, rfl⟩ := Int.eq_ofNat_of_zero_le hc0
  have hcq : cq < 8 := by omega
  clear hc hc0 hc7 HANS
  obtain ⟨L1, hL1⟩ : ∃ L, s.recs.length = L := ⟨_, rfl⟩
  obtain ⟨L3, hL3⟩ : ∃ L, s.rings.length = L := ⟨_, rfl⟩
  rw [hL1] at x1
  have HL1 := hide hL1
  have HL3 := hide hL3
  have hL9 : L1 ≤ 9000 := by rw [← hL1]; exact HF.out.nr
  have hL8 : L3 ≤ 9000 := by rw [← hL3]; exact HF.out.ng
  clear hL1 hL3
  go_wp2_with fail
  clear x1 x0
  go_loopw [6, 8, 9, 21] (fun out _ _ v wr => ∃ k : Nat, v = .int .i64 k ∧ k ≤ L1 ∧ out = .string (Nm.mk (Ans.recsText (s.recs.take k))) ∧ Below W.heap.size W wr) (fun _ _ _ v _ => L1 - (intOf v).toNat)
  case atStart => exact ⟨0, rfl, Nat.zero_le _, rfl, Below.refl _ _⟩
  case round =>
    obtain ⟨k, rfl, hk, rfl, HB⟩ := hrel
    by_cases hlt : k < L1
    · have hlt' : k < s.recs.length := by rw [HL1.out]; exact hlt
      obtain ⟨ad, hA, l0, l1, l2, l3⟩ := (Q1.out.below HB).get hlt'
      subst hA
      have e0 : wr.cell? (ad.add (k * 4)) = some (.int .i64 s.recs[k].kind) := l0.2
      have e1 : wr.cell? ⟨(ad.add (k * 4)).block, (ad.add (k * 4)).off + 1, none⟩ = some (.string s.recs[k].name) := by have := l1.2; rwa [add_pos _ _ (by omega)] at this
      have e2 : wr.cell? ⟨(ad.add (k * 4)).block, (ad.add (k * 4)).off + 2, none⟩ = some (.int .i64 s.recs[k].code) := by have := l2.2; rwa [add_pos _ _ (by omega)] at this
      have e3 : wr.cell? ⟨(ad.add (k * 4)).block, (ad.add (k * 4)).off + 3, none⟩ = some (.int .i64 s.recs[k].num) := by have := l3.2; rwa [add_pos _ _ (by omega)] at this
      clear l0 l1 l2 l3
      have hx := HF.out.recs _ (List.getElem_mem hlt')
      have hrt := Ans.recsText_at (List.getElem?_eq_getElem hlt')
      have hsm := (HF.out.small k).1
      replace hsm : (Ans.recsText (s.recs.take k)).length ≤ 909000 := hsm
      generalize s.recs[k] = x at e0 e1 e2 e3 hx hrt
      obtain ⟨fk, fn, fc, fm⟩ := x
      replace e0 : wr.cell? (ad.add (k * 4)) = some (.int .i64 fk) := e0
      replace e1 : wr.cell? ⟨(ad.add (k * 4)).block, (ad.add (k * 4)).off + 1, none⟩ = some (.string fn) := e1
      replace e2 : wr.cell? ⟨(ad.add (k * 4)).block, (ad.add (k * 4)).off + 2, none⟩ = some (.int .i64 fc) := e2
      replace e3 : wr.cell? ⟨(ad.add (k * 4)).block, (ad.add (k * 4)).off + 3, none⟩ = some (.int .i64 fm) := e3
      replace hx : (1 ≤ fk ∧ fk ≤ 6) ∧ (0 ≤ fc ∧ fc ≤ 7) ∧ fn.size ≤ 60 ∧ Ans.In64 fm := hx
      obtain ⟨⟨hk1, hk6⟩, ⟨hc1, hc6⟩, hfn, hfm⟩ := hx
      obtain ⟨q, rfl⟩ := Int.eq_ofNat_of_zero_le (show (0 : Int) ≤ fk by omega)
      obtain ⟨r, rfl⟩ := Int.eq_ofNat_of_zero_le hc1
      have hq7 : q < 7 := by omega
      have hr8 : r < 8 := by omega
      have hmlo : -9223372036854775808 ≤ fm := hfm.1
      have hmhi : fm ≤ 9223372036854775807 := hfm.2
      have HRT := hide hrt
      have hlen := Ans.line_len (x := ⟨q, fn, r, fm⟩) hfn hfm
      clear hrt hk1 hk6 hc1 hc6 hfm hlt'
      go_upto_region 8 with fail
      have hbx : Below wr.heap.size wr (wr.alloc (Obj.cells #[.int .i64 q, .string fn, .int .i64 r, .int .i64 fm] 39)) := by (repeat (first | with_reducible exact Below.refl _ _ | with_reducible assumption | with_reducible refine Below.alloc ?_ (by first | exact Nat.le_refl _ | exact Below.size (by assumption) | exact Nat.le_trans (Below.size (by assumption)) (by simp; done) | (simp; done) | (simp; omega) | omega) _ | with_reducible refine below_drewN ?_ _ | with_reducible refine Below.drew ?_ | with_reducible refine Below.setCell ?_ (by first | exact Nat.le_refl _ | (simp; done) | (simp; omega) | omega) _))
      have hbk := heap_alloc_new wr (Obj.cells #[.int .i64 q, .string fn, .int .i64 r, .int .i64 fm] 39)
      have hzx : wr.heap.size < (wr.alloc (Obj.cells #[.int .i64 q, .string fn, .int .i64 r, .int .i64 fm] 39)).heap.size := by simp
      generalize wr.alloc (Obj.cells #[.int .i64 q, .string fn, .int .i64 r, .int .i64 fm] 39) = wx at hbx hbk hzx ⊢
      have HBX := hide hbk
      have HBB := below_then HB HB.size hbx
      have y0 : wx.cell? ⟨wr.heap.size, 0, none⟩ = some (.int .i64 q) := blk_cell hbk 0
      obtain ⟨ka, hka, hkx⟩ := (HTW.out.below HBB).kinds
      replace hka : wx.cell? ⟨0, 0, none⟩ = some (.slice (some ka) 7 7) := hka
      have kw := hkx q _ (Ans.kindWs_at hq7)
      clear hbx HB e0 e1 e2 e3 hbk hkx
      go_upto_region 9 with fail
      have hbl : Below wx.heap.size wx (wx.alloc (Obj.cells #[.string (Nm.mk (Ans.kindW q))] 9)) := by (repeat (first | with_reducible exact Below.refl _ _ | with_reducible assumption | with_reducible refine Below.alloc ?_ (by first | exact Nat.le_refl _ | exact Below.size (by assumption) | exact Nat.le_trans (Below.size (by assumption)) (by simp; done) | (simp; done) | (simp; omega) | omega) _ | with_reducible refine below_drewN ?_ _ | with_reducible refine Below.drew ?_ | with_reducible refine Below.setCell ?_ (by first | exact Nat.le_refl _ | (simp; done) | (simp; omega) | omega) _))
      have hol : Own fStr (wx.alloc (Obj.cells #[.string (Nm.mk (Ans.kindW q))] 9)) wx.heap.size 9 (.slice (some ⟨wx.heap.size, 0, none⟩) 1 1) [Nm.mk (Ans.kindW q)] := World.ownsRow_lit wx #[.string (Nm.mk (Ans.kindW q))] 1 (Nat.le_refl _) (by decide) rfl
      clear y0 hka kw
      have HOL := hide hol
      have hbk1 := hide ((hbl.block _ hzx).trans HBX.out)
      have y1 : (wx.alloc (Obj.cells #[.string (Nm.mk (Ans.kindW q))] 9)).cell? ⟨wr.heap.size, 1, none⟩ = some (.string fn) := blk_cell hbk1.out 1
      clear hol
      obtain ⟨T1, hT1⟩ : ∃ T, T = [Nm.mk (Ans.kindW q)] ++ (if fn = ⟨#[]⟩ then [] else [fn]) := ⟨_, rfl⟩
      have hT1l : T1.length ≤ 2 := by rw [hT1]; split <;> simp
      have HT1 := hide hT1
      clear hT1
      go_upto_if 33 with fail
      go_cut [9] (fun v wy => Own fStr wy wx.heap.size 9 v T1 ∧ Below wx.heap.size wx wy)
      case first =>
        generalize hbq : (!fn.toList.isEmpty) = bq
        cases bq
        · have hfe : fn = ⟨#[]⟩ := no_text hbq
          have HT2 := hide (show T1 = [Nm.mk (Ans.kindW q)] by rw [HT1.out, if_pos hfe]; rfl)
          clear hfe hbq
          go_wp2_with fail
          go_meet
          exact ⟨by rw [HT2.out]; exact HOL.out, hbl⟩
        · have hfe : fn ≠ ⟨#[]⟩ := a_text hbq
          have HT2 := hide (show T1 = [Nm.mk (Ans.kindW q)] ++ [fn] by rw [HT1.out, if_neg hfe])
          clear hfe hbq
          go_wp2_with (at_builtin; refine append_own_g fStr wx.heap.size rfl _ _ 23 9 (.string ByteArray.empty) 16 rfl Tryz.underlying23 info_str8 rfl (by omega) (.slice (some ⟨wx.heap.size, 0, none⟩) 1 1) [Nm.mk (Ans.kindW q)] fn #[.string fn] rfl rfl (wx.heap.size + 1) (by simp) rfl HOL.out hbl hbl.size (by simp) ?_; intro v6 w6 hown6 hbel6 _ _)
          go_meet
          exact ⟨by rw [HT2.out]; exact hown6, hbel6⟩
      case rest =>
        obtain ⟨HO1, hbc⟩ := hcut
        obtain ⟨lA, lc, hlv, _, _, _⟩ := HO1.slV
        subst hlv
        clear y1 HOL hbk1 hbl
        obtain ⟨wy, rfl⟩ : ∃ wy : World, wy = wc := ⟨_, rfl⟩
        have hbk := hide ((hbc.block _ hzx).trans HBX.out)
        have hzc := hbc.size
        have y2 : wy.cell? ⟨wr.heap.size, 2, none⟩ = some (.int .i64 r) := blk_cell hbk.out 2
        obtain ⟨ca, hca, hcx⟩ := (HTW.out.below (HBB.trans (hbc.mono HBB.size))).words
        replace hca : wy.cell? ⟨1, 0, none⟩ = some (.slice (some ca) 8 8) := hca
        have cw := hcx r _ (Ans.codeWs_at hr8)
        clear hcx
        obtain ⟨T2, hT2⟩ : ∃ T, T = T1 ++ (if (r : Int) = 0 then [] else [Nm.mk (Ans.codeW r)]) := ⟨_, rfl⟩
        have hT2l : T2.length ≤ 3 := by rw [hT2]; split <;> simp <;> omega
        have HT2 := hide hT2
        have HO1H := hide HO1
        have hcase : r = 0 ∨ ((r : Int) == 0) = false ∧ r ≠ 0 := by
          by_cases h0 : r = 0
          · exact .inl h0
          · exact .inr ⟨by simp; omega, h0⟩
        clear hT2 HO1
        go_upto_if 41 with fail
        go_cut [9] (fun v wz => Own fStr wz wx.heap.size 9 v T2 ∧ Below wx.heap.size wx wz)
        case first =>
          rcases hcase with rfl | ⟨hr0, hrn⟩
          · have HT3 := hide (show T2 = T1 by rw [HT2.out, if_pos (by rfl), List.append_nil])
            have hE2 : (((0 : Nat) : Int) != 0) = false := rfl
            go_wp2_with fail
            go_meet
            exact ⟨by rw [HT3.out]; exact HO1H.out, hbc⟩
          · have HT3 := hide (show T2 = T1 ++ [Nm.mk (Ans.codeW r)] by rw [HT2.out, if_neg (show ¬ (r : Int) = 0 by omega)])
            have hE2 : ((r : Int) != 0) = true := by simp; omega
            clear hrn
            go_wp2_with (at_builtin; refine append_own_g fStr wx.heap.size rfl _ _ 23 9 (.string ByteArray.empty) 16 rfl Tryz.underlying23 info_str8 rfl (by omega) (.slice lA T1.length lc) T1 (Nm.mk (Ans.codeW r)) #[.string (Nm.mk (Ans.codeW r))] rfl rfl wy.heap.size rfl rfl HO1H.out hbc hbc.size (by omega) ?_; intro v6 w6 hown6 hbel6 _ _)
            go_meet
            exact ⟨by rw [HT3.out]; exact hown6, hbel6⟩
        case rest =>
          obtain ⟨HO2, hbd⟩ := hcut
          obtain ⟨mA, mc, hlv, _, _, _⟩ := HO2.slV
          subst hlv
          clear y2 hca cw hcase HO1H hbk hbc hzc
          obtain ⟨wz, rfl⟩ : ∃ wz : World, wz = wc := ⟨_, rfl⟩
          have hbk := hide ((hbd.block _ hzx).trans HBX.out)
          have hzd := hbd.size
          have y0 : wz.cell? ⟨wr.heap.size, 0, none⟩ = some (.int .i64 q) := blk_cell hbk.out 0
          have y2 : wz.cell? ⟨wr.heap.size, 2, none⟩ = some (.int .i64 r) := blk_cell hbk.out 2
          have y3 : wz.cell? ⟨wr.heap.size, 3, none⟩ = some (.int .i64 fm) := blk_cell hbk.out 3
          obtain ⟨T3, hT3⟩ : ∃ T, T = Ans.strsOf q fn r fm := ⟨_, rfl⟩
          have hT3e : T3 = T2 ++ (if Ans.tells ⟨q, fn, r, fm⟩ = true then [decT fm] else []) := by rw [hT3]; unfold Ans.strsOf; rw [HT2.out, HT1.out]
          have hT3l : T3.length ≤ 4 := by rw [hT3e]; split <;> simp <;> omega
          have HT3 := hide hT3
          have HT3e := hide hT3e
          have HO2H := hide HO2
          clear hT3 hT3e HO2
          obtain ⟨tl, htl⟩ : ∃ tl : Bool, Ans.tells ⟨q, fn, r, fm⟩ = tl := ⟨_, rfl⟩
          have HTL := hide htl
          have htz := HTW.out.below (HBB.trans (hbd.mono HBB.size))
          have HTZ := hide htz
          clear htz htl
          go_upto_region 13 with fail
          go_cut [67] (fun v wz' => v = .bool tl ∧ Below wz.heap.size wz wz')
          case first =>
            have ht : Ans.tells ⟨q, fn, r, fm⟩ = (((q : Int) == 3) || ((q : Int) == 4) || (((r : Int) == 6) && ((q : Int) == 5))) := rfl
            rw [HTL.out] at ht
            have HTE := hide ht
            clear ht
            generalize h3 : ((q : Int) == 3) = a at HTE
            generalize h4 : ((q : Int) == 4) = b at HTE
            generalize h6 : ((r : Int) == 6) = cc at HTE
            generalize h5 : ((q : Int) == 5) = d at HTE
            cases a <;> cases b <;> cases cc <;> cases d
            all_goals
              go_wp2_with fail
              go_meet
              exact ⟨by rw [HTE.out]; rfl, by (repeat (first | with_reducible exact Below.refl _ _ | with_reducible assumption | with_reducible refine Below.alloc ?_ (by first | exact Nat.le_refl _ | exact Below.size (by assumption) | exact Nat.le_trans (Below.size (by assumption)) (by simp; done) | (simp; done) | (simp; omega) | omega) _ | with_reducible refine below_drewN ?_ _ | with_reducible refine Below.drew ?_ | with_reducible refine Below.setCell ?_ (by first | exact Nat.le_refl _ | (simp; done) | (simp; omega) | omega) _))⟩
          case rest =>
            obtain ⟨rfl, hbt⟩ := hcut
            clear y0 y2 y3
            have HO2H := hide (HO2H.out.below hbt)
            have HTZ := hide (HTZ.out.below hbt)
            have hbd := below_then hbd hbd.size hbt
            have y3 : wc.cell? ⟨wr.heap.size, 3, none⟩ = some (.int .i64 fm) := blk_cell ((hbd.block _ hzx).trans HBX.out) 3
            clear hbt hbk hzd
            obtain ⟨wt, rfl⟩ : ∃ wt : World, wt = wc := ⟨_, rfl⟩
            go_upto_if 67 with fail
            go_cut [9] (fun v wz' => Own fStr wz' wx.heap.size 9 v T3 ∧ Below wx.heap.size wx wz')
            case first =>
              cases tl
              · have HQ := hide (show T3 = T2 by rw [HT3e.out, HTL.out, if_neg (by simp), List.append_nil])
                clear HT3e HTL
                go_wp2_with fail
                go_meet
                exact ⟨by rw [HQ.out]; exact HO2H.out, hbd⟩
              · have HQ := hide (show T3 = T2 ++ [decT fm] by rw [HT3e.out, HTL.out, if_pos rfl])
                clear HT3e HTL
                go_wp2_with fail
                refine (fmt_calls fm _ hmlo hmhi HTZ.out).mono ?_
                rintro e w5 ⟨rfl, hb5⟩
                have HO3 := HO2H.out.below hb5
                have hb35 : Below wx.heap.size wx w5 := below_then hbd hbd.size hb5
                go_wp2_with (at_builtin; refine append_own_g fStr wx.heap.size rfl _ _ 23 9 (.string ByteArray.empty) 16 rfl Tryz.underlying23 info_str8 rfl (by omega) (.slice mA T2.length mc) T2 (decT fm) #[.string (decT fm)] rfl rfl w5.heap.size rfl rfl HO3 hb35 hb35.size (by omega) ?_; intro v6 w6 hown6 hbel6 _ _)
                go_meet
                exact ⟨by rw [HQ.out]; exact hown6, hbel6⟩
            case rest =>
              obtain ⟨HO3, hbe⟩ := hcut
              obtain ⟨nA, nc, hlv, _, _, _⟩ := HO3.slV
              subst hlv
              have hne : T3 ≠ [] := by
                intro e
                have := congrArg List.length e
                rw [HT3.out] at this
                simp [Ans.strsOf] at this
              have hjl : Lib.join (T3.map (·.data.toList)) [32] = Ans.line ⟨q, fn, r, fm⟩ := by rw [HT3.out, Ans.strs_words, Ans.join_line]
              have hjo := join_own ⟨#[32]⟩ HO3 hne (by omega) (by show (Lib.join _ [32]).length ≤ _; rw [hjl]; omega)
              replace hjo : Calls Tryz.prog 31 #[.slice nA T3.length nc, .string ⟨#[32]⟩] wc fun e w' => e = .returned (.string (Nm.mk (Lib.join (T3.map (·.data.toList)) [32]))) ∧ Below wc.heap.size wc w' := hjo
              rw [hjl] at hjo
              have HJO := hide hjo
              clear hjo hjl hne y3 HO2H HO3 HT3 HT3e HTZ HTL
              have hnl := fun W : World => run_string_add_sum (P := Tryz.prog) (w := W) (Nm.mk (Ans.line ⟨q, fn, r, fm⟩)) ⟨#[10]⟩ (by rw [mk_size]; show _ + 1 ≤ _; omega)
              have hcat := fun W : World => run_string_add_sum (P := Tryz.prog) (w := W) (Nm.mk (Ans.recsText (s.recs.take k))) (Nm.mk (Ans.line ⟨q, fn, r, fm⟩ ++ [10])) (by rw [mk_size, mk_size]; simp; omega)
              have hcm : Nm.mk (Ans.recsText (s.recs.take k)) ++ Nm.mk (Ans.line ⟨q, fn, r, fm⟩ ++ [10]) = Nm.mk (Ans.recsText (s.recs.take (k + 1))) := by rw [HRT.out]; exact Nm.bs_inj (by simp [Nm.bs, Nm.mk])
              rw [hcm] at hcat
              rw [nl_mk] at hnl
              clear hcm
              obtain ⟨wq, rfl⟩ : ∃ wq : World, wq = wc := ⟨_, rfl⟩
              go_wp2_with fail
              refine HJO.out.mono ?_
              rintro e w5 ⟨rfl, hb5⟩
              go_wp2_with fail
              go_roundw
              case rel => exact ⟨k + 1, by go_num, by omega, rfl, below_then (HBB.trans (hbe.mono HBB.size)) (Nat.le_trans HBB.size hbe.size) hb5⟩
              case measure => simp [intOf]; omega
    · obtain rfl : k = L1 := by omega
      have hrt : Ans.recsText (s.recs.take k) = Ans.recsText s.recs := by rw [← HL1.out, List.take_length]
      rw [hrt]
      have hsm := (HF.out.small 0).2.1
      replace hsm : (Ans.recsText s.recs).length ≤ 909000 := hsm
      have x4 : wr.cell? ⟨w1.heap.size, 4, none⟩ = some (.slice P3 s.rings.length p3) := blk_cell ((HB.block _ hzA).trans HN.out) 4
      rw [HL3.out] at x4
      clear hlt hk hrt
      go_wp2_with fail
      clear x4
      obtain ⟨wk, rfl⟩ : ∃ wk : World, wk = wr := ⟨_, rfl⟩
      go_loopw [6, 11, 83] (fun out _ v wr => ∃ k : Nat, v = .int .i64 k ∧ k ≤ L3 ∧ out = .string (Nm.mk (Ans.recsText s.recs ++ Ans.ringsText (s.rings.take k))) ∧ Below W.heap.size W wr) (fun _ _ v _ => L3 - (intOf v).toNat)
      case atStart => exact ⟨0, rfl, Nat.zero_le _, by rw [List.take_zero]; show _ = Value.string (Nm.mk (_ ++ [])); rw [List.append_nil], HB⟩
      case round =>
        clear HB
        obtain ⟨k, rfl, hk, rfl, HB⟩ := hrel
        have hsm3 := (HF.out.small k).2.2
        replace hsm3 : (Ans.ringsText (s.rings.take k)).length ≤ 22005000 := hsm3
        by_cases hlt : k < L3
        · have hlt' : k < s.rings.length := by rw [HL3.out]; exact hlt
          obtain ⟨gR, capR, A4, c4, hv4, hc4, ho4, hset⟩ := OwnR.at_ (HRR.out.below HB) (List.getElem?_eq_getElem hlt')
          simp only [Value.slice.injEq] at hv4
          obtain ⟨rfl, _, rfl⟩ := hv4
          clear hset
          have hx := HF.out.rings _ (List.getElem_mem hlt')
          have hrt := Ans.ringsText_at (List.getElem?_eq_getElem hlt')
          have hfl := Ans.flat_len hx.2.2
          generalize s.rings[k] = x at hc4 hx hrt ho4 hfl
          have hx40 : x.length ≤ 40 := hx.2.1
          have hrj := ring_join hx.1
          have hrl : (Ans.ringLine x).length = 4 + (x.flatMap fun s => 32 :: Nm.bs s).length := by unfold Ans.ringLine Ans.ringW; simp; omega
          have hjn : (Lib.join (x.map (·.data.toList)) [32]).length ≤ 3000 := by have := congrArg List.length hrj; simp [Ans.ringW] at this; omega
          have hjo := join_own ⟨#[32]⟩ ho4 hx.1 (by omega) (by show (Lib.join _ [32]).length ≤ _; omega)
          replace hjo : Calls Tryz.prog 31 #[.slice A4 x.length c4, .string ⟨#[32]⟩] wr fun e w' => e = .returned (.string (Nm.mk (Lib.join (x.map (·.data.toList)) [32]))) ∧ Below wr.heap.size wr w' := hjo
          have HJO := hide hjo
          have HRJ := hide hrj
          have HRT := hide hrt
          clear hrt hx hjo hrj ho4 hlt'
          generalize Lib.join (x.map (·.data.toList)) [32] = J at HJO HRJ hjn
          have ha1 := fun W : World => run_string_add_sum (P := Tryz.prog) (w := W) ⟨#[114, 105, 110, 103, 32]⟩ (Nm.mk J) (by show 5 + _ ≤ _; rw [mk_size]; omega)
          have hm1 : (⟨#[114, 105, 110, 103, 32]⟩ : Str) ++ Nm.mk J = Nm.mk (Ans.ringLine x) := by rw [← HRJ.out]; exact Nm.bs_inj (by simp [Nm.bs, Nm.mk, Ans.ringW])
          rw [hm1] at ha1
          have hnl := fun W : World => run_string_add_sum (P := Tryz.prog) (w := W) (Nm.mk (Ans.ringLine x)) ⟨#[10]⟩ (by rw [mk_size]; show _ + 1 ≤ _; omega)
          rw [nl_mk] at hnl
          have hcat := fun W : World => run_string_add_sum (P := Tryz.prog) (w := W) (Nm.mk (Ans.recsText s.recs ++ Ans.ringsText (s.rings.take k))) (Nm.mk (Ans.ringLine x ++ [10])) (by rw [mk_size, mk_size]; simp; omega)
          have hcm : Nm.mk (Ans.recsText s.recs ++ Ans.ringsText (s.rings.take k)) ++ Nm.mk (Ans.ringLine x ++ [10]) = Nm.mk (Ans.recsText s.recs ++ Ans.ringsText (s.rings.take (k + 1))) := by rw [HRT.out]; exact Nm.bs_inj (by simp [Nm.bs, Nm.mk])
          rw [hcm] at hcat
          clear hm1 hcm
          have e1 : wr.cell? ⟨gR, k, none⟩ = some (.slice A4 x.length c4) := hc4
          clear hc4
          go_wp2_with fail
          refine HJO.out.mono ?_
          rintro e w5 ⟨rfl, hb5⟩
          go_wp2_with fail
          go_roundw
          case rel => exact ⟨k + 1, by go_num, by omega, rfl, below_then HB HB.size hb5⟩
          case measure => simp [intOf]; omega
        · obtain rfl : k = L3 := by omega
          have hrt : Ans.ringsText (s.rings.take k) = Ans.ringsText s.rings := by rw [← HL3.out, List.take_length]
          rw [hrt] at hsm3 ⊢
          have x0 : wr.cell? ⟨w1.heap.size, 0, none⟩ = some (.int .i64 cq) := blk_cell ((HB.block _ hzA).trans HN.out) 0
          obtain ⟨ca, hca, hcx⟩ := (HTW.out.below HB).words
          replace hca : wr.cell? ⟨1, 0, none⟩ = some (.slice (some ca) 8 8) := hca
          have cw := hcx cq _ (Ans.codeWs_at hcq)
          have hcl := Ans.codeW_len cq
          clear hcx hlt hk hrt
          have HBF := hide (below_then BW BW.size HB)
          have hcase : (cq = 0 ∧ Ans.lastW cq = Ans.loadedW) ∨ (((cq : Int) == 0) = false ∧ Ans.lastW cq = Ans.notLoadedW ++ Ans.codeW cq) := by
            by_cases h0 : cq = 0
            · exact .inl ⟨h0, by unfold Ans.lastW; rw [if_pos (by omega)]⟩
            · exact .inr ⟨by simp; omega, by unfold Ans.lastW; rw [if_neg (by omega)]⟩
          rcases hcase with ⟨rfl, hlw⟩ | ⟨hr0, hlw⟩
          · have ha1 := fun W : World => run_string_add_sum (P := Tryz.prog) (w := W) (Nm.mk (Ans.recsText s.recs ++ Ans.ringsText s.rings)) ⟨#[108, 111, 97, 100, 101, 100, 10]⟩ (by rw [mk_size]; show _ + 7 ≤ _; simp; omega)
            have hcm : Nm.mk (Ans.recsText s.recs ++ Ans.ringsText s.rings) ++ (⟨#[108, 111, 97, 100, 101, 100, 10]⟩ : Str) = ans := by rw [HT.out, hlw]; exact Nm.bs_inj (by simp [Nm.bs, Nm.mk, Ans.loadedW])
            rw [hcm] at ha1
            clear hcm hlw
            go_wp2_with fail
            go_ret
            exact ⟨rfl, HBF.out⟩
          · have hz0 : (Nm.mk (Ans.recsText s.recs ++ Ans.ringsText s.rings)).size ≤ 30000000 := by rw [mk_size]; simp; omega
            have hT : ans = Nm.mk (Ans.recsText s.recs ++ Ans.ringsText s.rings) ++ (⟨#[110, 111, 116, 32, 108, 111, 97, 100, 101, 100, 58, 32]⟩ : Str) ++ Nm.mk (Ans.codeW cq) ++ (⟨#[10]⟩ : Str) := by rw [HT.out, hlw]; exact Nm.bs_inj (by simp [Nm.bs, Nm.mk, Ans.notLoadedW])
            generalize Nm.mk (Ans.recsText s.recs ++ Ans.ringsText s.rings) = U0 at hz0 hT ⊢
            have hzc : (Nm.mk (Ans.codeW cq)).size ≤ 6 := by rw [mk_size]; exact hcl
            generalize Nm.mk (Ans.codeW cq) = U1 at hzc hT cw
            have ha1 := fun W : World => run_string_add_sum (P := Tryz.prog) (w := W) U0 ⟨#[110, 111, 116, 32, 108, 111, 97, 100, 101, 100, 58, 32]⟩ (by show _ + 12 ≤ _; omega)
            have hz1 : (U0 ++ (⟨#[110, 111, 116, 32, 108, 111, 97, 100, 101, 100, 58, 32]⟩ : Str)).size ≤ 30000012 := by rw [ByteArray.size_append]; show _ + 12 ≤ _; omega
            generalize U0 ++ (⟨#[110, 111, 116, 32, 108, 111, 97, 100, 101, 100, 58, 32]⟩ : Str) = U2 at ha1 hz1 hT
            have ha2 := fun W : World => run_string_add_sum (P := Tryz.prog) (w := W) U2 U1 (by omega)
            have hz2 : (U2 ++ U1).size ≤ 30000018 := by rw [ByteArray.size_append]; omega
            generalize U2 ++ U1 = U3 at ha2 hz2 hT
            have ha3 := fun W : World => run_string_add_sum (P := Tryz.prog) (w := W) U3 ⟨#[10]⟩ (by show _ + 1 ≤ _; omega)
            rw [← hT] at ha3
            clear hT hlw
            go_wp2_with fail
            go_ret
            exact ⟨rfl, HBF.out⟩
end Go.Proofs.YtkhlicmlnjccdaaGreatDoor
