/-
  Walk: the reference's Answer.
-/
import Derived.Test.YtkhlicmlnjccdaaGreatDoorKt16
import Derived.Test.YtkhlicmlnjccdaaGreatDoorKt10
import Derived.Test.YtkhlicmlnjccdaaGreatDoorKt39
import Derived.Test.YtkhlicmlnjccdaaGreatDoorKt27
import Derived.Deep.CutBlock
import Derived.Deep.DeepCutAuto
namespace Go.Proofs.YtkhlicmlnjccdaaGreatDoor
open Go.RowKit Mem

theorem kindW_cells (w : World) (b : Nat) (t : TypeId) (h : w.heap[b]? = some (Obj.cells #[.string ⟨#[]⟩, .string ⟨#[114, 101, 97, 100]⟩, .string ⟨#[98, 101, 103, 105, 110]⟩, .string ⟨#[115, 97, 121]⟩, .string ⟨#[101, 110, 100]⟩, .string ⟨#[102, 97, 105, 108]⟩, .string ⟨#[99, 97, 116, 99, 104]⟩] t (0, 0))) (q : Nat) (hq : q < 7) :
    w.cell? ⟨b, q, none⟩ = some (.string (Nm.mk (Ans.kindW q))) := by
  rw [blk_cell h q]
  rcases q with _ | _ | _ | _ | _ | _ | _ | q <;> first | rfl | omega
theorem codeW_cells (w : World) (b : Nat) (t : TypeId) (h : w.heap[b]? = some (Obj.cells #[.string ⟨#[]⟩, .string ⟨#[110, 97, 109, 101]⟩, .string ⟨#[97, 98, 115, 101, 110, 116]⟩, .string ⟨#[98, 114, 111, 107, 101, 110]⟩, .string ⟨#[114, 105, 110, 103]⟩, .string ⟨#[102, 97, 105, 108, 101, 100]⟩, .string ⟨#[116, 104, 114, 111, 119, 110]⟩, .string ⟨#[100, 101, 101, 112]⟩] t (0, 0))) (q : Nat) (hq : q < 8) :
    w.cell? ⟨b, q, none⟩ = some (.string (Nm.mk (Ans.codeW q))) := by
  rw [blk_cell h q]
  rcases q with _ | _ | _ | _ | _ | _ | _ | _ | q <;> first | rfl | omega
theorem mk_size (l : List UInt8) : (Nm.mk l).size = l.length := by rw [← Nm.bs_length, Nm.bs_mk]
theorem sp_mk (l : List UInt8) (s : Str) : Nm.mk l ++ ((⟨#[32]⟩ : Str) ++ s) = Nm.mk (l ++ 32 :: Nm.bs s) := Nm.bs_inj (by simp [Nm.bs, Nm.mk])
theorem nl_mk (l : List UInt8) : Nm.mk l ++ (⟨#[10]⟩ : Str) = Nm.mk (l ++ [10]) := Nm.bs_inj (by simp [Nm.bs, Nm.mk])
theorem no_text {s : Str} (h : (!s.toList.isEmpty) = false) : s = ⟨#[]⟩ := by
  by_cases he : s = ⟨#[]⟩
  · exact he
  · rw [tl_n he] at h; simp at h
theorem a_text {s : Str} (h : (!s.toList.isEmpty) = true) : s ≠ ⟨#[]⟩ := fun he => by rw [tl_e he] at h; simp at h
theorem sp_size (s : Str) : ((⟨#[32]⟩ : Str) ++ s).size = 1 + s.size := by rw [ByteArray.size_append]; rfl

set_option maxRecDepth 100000 in
set_option maxHeartbeats 4000000 in
theorem sAnswer_calls (D : WorldD) (vR vM vF : Value) (S : Nat → Prop) (w : World) (h : WIn w S vR vM vF D) (hz : WSz D) (name : Str) (hn : name.size ≤ 1048576) (hf : Ans.Fine (Ld.load D name)) :
    Calls Tryz.prog 12 #[.agg #[vR, vM, vF], .string name] w fun e w' => e = .returned (.string (Ans.answer D name)) ∧ Below w.heap.size w w' := by
  have hs := h
  obtain ⟨⟨A1, c1, rfl, _, _, _⟩, ⟨A2, c2, rfl, _, _, _⟩, ⟨A3, c3, rfl, _, _, _⟩⟩ := hs
  have hb0 : Below w.heap.size w (w.alloc (Obj.cells #[.slice A1 D.roots.length c1, .slice A2 D.mods.length c2, .slice A3 D.faults.length c3] 27)) := by (repeat (first | with_reducible exact Below.refl _ _ | with_reducible assumption | with_reducible refine Below.alloc ?_ (by first | exact Nat.le_refl _ | exact Below.size (by assumption) | exact Nat.le_trans (Below.size (by assumption)) (by simp; done) | (simp; done) | (simp; omega) | omega) _ | with_reducible refine below_drewN ?_ _ | with_reducible refine Below.drew ?_ | with_reducible refine Below.setCell ?_ (by first | exact Nat.le_refl _ | (simp; done) | (simp; omega) | omega) _))
  have hsl := sLoad_calls D _ _ _ S _ (h.below hb0) hz name hn
  obtain ⟨c, s, hq⟩ : ∃ c s, Ld.load D name = (c, s) := ⟨_, _, rfl⟩
  have HANS := hide (show Ans.answer D name = Nm.mk (Ans.text (c, s)) by unfold Ans.answer; rw [hq])
  rw [hq] at hf hsl
  have HSL := hide hsl
  have HF := hide hf
  generalize Ans.answer D name = ans at HANS ⊢
  clear hq hsl h hf
  go_enter Tryz.func12, Tryz.ntmps12
  go_wp2_with fail
  refine (unhide HSL).mono ?_
  rintro e w1 ⟨vc, vs, vr, rfl, hrep, hb1⟩
  have HRG := hrep.rg
  obtain ⟨⟨P1, p1, rfl, _, _, q1⟩, ⟨P2, p2, rfl, _, _, q2⟩, ⟨P3, p3, rfl, _, _, q3⟩⟩ := HRG
  have B1 := below_then hb0 hb0.size hb1
  clear hrep hb1 hb0 HSL q2
  dsimp only
  have hbA : Below w1.heap.size w1 (w1.alloc (Obj.cells #[.int .i64 c, .slice P1 s.recs.length p1, .slice P2 s.states.length p2, .int .i64 s.reads, .slice P3 s.rings.length p3] 34)) := by (repeat (first | with_reducible exact Below.refl _ _ | with_reducible assumption | with_reducible refine Below.alloc ?_ (by first | exact Nat.le_refl _ | exact Below.size (by assumption) | exact Nat.le_trans (Below.size (by assumption)) (by simp; done) | (simp; done) | (simp; omega) | omega) _ | with_reducible refine below_drewN ?_ _ | with_reducible refine Below.drew ?_ | with_reducible refine Below.setCell ?_ (by first | exact Nat.le_refl _ | (simp; done) | (simp; omega) | omega) _))
  have hN := heap_alloc_new w1 (Obj.cells #[.int .i64 c, .slice P1 s.recs.length p1, .slice P2 s.states.length p2, .int .i64 s.reads, .slice P3 s.rings.length p3] 34)
  have hzA : w1.heap.size < (w1.alloc (Obj.cells #[.int .i64 c, .slice P1 s.recs.length p1, .slice P2 s.states.length p2, .int .i64 s.reads, .slice P3 s.rings.length p3] 34)).heap.size := by simp
  go_upto_region 2 with fail
  generalize w1.alloc (Obj.cells #[.int .i64 c, .slice P1 s.recs.length p1, .slice P2 s.states.length p2, .int .i64 s.reads, .slice P3 s.rings.length p3] 34) = W at hbA hN hzA ⊢
  have BW := below_then B1 B1.size hbA
  have R1 := q1.below hbA
  have R3 := q3.below hbA
  have x0 : W.cell? ⟨w1.heap.size, 0, none⟩ = some (.int .i64 c) := blk_cell hN 0
  have x1 : W.cell? ⟨w1.heap.size, 1, none⟩ = some (.slice P1 s.recs.length p1) := blk_cell hN 1
  clear hbA q1 q3 B1
  by_cases hc : c = -1
  · have HT := hide (show ans = Nm.mk Ans.noWorld by rw [HANS.out]; unfold Ans.text; rw [if_pos hc])
    have hcb : (c == -1) = true := by simp [hc]
    clear hc
    go_wp2_with fail
    go_ret
    exact ⟨ret_str HT.out.symm, BW⟩
  have HT := hide (show ans = Nm.mk (Ans.recsText s.recs ++ Ans.ringsText s.rings ++ (Ans.lastW c ++ [10])) by rw [HANS.out]; unfold Ans.text; rw [if_neg hc])
  have hcb : (c == -1) = false := by simpa using hc
  have hc0 : 0 ≤ c := by have := HF.out.code.1; simp only at this; omega
  have hc7 : c ≤ 7 := HF.out.code.2
  obtain ⟨cq, rfl⟩ := Int.eq_ofNat_of_zero_le hc0
  have hcq : cq < 8 := by omega
  clear hc hc0 hc7 HANS
  go_upto_region 6 with fail
  have hal := alloc_two W (Obj.cells #[.string ⟨#[]⟩, .string ⟨#[114, 101, 97, 100]⟩, .string ⟨#[98, 101, 103, 105, 110]⟩, .string ⟨#[115, 97, 121]⟩, .string ⟨#[101, 110, 100]⟩, .string ⟨#[102, 97, 105, 108]⟩, .string ⟨#[99, 97, 116, 99, 104]⟩] 9) (Obj.cells #[.string ⟨#[]⟩, .string ⟨#[110, 97, 109, 101]⟩, .string ⟨#[97, 98, 115, 101, 110, 116]⟩, .string ⟨#[98, 114, 111, 107, 101, 110]⟩, .string ⟨#[114, 105, 110, 103]⟩, .string ⟨#[102, 97, 105, 108, 101, 100]⟩, .string ⟨#[116, 104, 114, 111, 119, 110]⟩, .string ⟨#[100, 101, 101, 112]⟩] 9)
  have hb2 : Below W.heap.size W ((W.alloc (Obj.cells #[.string ⟨#[]⟩, .string ⟨#[114, 101, 97, 100]⟩, .string ⟨#[98, 101, 103, 105, 110]⟩, .string ⟨#[115, 97, 121]⟩, .string ⟨#[101, 110, 100]⟩, .string ⟨#[102, 97, 105, 108]⟩, .string ⟨#[99, 97, 116, 99, 104]⟩] 9)).alloc (Obj.cells #[.string ⟨#[]⟩, .string ⟨#[110, 97, 109, 101]⟩, .string ⟨#[97, 98, 115, 101, 110, 116]⟩, .string ⟨#[98, 114, 111, 107, 101, 110]⟩, .string ⟨#[114, 105, 110, 103]⟩, .string ⟨#[102, 97, 105, 108, 101, 100]⟩, .string ⟨#[116, 104, 114, 111, 119, 110]⟩, .string ⟨#[100, 101, 101, 112]⟩] 9)) := by (repeat (first | with_reducible exact Below.refl _ _ | with_reducible assumption | with_reducible refine Below.alloc ?_ (by first | exact Nat.le_refl _ | exact Below.size (by assumption) | exact Nat.le_trans (Below.size (by assumption)) (by simp; done) | (simp; done) | (simp; omega) | omega) _ | with_reducible refine below_drewN ?_ _ | with_reducible refine Below.drew ?_ | with_reducible refine Below.setCell ?_ (by first | exact Nat.le_refl _ | (simp; done) | (simp; omega) | omega) _))
  generalize (W.alloc (Obj.cells #[.string ⟨#[]⟩, .string ⟨#[114, 101, 97, 100]⟩, .string ⟨#[98, 101, 103, 105, 110]⟩, .string ⟨#[115, 97, 121]⟩, .string ⟨#[101, 110, 100]⟩, .string ⟨#[102, 97, 105, 108]⟩, .string ⟨#[99, 97, 116, 99, 104]⟩] 9)).alloc (Obj.cells #[.string ⟨#[]⟩, .string ⟨#[110, 97, 109, 101]⟩, .string ⟨#[97, 98, 115, 101, 110, 116]⟩, .string ⟨#[98, 114, 111, 107, 101, 110]⟩, .string ⟨#[114, 105, 110, 103]⟩, .string ⟨#[102, 97, 105, 108, 101, 100]⟩, .string ⟨#[116, 104, 114, 111, 119, 110]⟩, .string ⟨#[100, 101, 101, 112]⟩] 9) = W2 at hal hb2 ⊢
  have HK := hide hal.1
  have HC := hide hal.2.1
  have hz2 : W.heap.size + 2 = W2.heap.size := hal.2.2
  have HN := hide ((hb2.block _ hzA).trans hN)
  have B2 := below_then BW BW.size hb2
  have Q1 := hide (R1.below hb2)
  have Q3 := hide (R3.below hb2)
  have x1 : W2.cell? ⟨w1.heap.size, 1, none⟩ = some (.slice P1 s.recs.length p1) := blk_cell HN.out 1
  have hzN : w1.heap.size < W2.heap.size := by omega
  clear hal hb2 BW R1 R3 hN x0
  obtain ⟨L1, hL1⟩ : ∃ L, s.recs.length = L := ⟨_, rfl⟩
  obtain ⟨L3, hL3⟩ : ∃ L, s.rings.length = L := ⟨_, rfl⟩
  rw [hL1] at x1
  have HL1 := hide hL1
  have HL3 := hide hL3
  have hL9 : L1 ≤ 9000 := by rw [← hL1]; exact HF.out.nr
  have hL8 : L3 ≤ 9000 := by rw [← hL3]; exact HF.out.ng
  clear hL1 hL3
  go_wp2_with fail
  clear x1
  go_loopw [8, 10, 11, 29] (fun out _ _ v wr => ∃ k : Nat, v = .int .i64 k ∧ k ≤ L1 ∧ OwnB wr W2.heap.size out (Ans.recsText (s.recs.take k)) ∧ Below W2.heap.size W2 wr) (fun _ _ _ v _ => L1 - (intOf v).toNat)
  case atStart => exact ⟨0, rfl, Nat.zero_le _, OwnB.nil _ _, Below.refl _ _⟩
  case round =>
    obtain ⟨k, rfl, hk, HO, HB⟩ := hrel
    obtain ⟨oA, oc, hov⟩ := HO.form
    subst hov
    by_cases hlt : k < L1
    · have hlt' : k < s.recs.length := by rw [HL1.out]; exact hlt
      obtain ⟨ad, hA, l0, l1, l2, l3⟩ := (Q1.out.below HB).get hlt'
      subst hA
      have e0 : wr.cell? (ad.add (k * 4)) = some (.int .i64 s.recs[k].kind) := l0.2
      have e1 : wr.cell? ⟨(ad.add (k * 4)).block, (ad.add (k * 4)).off + 1, none⟩ = some (.string s.recs[k].name) := by have := l1.2; rwa [add_pos _ _ (by omega)] at this
      have e2 : wr.cell? ⟨(ad.add (k * 4)).block, (ad.add (k * 4)).off + 2, none⟩ = some (.int .i64 s.recs[k].code) := by have := l2.2; rwa [add_pos _ _ (by omega)] at this
      have e3 : wr.cell? ⟨(ad.add (k * 4)).block, (ad.add (k * 4)).off + 3, none⟩ = some (.int .i64 s.recs[k].num) := by have := l3.2; rwa [add_pos _ _ (by omega)] at this
      clear l0 l1 l2 l3
      have hx := HF.out.recs _ (List.getElem_mem hlt')
      have hrt := Ans.recsText_at (List.getElem?_eq_getElem hlt')
      have hsm := (HF.out.small k).1
      replace hsm : (Ans.recsText (s.recs.take k)).length ≤ 909000 := hsm
      generalize s.recs[k] = x at e0 e1 e2 e3 hx hrt
      obtain ⟨fk, fn, fc, fm⟩ := x
      replace e0 : wr.cell? (ad.add (k * 4)) = some (.int .i64 fk) := e0
      replace e1 : wr.cell? ⟨(ad.add (k * 4)).block, (ad.add (k * 4)).off + 1, none⟩ = some (.string fn) := e1
      replace e2 : wr.cell? ⟨(ad.add (k * 4)).block, (ad.add (k * 4)).off + 2, none⟩ = some (.int .i64 fc) := e2
      replace e3 : wr.cell? ⟨(ad.add (k * 4)).block, (ad.add (k * 4)).off + 3, none⟩ = some (.int .i64 fm) := e3
      replace hx : (1 ≤ fk ∧ fk ≤ 6) ∧ (0 ≤ fc ∧ fc ≤ 7) ∧ fn.size ≤ 60 ∧ Ans.In64 fm := hx
      obtain ⟨⟨hk1, hk6⟩, ⟨hc1, hc6⟩, hfn, hfm⟩ := hx
      obtain ⟨q, rfl⟩ := Int.eq_ofNat_of_zero_le (show (0 : Int) ≤ fk by omega)
      obtain ⟨r, rfl⟩ := Int.eq_ofNat_of_zero_le hc1
      have hq7 : q < 7 := by omega
      have hr8 : r < 8 := by omega
      have hmlo : -9223372036854775808 ≤ fm := hfm.1
      have hmhi : fm ≤ 9223372036854775807 := hfm.2
      have HRT := hide hrt
      clear hrt hk1 hk6 hc1 hc6 hfm hlt'
      go_upto_region 10 with fail
      have hbx : Below wr.heap.size wr (wr.alloc (Obj.cells #[.int .i64 q, .string fn, .int .i64 r, .int .i64 fm] 39)) := by (repeat (first | with_reducible exact Below.refl _ _ | with_reducible assumption | with_reducible refine Below.alloc ?_ (by first | exact Nat.le_refl _ | exact Below.size (by assumption) | exact Nat.le_trans (Below.size (by assumption)) (by simp; done) | (simp; done) | (simp; omega) | omega) _ | with_reducible refine below_drewN ?_ _ | with_reducible refine Below.drew ?_ | with_reducible refine Below.setCell ?_ (by first | exact Nat.le_refl _ | (simp; done) | (simp; omega) | omega) _))
      have hbk := heap_alloc_new wr (Obj.cells #[.int .i64 q, .string fn, .int .i64 r, .int .i64 fm] 39)
      have hzx : wr.heap.size < (wr.alloc (Obj.cells #[.int .i64 q, .string fn, .int .i64 r, .int .i64 fm] 39)).heap.size := by simp
      generalize wr.alloc (Obj.cells #[.int .i64 q, .string fn, .int .i64 r, .int .i64 fm] 39) = wx at hbx hbk hzx ⊢
      have HBX := hide hbk
      have HOX := HO.below hbx
      have HBB := below_then HB HB.size hbx
      have y0 : wx.cell? ⟨wr.heap.size, 0, none⟩ = some (.int .i64 q) := blk_cell hbk 0
      have y1 : wx.cell? ⟨wr.heap.size, 1, none⟩ = some (.string fn) := blk_cell hbk 1
      have kw := kindW_cells wx W.heap.size _ ((HBB.block _ (by omega)).trans HK.out) q hq7
      have hkl := Ans.kindW_len q
      have hcl := Ans.codeW_len r
      clear hbx HO HB e0 e1 e2 e3 hbk
      have hL1s : (Ans.kindW q ++ if fn = ⟨#[]⟩ then [] else 32 :: Nm.bs fn).length ≤ 66 := by
        have := Nm.bs_length fn
        split <;> simp <;> omega
      go_upto_if 40 with fail
      go_cut [11] (fun v wy => v = .string (Nm.mk (Ans.kindW q ++ if fn = ⟨#[]⟩ then [] else 32 :: Nm.bs fn)) ∧ Below wx.heap.size wx wy)
      case first =>
        generalize hbq : (!fn.toList.isEmpty) = bq
        cases bq
        · have hfe : fn = ⟨#[]⟩ := no_text hbq
          have HQ := hide (show Nm.mk (Ans.kindW q) = Nm.mk (Ans.kindW q ++ if fn = ⟨#[]⟩ then [] else 32 :: Nm.bs fn) by rw [if_pos hfe, List.append_nil])
          clear hfe hbq
          go_wp2_with fail
          go_meet
          exact ⟨by rw [HQ.out], by (repeat (first | with_reducible exact Below.refl _ _ | with_reducible assumption | with_reducible refine Below.alloc ?_ (by first | exact Nat.le_refl _ | exact Below.size (by assumption) | exact Nat.le_trans (Below.size (by assumption)) (by simp; done) | (simp; done) | (simp; omega) | omega) _ | with_reducible refine below_drewN ?_ _ | with_reducible refine Below.drew ?_ | with_reducible refine Below.setCell ?_ (by first | exact Nat.le_refl _ | (simp; done) | (simp; omega) | omega) _))⟩
        · have hfe : fn ≠ ⟨#[]⟩ := a_text hbq
          have ha1 := fun W : World => run_string_add_sum (P := Tryz.prog) (w := W) ⟨#[32]⟩ fn (by show 1 + _ ≤ _; omega)
          have ha2 := fun W : World => run_string_add_sum (P := Tryz.prog) (w := W) (Nm.mk (Ans.kindW q)) ((⟨#[32]⟩ : Str) ++ fn) (by rw [mk_size, sp_size]; omega)
          rw [sp_mk] at ha2
          have HQ := hide (show Nm.mk (Ans.kindW q ++ 32 :: Nm.bs fn) = Nm.mk (Ans.kindW q ++ if fn = ⟨#[]⟩ then [] else 32 :: Nm.bs fn) by rw [if_neg hfe])
          clear hfe hbq
          go_wp2_with fail
          go_meet
          exact ⟨by rw [← HQ.out], by (repeat (first | with_reducible exact Below.refl _ _ | with_reducible assumption | with_reducible refine Below.alloc ?_ (by first | exact Nat.le_refl _ | exact Below.size (by assumption) | exact Nat.le_trans (Below.size (by assumption)) (by simp; done) | (simp; done) | (simp; omega) | omega) _ | with_reducible refine below_drewN ?_ _ | with_reducible refine Below.drew ?_ | with_reducible refine Below.setCell ?_ (by first | exact Nat.le_refl _ | (simp; done) | (simp; omega) | omega) _))⟩
      case rest =>
        obtain ⟨rfl, hbc⟩ := hcut
        clear y0 y1 kw
        have HOC := HOX.below hbc
        have HBC := below_then HBB HBB.size hbc
        have hbk := (hbc.block _ hzx).trans HBX.out
        have hzc := hbc.size
        clear HOX HBB hbc HBX
        obtain ⟨wy, rfl⟩ : ∃ wy : World, wy = wc := ⟨_, rfl⟩
        have y2 : wy.cell? ⟨wr.heap.size, 2, none⟩ = some (.int .i64 r) := blk_cell hbk 2
        have HBX := hide hbk
        have cw := codeW_cells wy (W.heap.size + 1) _ ((HBC.block _ (by omega)).trans HC.out) r hr8
        generalize hT1 : (Ans.kindW q ++ if fn = ⟨#[]⟩ then [] else 32 :: Nm.bs fn) = T1 at hL1s ⊢
        have HT1 := hide hT1
        clear hT1 hbk
        have hL2s : (T1 ++ if (r : Int) = 0 then [] else 32 :: Ans.codeW r).length ≤ 73 := by split <;> simp <;> omega
        have hcase : r = 0 ∨ ((r : Int) == 0) = false ∧ r ≠ 0 := by
          by_cases h0 : r = 0
          · exact .inl h0
          · exact .inr ⟨by simp; omega, h0⟩
        go_upto_if 48 with fail
        go_cut [11] (fun v wz => v = .string (Nm.mk (T1 ++ if (r : Int) = 0 then [] else 32 :: Ans.codeW r)) ∧ Below wy.heap.size wy wz)
        case first =>
          rcases hcase with rfl | ⟨hr0, hrn⟩
          · have hE2 : (((0 : Nat) : Int) != 0) = false := rfl
            go_wp2_with fail
            go_meet
            exact ⟨by rw [if_pos (by rfl), List.append_nil], by (repeat (first | with_reducible exact Below.refl _ _ | with_reducible assumption | with_reducible refine Below.alloc ?_ (by first | exact Nat.le_refl _ | exact Below.size (by assumption) | exact Nat.le_trans (Below.size (by assumption)) (by simp; done) | (simp; done) | (simp; omega) | omega) _ | with_reducible refine below_drewN ?_ _ | with_reducible refine Below.drew ?_ | with_reducible refine Below.setCell ?_ (by first | exact Nat.le_refl _ | (simp; done) | (simp; omega) | omega) _))⟩
          · have ha1 := fun W : World => run_string_add_sum (P := Tryz.prog) (w := W) ⟨#[32]⟩ (Nm.mk (Ans.codeW r)) (by show 1 + _ ≤ _; rw [mk_size]; omega)
            have ha2 := fun W : World => run_string_add_sum (P := Tryz.prog) (w := W) (Nm.mk T1) ((⟨#[32]⟩ : Str) ++ Nm.mk (Ans.codeW r)) (by rw [mk_size, sp_size, mk_size]; omega)
            rw [sp_mk, Nm.bs_mk] at ha2
            have HQ := hide (show Nm.mk (T1 ++ 32 :: Ans.codeW r) = Nm.mk (T1 ++ if (r : Int) = 0 then [] else 32 :: Ans.codeW r) by rw [if_neg (show ¬ (r : Int) = 0 by omega)])
            have hE2 : ((r : Int) != 0) = true := by simp; omega
            clear hrn
            go_wp2_with fail
            go_meet
            exact ⟨by rw [← HQ.out], by (repeat (first | with_reducible exact Below.refl _ _ | with_reducible assumption | with_reducible refine Below.alloc ?_ (by first | exact Nat.le_refl _ | exact Below.size (by assumption) | exact Nat.le_trans (Below.size (by assumption)) (by simp; done) | (simp; done) | (simp; omega) | omega) _ | with_reducible refine below_drewN ?_ _ | with_reducible refine Below.drew ?_ | with_reducible refine Below.setCell ?_ (by first | exact Nat.le_refl _ | (simp; done) | (simp; omega) | omega) _))⟩
        case rest =>
          obtain ⟨rfl, hbc⟩ := hcut
          clear hcase y2 cw
          have HOD := HOC.below hbc
          have HBD := below_then HBC HBC.size hbc
          have hbk := (hbc.block _ (by omega)).trans HBX.out
          have hzd := hbc.size
          clear HOC HBC hbc HBX
          have HBX := hide hbk
          obtain ⟨wz, rfl⟩ : ∃ wz : World, wz = wc := ⟨_, rfl⟩
          have y0 : wz.cell? ⟨wr.heap.size, 0, none⟩ = some (.int .i64 q) := blk_cell hbk 0
          have y2 : wz.cell? ⟨wr.heap.size, 2, none⟩ = some (.int .i64 r) := blk_cell hbk 2
          have y3 : wz.cell? ⟨wr.heap.size, 3, none⟩ = some (.int .i64 fm) := blk_cell hbk 3
          generalize hT2 : (T1 ++ if (r : Int) = 0 then [] else 32 :: Ans.codeW r) = T2 at hL2s ⊢
          have hdl := Ans.decT_len (n := fm) ⟨hmlo, hmhi⟩
          have hdb := Nm.bs_length (decT fm)
          have hda1 := fun W : World => run_string_add_sum (P := Tryz.prog) (w := W) ⟨#[32]⟩ (decT fm) (by show 1 + _ ≤ _; omega)
          have hda2 := fun W : World => run_string_add_sum (P := Tryz.prog) (w := W) (Nm.mk T2) ((⟨#[32]⟩ : Str) ++ decT fm) (by rw [mk_size, sp_size]; omega)
          rw [sp_mk] at hda2
          have hLn : Ans.line ⟨q, fn, r, fm⟩ = T2 ++ if Ans.tells ⟨q, fn, r, fm⟩ = true then 32 :: Nm.bs (decT fm) else [] := by
            unfold Ans.line
            rw [← hT2, ← HT1.out]
          have hL3s : (Ans.line ⟨q, fn, r, fm⟩).length ≤ 94 := by rw [hLn]; split <;> simp <;> omega
          have HLn := hide hLn
          clear hT2 hLn hbk
          obtain ⟨tl, htl⟩ : ∃ tl : Bool, Ans.tells ⟨q, fn, r, fm⟩ = tl := ⟨_, rfl⟩
          have HTL := hide htl
          clear htl
          go_upto_region 15 with fail
          go_cut [74] (fun v wz' => v = .bool tl ∧ Below wz.heap.size wz wz')
          case first =>
            have ht : Ans.tells ⟨q, fn, r, fm⟩ = (((q : Int) == 3) || ((q : Int) == 4) || (((r : Int) == 6) && ((q : Int) == 5))) := rfl
            rw [HTL.out] at ht
            have HTE := hide ht
            clear ht
            generalize h3 : ((q : Int) == 3) = a at HTE
            generalize h4 : ((q : Int) == 4) = b at HTE
            generalize h6 : ((r : Int) == 6) = cc at HTE
            generalize h5 : ((q : Int) == 5) = d at HTE
            cases a <;> cases b <;> cases cc <;> cases d
            all_goals
              go_wp2_with fail
              go_meet
              exact ⟨by rw [HTE.out]; rfl, by (repeat (first | with_reducible exact Below.refl _ _ | with_reducible assumption | with_reducible refine Below.alloc ?_ (by first | exact Nat.le_refl _ | exact Below.size (by assumption) | exact Nat.le_trans (Below.size (by assumption)) (by simp; done) | (simp; done) | (simp; omega) | omega) _ | with_reducible refine below_drewN ?_ _ | with_reducible refine Below.drew ?_ | with_reducible refine Below.setCell ?_ (by first | exact Nat.le_refl _ | (simp; done) | (simp; omega) | omega) _))⟩
          case rest =>
            obtain ⟨rfl, hbt⟩ := hcut
            clear y0 y2 y3
            have HOD := HOD.below hbt
            have HBD := below_then HBD HBD.size hbt
            have hbk := (hbt.block _ (by omega)).trans HBX.out
            clear HBX hbt
            have y3 : wc.cell? ⟨wr.heap.size, 3, none⟩ = some (.int .i64 fm) := blk_cell hbk 3
            obtain ⟨wt, rfl⟩ : ∃ wt : World, wt = wc := ⟨_, rfl⟩
            clear hbk
            go_upto_if 74 with fail
            go_cut [11] (fun v wz' => v = .string (Nm.mk (Ans.line ⟨q, fn, r, fm⟩)) ∧ Below wt.heap.size wt wz')
            case first =>
              cases tl
              · have HQ := hide (show Nm.mk T2 = Nm.mk (Ans.line ⟨q, fn, r, fm⟩) by rw [HLn.out, HTL.out, if_neg (by simp), List.append_nil])
                clear HLn HTL
                go_wp2_with fail
                go_meet
                exact ⟨by rw [HQ.out], by (repeat (first | with_reducible exact Below.refl _ _ | with_reducible assumption | with_reducible refine Below.alloc ?_ (by first | exact Nat.le_refl _ | exact Below.size (by assumption) | exact Nat.le_trans (Below.size (by assumption)) (by simp; done) | (simp; done) | (simp; omega) | omega) _ | with_reducible refine below_drewN ?_ _ | with_reducible refine Below.drew ?_ | with_reducible refine Below.setCell ?_ (by first | exact Nat.le_refl _ | (simp; done) | (simp; omega) | omega) _))⟩
              · have HQ := hide (show Nm.mk (T2 ++ 32 :: Nm.bs (decT fm)) = Nm.mk (Ans.line ⟨q, fn, r, fm⟩) by rw [HLn.out, HTL.out, if_pos rfl])
                clear HLn HTL
                go_wp2_with fail
                refine (l4decimal_calls fm _ hmlo hmhi).mono ?_
                rintro e w5 ⟨rfl, hb5⟩
                go_wp2_with fail
                go_meet
                exact ⟨by rw [HQ.out], hb5⟩
            case rest =>
              obtain ⟨rfl, hbc⟩ := hcut
              clear hda1 hda2 y3 HLn HTL
              have HOE := HOD.below hbc
              have HBE := below_then HBD HBD.size hbc
              clear HOD HBD hbc
              have hnl := fun W : World => run_string_add_sum (P := Tryz.prog) (w := W) (Nm.mk (Ans.line ⟨q, fn, r, fm⟩)) ⟨#[10]⟩ (by rw [mk_size]; show _ + 1 ≤ _; omega)
              rw [nl_mk] at hnl
              go_wp2_with (at_builtin; refine append_text W2.heap.size rfl _ _ 22 rfl Tryz.underlying22 (.slice oA (Ans.recsText (s.recs.take k)).length oc) (Ans.recsText (s.recs.take k)) (Nm.mk (Ans.line ⟨q, fn, r, fm⟩ ++ [10])) rfl rfl HOE HBE HBE.size (by rw [mk_size]; simp; omega) ?_; intro v6 w6 hown6 hbel6; rw [Nm.bs_mk, ← HRT.out] at hown6)
              go_roundw
              case rel => exact ⟨k + 1, by go_num, by omega, hown6, by (repeat (first | with_reducible exact Below.refl _ _ | with_reducible assumption | with_reducible refine Below.alloc ?_ (by first | exact Nat.le_refl _ | exact Below.size (by assumption) | exact Nat.le_trans (Below.size (by assumption)) (by simp; done) | (simp; done) | (simp; omega) | omega) _ | with_reducible refine below_drewN ?_ _ | with_reducible refine Below.drew ?_ | with_reducible refine Below.setCell ?_ (by first | exact Nat.le_refl _ | (simp; done) | (simp; omega) | omega) _))⟩
              case measure => simp [intOf]; omega
    · obtain rfl : k = L1 := by omega
      have hrt : Ans.recsText (s.recs.take k) = Ans.recsText s.recs := by rw [← HL1.out, List.take_length]
      rw [hrt] at HO ⊢
      have hsm := (HF.out.small 0).2.1
      replace hsm : (Ans.recsText s.recs).length ≤ 909000 := hsm
      have x4 : wr.cell? ⟨w1.heap.size, 4, none⟩ = some (.slice P3 s.rings.length p3) := blk_cell ((HB.block _ hzN).trans HN.out) 4
      rw [HL3.out] at x4
      clear hlt hk hrt
      go_wp2_with fail
      clear x4
      obtain ⟨wk, rfl⟩ : ∃ wk : World, wk = wr := ⟨_, rfl⟩
      go_loopw [8, 13, 14, 16, 89] (fun out _ _ _ v wr => ∃ k : Nat, v = .int .i64 k ∧ k ≤ L3 ∧ OwnB wr W2.heap.size out (Ans.recsText s.recs ++ Ans.ringsText (s.rings.take k)) ∧ Below W2.heap.size W2 wr) (fun _ _ _ _ v _ => L3 - (intOf v).toNat)
      case atStart => exact ⟨0, rfl, Nat.zero_le _, by rw [List.take_zero]; show OwnB _ _ _ (_ ++ []); rw [List.append_nil]; exact HO, HB⟩
      case round =>
        clear HO HB
        obtain ⟨k, rfl, hk, HO, HB⟩ := hrel
        obtain ⟨oA, oc, hov⟩ := HO.form
        subst hov
        by_cases hlt : k < L3
        · have hlt' : k < s.rings.length := by rw [HL3.out]; exact hlt
          obtain ⟨ad, hA, A4, c4, hc4, hl4, hm4, hs4⟩ := (Q3.out.below HB).get hlt'
          subst hA
          have e1 : wr.cell? (ad.add k) = some (.slice A4 s.rings[k].length c4) := by simpa [kSl] using hc4.2
          have hx := HF.out.rings _ (List.getElem_mem hlt')
          have hrt := Ans.ringsText_at (List.getElem?_eq_getElem hlt')
          have hsm3 := (HF.out.small k).2.2
          replace hsm3 : (Ans.ringsText (s.rings.take k)).length ≤ 22005000 := hsm3
          generalize s.rings[k] = x at e1 hx hrt hs4 hl4
          have HRT := hide hrt
          have hx40 : x.length ≤ 40 := hx.2.1
          have HX := hide hx.2.2
          clear hrt hx hc4 hlt'
          obtain ⟨M, hM⟩ : ∃ M, x.length = M := ⟨_, rfl⟩
          rw [hM] at e1 hx40
          have HM := hide hM
          have HS4 := hide hs4
          clear hM hs4 hl4 hm4
          go_wp2_with fail
          clear e1
          obtain ⟨wo, rfl⟩ : ∃ wo : World, wo = wr := ⟨_, rfl⟩
          go_loopw [14, 16, 95] (fun t _ v wr => ∃ (j : Nat) (T : List UInt8), v = .int .i64 j ∧ j ≤ M ∧ t = .string (Nm.mk T) ∧ Hid (T = Ans.ringW ++ (x.take j).flatMap fun s => 32 :: Nm.bs s) ∧ T.length ≤ 4 + 61 * j ∧ Below wo.heap.size wo wr) (fun _ _ v _ => M - (intOf v).toNat)
          case atStart => exact ⟨0, Ans.ringW, rfl, Nat.zero_le _, rfl, hide (by simp), Nat.le_refl _, Below.refl _ _⟩
          case round =>
            obtain ⟨j, T, rfl, hj, rfl, HTT, hTl, HBI⟩ := hrel
            by_cases hjl : j < M
            · have hjl' : j < x.length := by rw [HM.out]; exact hjl
              obtain ⟨bd, hA, f0⟩ := (HS4.out.below HBI).get hjl'
              subst hA
              have e1 : wr.cell? (bd.add j) = some (.string x[j]) := by simpa [kStr] using f0.2
              have hs60 := HX.out _ (List.getElem_mem hjl')
              have hgt := List.getElem?_eq_getElem hjl'
              have htk : x.take (j + 1) = x.take j ++ [x[j]] := List.take_succ_eq_append_getElem hjl'
              generalize x[j] = u at e1 hs60 htk
              have hub := Nm.bs_length u
              have HTN := hide (show T ++ 32 :: Nm.bs u = Ans.ringW ++ (x.take (j + 1)).flatMap fun s => 32 :: Nm.bs s by rw [htk, List.flatMap_append, HTT.out]; simp)
              have ha1 := fun W : World => run_string_add_sum (P := Tryz.prog) (w := W) ⟨#[32]⟩ u (by show 1 + _ ≤ _; omega)
              have ha2 := fun W : World => run_string_add_sum (P := Tryz.prog) (w := W) (Nm.mk T) ((⟨#[32]⟩ : Str) ++ u) (by rw [mk_size, sp_size]; omega)
              rw [sp_mk] at ha2
              clear htk hgt f0 hjl'
              go_wp2_with fail
              go_roundw
              case rel => exact ⟨j + 1, _, by go_num, by omega, rfl, HTN, by simp; omega, by (repeat (first | with_reducible exact Below.refl _ _ | with_reducible assumption | with_reducible refine Below.alloc ?_ (by first | exact Nat.le_refl _ | exact Below.size (by assumption) | exact Nat.le_trans (Below.size (by assumption)) (by simp; done) | (simp; done) | (simp; omega) | omega) _ | with_reducible refine below_drewN ?_ _ | with_reducible refine Below.drew ?_ | with_reducible refine Below.setCell ?_ (by first | exact Nat.le_refl _ | (simp; done) | (simp; omega) | omega) _))⟩
              case measure => simp [intOf]; omega
            · obtain rfl : j = M := by omega
              have hxt : x.take j = x := by rw [← HM.out, List.take_length]
              have HTX := hide (show T = Ans.ringLine x by rw [HTT.out, hxt]; rfl)
              have HO2 := HO.below HBI
              have HB2 := below_then HB HB.size HBI
              have hnl := fun W : World => run_string_add_sum (P := Tryz.prog) (w := W) (Nm.mk T) ⟨#[10]⟩ (by rw [mk_size]; show _ + 1 ≤ _; omega)
              rw [nl_mk] at hnl
              clear hxt HTT hjl hj
              go_wp2_with (at_builtin; refine append_text W2.heap.size rfl _ _ 22 rfl Tryz.underlying22 (.slice oA (Ans.recsText s.recs ++ Ans.ringsText (s.rings.take k)).length oc) (Ans.recsText s.recs ++ Ans.ringsText (s.rings.take k)) (Nm.mk (T ++ [10])) rfl rfl HO2 HB2 HB2.size (by rw [mk_size]; simp; omega) ?_; intro v6 w6 hown6 hbel6; rw [Nm.bs_mk, HTX.out, List.append_assoc, ← HRT.out] at hown6)
              go_roundw
              case rel => exact ⟨k + 1, by go_num, by omega, hown6, by (repeat (first | with_reducible exact Below.refl _ _ | with_reducible assumption | with_reducible refine Below.alloc ?_ (by first | exact Nat.le_refl _ | exact Below.size (by assumption) | exact Nat.le_trans (Below.size (by assumption)) (by simp; done) | (simp; done) | (simp; omega) | omega) _ | with_reducible refine below_drewN ?_ _ | with_reducible refine Below.drew ?_ | with_reducible refine Below.setCell ?_ (by first | exact Nat.le_refl _ | (simp; done) | (simp; omega) | omega) _))⟩
              case measure => simp [intOf]; omega
        · obtain rfl : k = L3 := by omega
          have hrt : Ans.ringsText (s.rings.take k) = Ans.ringsText s.rings := by rw [← HL3.out, List.take_length]
          have hsm3 := (HF.out.small k).2.2
          replace hsm3 : (Ans.ringsText (s.rings.take k)).length ≤ 22005000 := hsm3
          rw [hrt] at HO hsm3 ⊢
          have x0 : wr.cell? ⟨w1.heap.size, 0, none⟩ = some (.int .i64 cq) := blk_cell ((HB.block _ hzN).trans HN.out) 0
          have cw := codeW_cells wr (W.heap.size + 1) _ ((HB.block _ (by omega)).trans HC.out) cq hcq
          have hcl := Ans.codeW_len cq
          have hLw : (Ans.lastW cq).length ≤ 20 := by unfold Ans.lastW; split <;> simp [Ans.loadedW, Ans.notLoadedW] <;> omega
          have hcase : (cq = 0 ∧ Ans.lastW cq = Ans.loadedW) ∨ (((cq : Int) == 0) = false ∧ Ans.lastW cq = Ans.notLoadedW ++ Ans.codeW cq) := by
            by_cases h0 : cq = 0
            · exact .inl ⟨h0, by unfold Ans.lastW; rw [if_pos (by omega)]⟩
            · exact .inr ⟨by simp; omega, by unfold Ans.lastW; rw [if_neg (by omega)]⟩
          clear hlt hk hrt
          go_upto_if 111 with fail
          go_cut [17] (fun v wz => v = .string (Nm.mk (Ans.lastW cq)) ∧ Below wr.heap.size wr wz)
          case first =>
            rcases hcase with ⟨rfl, hlw⟩ | ⟨hr0, hlw⟩
            · have HQ := hide hlw
              have hE2 : (((0 : Nat) : Int) != 0) = false := rfl
              clear hlw
              go_wp2_with fail
              go_meet
              exact ⟨by rw [HQ.out]; rfl, by (repeat (first | with_reducible exact Below.refl _ _ | with_reducible assumption | with_reducible refine Below.alloc ?_ (by first | exact Nat.le_refl _ | exact Below.size (by assumption) | exact Nat.le_trans (Below.size (by assumption)) (by simp; done) | (simp; done) | (simp; omega) | omega) _ | with_reducible refine below_drewN ?_ _ | with_reducible refine Below.drew ?_ | with_reducible refine Below.setCell ?_ (by first | exact Nat.le_refl _ | (simp; done) | (simp; omega) | omega) _))⟩
            · have ha1 := fun W : World => run_string_add_sum (P := Tryz.prog) (w := W) ⟨#[110, 111, 116, 32, 108, 111, 97, 100, 101, 100, 58, 32]⟩ (Nm.mk (Ans.codeW cq)) (by show 12 + _ ≤ _; rw [mk_size]; omega)
              have hj : (⟨#[110, 111, 116, 32, 108, 111, 97, 100, 101, 100, 58, 32]⟩ : Str) ++ Nm.mk (Ans.codeW cq) = Nm.mk (Ans.notLoadedW ++ Ans.codeW cq) := Nm.bs_inj (by simp [Nm.bs, Nm.mk, Ans.notLoadedW])
              rw [hj] at ha1
              have HQ := hide hlw
              have hE2 : ((cq : Int) != 0) = true := by simpa using hr0
              clear hlw hj
              go_wp2_with fail
              go_meet
              exact ⟨by rw [HQ.out], by (repeat (first | with_reducible exact Below.refl _ _ | with_reducible assumption | with_reducible refine Below.alloc ?_ (by first | exact Nat.le_refl _ | exact Below.size (by assumption) | exact Nat.le_trans (Below.size (by assumption)) (by simp; done) | (simp; done) | (simp; omega) | omega) _ | with_reducible refine below_drewN ?_ _ | with_reducible refine Below.drew ?_ | with_reducible refine Below.setCell ?_ (by first | exact Nat.le_refl _ | (simp; done) | (simp; omega) | omega) _))⟩
          case rest =>
            obtain ⟨rfl, hbc⟩ := hcut
            clear hcase x0 cw
            have HOE := HO.below hbc
            have HBE := below_then HB HB.size hbc
            clear HO HB hbc
            have hnl := fun W : World => run_string_add_sum (P := Tryz.prog) (w := W) (Nm.mk (Ans.lastW cq)) ⟨#[10]⟩ (by rw [mk_size]; show _ + 1 ≤ _; omega)
            rw [nl_mk] at hnl
            go_upto_region 34 with (at_builtin; refine append_text W2.heap.size rfl _ _ 22 rfl Tryz.underlying22 (.slice oA (Ans.recsText s.recs ++ Ans.ringsText s.rings).length oc) (Ans.recsText s.recs ++ Ans.ringsText s.rings) (Nm.mk (Ans.lastW cq ++ [10])) rfl rfl HOE HBE HBE.size (by rw [mk_size]; simp; omega) ?_; intro v6 w6 hown6 hbel6; rw [Nm.bs_mk] at hown6; generalize hXX : Ans.recsText s.recs ++ Ans.ringsText s.rings ++ (Ans.lastW cq ++ [10]) = X at hown6; obtain ⟨zA, zc, hzv⟩ := hown6.form; subst hzv)
            have hcv := hown6.text (by rw [← hXX]; simp)
            rw [← hXX, ← HT.out, hXX] at hcv
            clear hXX
            clear hnl HOE HBE
            go_wp2_with fail
            go_ret
            exact ⟨rfl, below_then B2 B2.size hbel6⟩
end Go.Proofs.YtkhlicmlnjccdaaGreatDoor
