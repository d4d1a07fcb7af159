/-
  Walk: the program's Tries.
-/
import Derived.Test.YtkhlicmlnjccdaaGreatDoorKt22
import Derived.Shelf.Strings.Cut
namespace Go.Proofs.YtkhlicmlnjccdaaGreatDoor
open Go.RowKit Mem

theorem cut_calls (s : Str) (w : World) (hs : s.size ≤ 1073741824) (hm : ML w) : ∃ (b : Str) (k : Bool), Calls Tryz.prog 95 #[.string s, .string ⟨#[47]⟩] w fun e w' => e = .returned (.tuple #[.string (Nm.mk ((Nm.parts (Nm.bs s)).head (Nm.parts_ne _))), .string b, .bool k]) ∧ Below w.heap.size w w' := by
  obtain ⟨m, hm⟩ := hm
  refine ⟨⟨(Lib.cut s.data.toList [47]).2.1.toArray⟩, (Lib.cut s.data.toList [47]).2.2, (Tryz.strings_Cut s ⟨#[47]⟩ m w (by omega) hm).mono ?_⟩
  rintro e w' ⟨rfl, n, rfl⟩
  refine ⟨?_, by (repeat (first | with_reducible exact Below.refl _ _ | with_reducible assumption | with_reducible refine Below.alloc ?_ (by first | exact Nat.le_refl _ | exact Below.size (by assumption) | exact Nat.le_trans (Below.size (by assumption)) (by simp; done) | (simp; done) | (simp; omega) | omega) _ | with_reducible refine below_drewN ?_ _ | with_reducible refine Below.drew ?_ | with_reducible refine Below.setCell ?_ (by first | exact Nat.le_refl _ | (simp; done) | (simp; omega) | omega) _))⟩
  have h := Nm.cut_first s
  rw [← h]; rfl

set_option maxRecDepth 100000 in
set_option maxHeartbeats 2000000 in
theorem iTries_calls (A : Option Addr) (c n : Nat) (roots : List Str) (f s : Str) (S : Nat → Prop) (w : World) (h : Sl kStr w S A roots) (hn : roots.length = n) (hl : n ≤ maxLen) (hr : ∀ r ∈ roots, r.size ≤ 1048576) (hf : f.size ≤ 1073741824) (hs : s.size ≤ 1073741824) (hm : ML w) :
    Calls Tryz.prog 71 #[.slice A n c, .string f, .string s] w (RetOwn fStr w 9 (Nm.tries roots f s)) := by
  subst hn
  unfold maxLen at hl
  by_cases h8 : 8 < roots.length
  · have hq : Nm.tries roots f s = [] := by unfold Nm.tries; rw [if_pos h8]
    have HQ := hide hq
    clear hq
    go_enter Tryz.func71, Tryz.ntmps71
    go_wp2_with fail
    go_ret
    exact ⟨_, rfl, by rw [HQ.out]; exact Own.nil _ _ _, by (repeat (first | with_reducible exact Below.refl _ _ | with_reducible assumption | with_reducible refine Below.alloc ?_ (by first | exact Nat.le_refl _ | exact Below.size (by assumption) | exact Nat.le_trans (Below.size (by assumption)) (by simp; done) | (simp; done) | (simp; omega) | omega) _ | with_reducible refine below_drewN ?_ _ | with_reducible refine Below.drew ?_ | with_reducible refine Below.setCell ?_ (by first | exact Nat.le_refl _ | (simp; done) | (simp; omega) | omega) _))⟩
  obtain ⟨cb, ck, hcn⟩ := cut_calls s w hs hm
  have hnd := hide (Nm.near_def s)
  generalize hp : (Nm.parts (Nm.bs s)).head (Nm.parts_ne _) = p at hnd hcn
  generalize hT : Nm.mk p = t at hcn
  have HT := hide hT
  have HP := hide hp
  clear hp hT
  have HCN := hide hcn
  clear hcn
  by_cases hnear : Nm.near s = true
  · have hcw := fun (W : World) (h : ML W) => iWithin_calls f s W hf h
    have hcase : ((t.toList == [46]) = true) ∨ ((t.toList == [46]) = false ∧ (t.toList == [46, 46]) = true) := by
      have h2 := hnd.out
      rw [hnear] at h2
      by_cases h1 : p = [46]
      · exact .inl (tl_t (by rw [← HT.out, h1]; rfl))
      · rw [decide_eq_false h1, Bool.false_or] at h2
        exact .inr ⟨tl_f (fun e => h1 (Nm.mk_inj (HT.out.trans e))), tl_t (by rw [← HT.out, of_decide_eq_true h2.symm]; rfl)⟩
    have HCS := hide hcase
    clear hcase hnd
    have hq0 : (Nm.within f s).1 ≠ 0 → Nm.tries roots f s = [] := fun e => by unfold Nm.tries; rw [if_neg h8, if_pos hnear, if_pos e]
    have hq1 : (Nm.within f s).1 = 0 → Nm.tries roots f s = [(Nm.within f s).2] := fun e => by unfold Nm.tries; rw [if_neg h8, if_pos hnear, if_neg (fun x => x e)]
    obtain ⟨r1, r2, hr⟩ : ∃ r1 r2, Nm.within f s = (r1, r2) := ⟨_, _, rfl⟩
    rw [hr] at hcw hq0 hq1
    have HCW := hide hcw
    replace hq0 : r1 ≠ 0 → Nm.tries roots f s = [] := hq0
    replace hq1 : r1 = 0 → Nm.tries roots f s = [r2] := hq1
    clear hcw hr hnear
    by_cases hz : r1 = 0
    · subst hz
      have HQ := hide (hq1 rfl)
      clear hq0 hq1
      go_enter Tryz.func71, Tryz.ntmps71
      go_wp2_with fail
      refine (unhide HCN).mono ?_
      rintro e w1 ⟨rfl, hb1⟩
      rcases HCS.out with hA1 | ⟨hA1, hA2⟩
      all_goals
        go_wp2_with fail
        refine (HCW.out _ ((hm.below hb1).below (by (repeat (first | with_reducible exact Below.refl _ _ | with_reducible assumption | with_reducible refine Below.alloc ?_ (by first | exact Nat.le_refl _ | exact Below.size (by assumption) | exact Nat.le_trans (Below.size (by assumption)) (by simp; done) | (simp; done) | (simp; omega) | omega) _ | with_reducible refine below_drewN ?_ _ | with_reducible refine Below.drew ?_ | with_reducible refine Below.setCell ?_ (by first | exact Nat.le_refl _ | (simp; done) | (simp; omega) | omega) _))))).mono ?_
        rintro e w2 ⟨rfl, hb2⟩
        have hb := below_then hb1 hb1.size hb2
        clear hb1 hb2
        go_wp2_with fail
        go_ret
        refine ⟨_, rfl, ?_, by (repeat (first | with_reducible exact Below.refl _ _ | with_reducible assumption | with_reducible refine Below.alloc ?_ (by first | exact Nat.le_refl _ | exact Below.size (by assumption) | exact Nat.le_trans (Below.size (by assumption)) (by simp; done) | (simp; done) | (simp; omega) | omega) _ | with_reducible refine below_drewN ?_ _ | with_reducible refine Below.drew ?_ | with_reducible refine Below.setCell ?_ (by first | exact Nat.le_refl _ | (simp; done) | (simp; omega) | omega) _))⟩
        rw [HQ.out]
        have ho := Own.one (k := fStr) (w2.alloc (Obj.cells #[.int .i64 0, .string r2] 102)) w.heap.size 9 r2 #[.string r2] rfl (by have := hb.size; simp; omega)
        simpa using ho
    · have HQ := hide (hq0 hz)
      have hcb : (r1 != 0) = true := by simpa using hz
      clear hq0 hq1 hz
      go_enter Tryz.func71, Tryz.ntmps71
      go_wp2_with fail
      refine (unhide HCN).mono ?_
      rintro e w1 ⟨rfl, hb1⟩
      rcases HCS.out with hA1 | ⟨hA1, hA2⟩
      all_goals
        go_wp2_with fail
        refine (HCW.out _ ((hm.below hb1).below (by (repeat (first | with_reducible exact Below.refl _ _ | with_reducible assumption | with_reducible refine Below.alloc ?_ (by first | exact Nat.le_refl _ | exact Below.size (by assumption) | exact Nat.le_trans (Below.size (by assumption)) (by simp; done) | (simp; done) | (simp; omega) | omega) _ | with_reducible refine below_drewN ?_ _ | with_reducible refine Below.drew ?_ | with_reducible refine Below.setCell ?_ (by first | exact Nat.le_refl _ | (simp; done) | (simp; omega) | omega) _))))).mono ?_
        rintro e w2 ⟨rfl, hb2⟩
        have hb := below_then hb1 hb1.size hb2
        clear hb1 hb2
        go_wp2_with fail
        go_ret
        exact ⟨_, rfl, by rw [HQ.out]; exact Own.nil _ _ _, by (repeat (first | with_reducible exact Below.refl _ _ | with_reducible assumption | with_reducible refine Below.alloc ?_ (by first | exact Nat.le_refl _ | exact Below.size (by assumption) | exact Nat.le_trans (Below.size (by assumption)) (by simp; done) | (simp; done) | (simp; omega) | omega) _ | with_reducible refine below_drewN ?_ _ | with_reducible refine Below.drew ?_ | with_reducible refine Below.setCell ?_ (by first | exact Nat.le_refl _ | (simp; done) | (simp; omega) | omega) _))⟩
  have hnear : Nm.near s = false := by simpa using hnear
  have hN1 : (t.toList == [46]) = false := tl_f (fun e => by
    have h2 := hnd.out
    rw [hnear, Nm.mk_inj (HT.out.trans e)] at h2
    simp at h2)
  have hN2 : (t.toList == [46, 46]) = false := tl_f (fun e => by
    have h2 := hnd.out
    rw [hnear, Nm.mk_inj (HT.out.trans e)] at h2
    simp at h2)
  clear hnd
  have hcw := fun (W : World) (h : ML W) => iClean_calls s W hs h
  have hsz := Nm.clean_size s
  have hq0 : (Nm.clean s).1 ≠ 0 → Nm.tries roots f s = [] := fun e => by unfold Nm.tries; rw [if_neg h8, if_neg (by rw [hnear]; simp), if_pos e]
  have hq1 : (Nm.clean s).1 = 0 → Nm.tries roots f s = Nm.triesOf (Nm.clean s).2 [] roots := fun e => by unfold Nm.tries; rw [if_neg h8, if_neg (by rw [hnear]; simp), if_neg (fun x => x e)]
  obtain ⟨r1, r2, hr2⟩ : ∃ r1 r2, Nm.clean s = (r1, r2) := ⟨_, _, rfl⟩
  rw [hr2] at hcw hq0 hq1 hsz
  have HCW := hide hcw
  replace hsz : r2.size ≤ 60 := hsz
  replace hq0 : r1 ≠ 0 → Nm.tries roots f s = [] := hq0
  replace hq1 : r1 = 0 → Nm.tries roots f s = Nm.triesOf r2 [] roots := hq1
  clear hcw hr2 hnear
  by_cases hz : r1 = 0
  · subst hz
    have HQ := hide (hq1 rfl)
    clear hq0 hq1
    go_enter Tryz.func71, Tryz.ntmps71
    go_wp2_with fail
    refine (unhide HCN).mono ?_
    rintro e w1 ⟨rfl, hb1⟩
    go_wp2_with fail
    refine (HCW.out _ ((hm.below hb1).below (by (repeat (first | with_reducible exact Below.refl _ _ | with_reducible assumption | with_reducible refine Below.alloc ?_ (by first | exact Nat.le_refl _ | exact Below.size (by assumption) | exact Nat.le_trans (Below.size (by assumption)) (by simp; done) | (simp; done) | (simp; omega) | omega) _ | with_reducible refine below_drewN ?_ _ | with_reducible refine Below.drew ?_ | with_reducible refine Below.setCell ?_ (by first | exact Nat.le_refl _ | (simp; done) | (simp; omega) | omega) _))))).mono ?_
    rintro e w2 ⟨rfl, hb2⟩
    have hb := below_then hb1 hb1.size hb2
    clear hb1 hb2 HCN HCW
    have hh := (h.below hb).below (Below.alloc (Below.refl _ w2) (Nat.le_refl _) (Obj.cells #[.int .i64 0, .string r2] 102))
    have hbW : Below w.heap.size w (w2.alloc (Obj.cells #[.int .i64 0, .string r2] 102)) := by (repeat (first | with_reducible exact Below.refl _ _ | with_reducible assumption | with_reducible refine Below.alloc ?_ (by first | exact Nat.le_refl _ | exact Below.size (by assumption) | exact Nat.le_trans (Below.size (by assumption)) (by simp; done) | (simp; done) | (simp; omega) | omega) _ | with_reducible refine below_drewN ?_ _ | with_reducible refine Below.drew ?_ | with_reducible refine Below.setCell ?_ (by first | exact Nat.le_refl _ | (simp; done) | (simp; omega) | omega) _))
    have hblk0 : (w2.alloc (Obj.cells #[.int .i64 0, .string r2] 102)).heap[w2.heap.size]? = some (Obj.cells #[.int .i64 0, .string r2] 102) := heap_alloc_new w2 _
    have hsz0 : w2.heap.size < (w2.alloc (Obj.cells #[.int .i64 0, .string r2] 102)).heap.size := by simp
    have HW0 : ∃ W0 : World, W0 = w2.alloc (Obj.cells #[.int .i64 0, .string r2] 102) := ⟨_, rfl⟩
    go_wp2_with fail
    obtain ⟨W0, hW0⟩ := HW0
    rw [← hW0] at hh hbW hblk0 hsz0 ⊢
    clear hW0 hb h
    go_loopw [12, 14, 15, 16, 17, 19, 51, 70] (fun v _ _ _ _ _ i _ wr => ∃ (k : Nat) (out : List Str), i = .int .i64 k ∧ k ≤ roots.length ∧ Hid (Nm.triesOf r2 [] roots = Nm.triesOf r2 out (roots.drop k)) ∧ out.length ≤ k ∧ Own fStr wr W0.heap.size 9 v out ∧ Below W0.heap.size W0 wr) (fun _ _ _ _ _ _ i _ _ => roots.length - (intOf i).toNat)
    case atStart => exact ⟨0, [], rfl, by omega, rfl, by simp, Own.nil _ _ _, by (repeat (first | with_reducible exact Below.refl _ _ | with_reducible assumption | with_reducible refine Below.alloc ?_ (by first | exact Nat.le_refl _ | exact Below.size (by assumption) | exact Nat.le_trans (Below.size (by assumption)) (by simp; done) | (simp; done) | (simp; omega) | omega) _ | with_reducible refine below_drewN ?_ _ | with_reducible refine Below.drew ?_ | with_reducible refine Below.setCell ?_ (by first | exact Nat.le_refl _ | (simp; done) | (simp; omega) | omega) _))⟩
    case round =>
      obtain ⟨k, out, rfl, hk, HTT, hol, HO, HB⟩ := hrel
      by_cases hlt : k < roots.length
      · obtain ⟨ad, rfl, hc⟩ := (hh.below HB).get hlt
        have e1 : wr.cell? (ad.add k) = some (.string roots[k]) := by simpa [kStr] using hc.2
        have hblk1 := (HB.block w2.heap.size hsz0).trans hblk0
        have n1 : wr.cell? ⟨w2.heap.size, 1, none⟩ = some (.string r2) := blk_cell hblk1 1
        have hrs := hr roots[k] (List.getElem_mem _)
        have HD := hide (Nm.triesOf_drop r2 out roots k hlt)
        have hmr := (hm.below hbW).below HB
        generalize hrk : roots[k] = rk at e1 HD hrs
        obtain ⟨q1, q2, hq⟩ : ∃ q1 q2, Nm.rooted rk r2 = (q1, q2) := ⟨_, _, rfl⟩
        have hqc : Nm.rooted rk r2 = if rk = ⟨#[]⟩ then Nm.clean r2 else Nm.clean (rk ++ ⟨#[47]⟩ ++ r2) := rfl
        rw [hq] at HD
        replace HD : Hid (Nm.triesOf r2 out (roots.drop k) = if q1 = 0 ∧ Nm.metIn out q2 = false then Nm.triesOf r2 (out ++ [q2]) (roots.drop (k + 1)) else Nm.triesOf r2 out (roots.drop (k + 1))) := HD
        have HQC := hide hqc
        have HQQ := hide hq
        clear hqc hq hc hrk hblk1
        have hcase : (rk.toList.isEmpty = true ∧ ∀ W : World, ML W → Calls Tryz.prog 57 #[.string r2] W (RetNamed W (q1, q2))) ∨ (rk.toList.isEmpty = false ∧ ∀ W : World, ML W → Calls Tryz.prog 57 #[.string (rk ++ ⟨#[47]⟩ ++ r2)] W (RetNamed W (q1, q2))) := by
          by_cases h0 : rk = ⟨#[]⟩
          · refine .inl ⟨tl_e h0, fun W hW => ?_⟩
            have := iClean_calls r2 W (by omega) hW
            have e := HQC.out
            rw [if_pos h0, HQQ.out] at e
            rwa [← e] at this
          · refine .inr ⟨tl_n h0, fun W hW => ?_⟩
            have h47 : (⟨#[47]⟩ : Str).size = 1 := rfl
            have := iClean_calls (rk ++ ⟨#[47]⟩ ++ r2) W (by rw [ByteArray.size_append, ByteArray.size_append]; omega) hW
            have e := HQC.out
            rw [if_neg h0, HQQ.out] at e
            rwa [← e] at this
        have h47 : (⟨#[47]⟩ : Str).size = 1 := rfl
        have k1 := fun W : World => run_string_add_sum (P := Tryz.prog) (w := W) rk ⟨#[47]⟩ (by omega)
        have k2 := fun W : World => run_string_add_sum (P := Tryz.prog) (w := W) (rk ++ ⟨#[47]⟩) r2 (by rw [ByteArray.size_append]; omega)
        clear HQC HQQ h47
        have HCASE := hide hcase
        clear hcase
        rcases HCASE.out with ⟨hre, hcr⟩ | ⟨hre, hcr⟩
        all_goals
          have HCR := hide hcr
          clear hcr HCASE
          go_wp2_with fail
          refine (HCR.out _ hmr).mono ?_
          rintro e w3 ⟨rfl, hb3⟩
          replace HB := below_then HB HB.size hb3
          replace HO := HO.below hb3
          have hs3 := HB.size
          clear hb3 HCR n1 e1 k1 k2 hmr hre
          obtain ⟨A9, c9, rfl, hoc, hom, hosl⟩ := HO.slV
          have hosl2 := hosl.below (Below.alloc (Below.refl _ w3) (Nat.le_refl _) (Obj.cells #[.int .i64 q1, .string q2] 102))
          obtain ⟨okb, hok⟩ : ∃ b : Bool, b = (q1 == 0) := ⟨_, rfl⟩
          have HOK := hide hok
          rw [eq_comm] at hok
          go_wp2_with fail
          clear hok
          go_loop [17, 19, 70] (fun m _ i => ∃ j : Nat, i = .int .i64 j ∧ j ≤ out.length ∧ m = .bool (okb && !Nm.metIn (out.take j) q2)) (fun _ _ i => out.length - (intOf i).toNat)
          case atStart => exact ⟨0, rfl, by omega, by simp [Nm.metIn]⟩
          case round =>
            obtain ⟨j, rfl, hj, rfl⟩ := hrel
            by_cases hjl : j < out.length
            · obtain ⟨ad9, rfl, hc9⟩ := hosl2.get hjl
              have e9 := hc9.2
              simp only [fStr, kStr, Nat.mul_one] at e9
              have hsn := Nm.metIn_snoc (out.take j) out[j] q2
              rw [← List.take_succ_eq_append_getElem hjl] at hsn
              have HSN := hide hsn
              clear hc9 hsn
              generalize out[j] = y at e9 HSN
              by_cases hm2 : (okb && !Nm.metIn (out.take j) q2) = true
              · rw [hm2]
                have HM := hide hm2
                by_cases hy : y = q2
                · have hy1 := nbeq_t hy
                  have hv : (okb && !Nm.metIn (out.take (j + 1)) q2) = false := by rw [HSN.out, decide_eq_true hy]; simp
                  have HV := hide hv
                  clear hm2 hv hy
                  go_wp2_with fail
                  go_round
                  case rel => exact ⟨j + 1, by go_num, by omega, by rw [HV.out]⟩
                  case measure => simp [intOf]; omega
                · have hy1 := nbeq_f hy
                  have hv : (okb && !Nm.metIn (out.take (j + 1)) q2) = true := by rw [HSN.out, decide_eq_false hy, Bool.or_false]; exact HM.out
                  have HV := hide hv
                  clear hm2 hv hy
                  go_wp2_with fail
                  go_round
                  case rel => exact ⟨j + 1, by go_num, by omega, by rw [HV.out]⟩
                  case measure => simp [intOf]; omega
              · have hm2 : (okb && !Nm.metIn (out.take j) q2) = false := by simpa using hm2
                rw [hm2]
                have hv : (okb && !Nm.metIn (out.take (j + 1)) q2) = false := by
                  rw [HSN.out]
                  cases okb <;> simp_all
                have HV := hide hv
                clear hm2 hv
                go_wp2_with fail
                go_round
                case rel => exact ⟨j + 1, by go_num, by omega, by rw [HV.out]⟩
                case measure => simp [intOf]; omega
            · obtain rfl : j = out.length := by omega
              rw [List.take_length]
              by_cases hm2 : (okb && !Nm.metIn out q2) = true
              · rw [hm2]
                have hd := HD.out
                have hm3 : okb = true ∧ Nm.metIn out q2 = false := by simpa using hm2
                rw [if_pos ⟨by have h := HOK.out; rw [hm3.1] at h; simpa using h.symm, hm3.2⟩] at hd
                have HT2 := hide (HTT.out.trans hd)
                clear hm2 hm3 hd
                have HO2 := HO.alloc (Obj.cells #[.int .i64 q1, .string q2] 102)
                have HB2 := HB.alloc HB.size (Obj.cells #[.int .i64 q1, .string q2] 102)
                go_wp2_with (at_builtin; refine append_own_g fStr W0.heap.size rfl _ _ 23 9 (.string ByteArray.empty) 16 rfl Tryz.underlying23 info_str rfl (by omega) (.slice A9 out.length c9) out q2 #[.string q2] rfl rfl (w3.heap.size + 1) (by simp) rfl HO2 HB2 (by have := HB2.size; omega) (by omega) ?_; intro v1 w5 hown hbel _ _)
                go_roundw
                case rel => exact ⟨k + 1, out ++ [q2], by go_num, by omega, HT2, by simp; omega, hown, hbel⟩
                case measure => simp [intOf]; omega
              · have hm2 : (okb && !Nm.metIn out q2) = false := by simpa using hm2
                rw [hm2]
                have hd := HD.out
                rw [if_neg (fun e => by
                  have h := HOK.out
                  rw [e.1] at h
                  rw [h, e.2] at hm2
                  simp at hm2)] at hd
                have HT2 := hide (HTT.out.trans hd)
                clear hm2 hd
                go_wp2_with fail
                go_roundw
                case rel => exact ⟨k + 1, out, by go_num, by omega, HT2, by omega, HO.alloc _, by (repeat (first | with_reducible exact Below.refl _ _ | with_reducible assumption | with_reducible refine Below.alloc ?_ (by first | exact Nat.le_refl _ | exact Below.size (by assumption) | exact Nat.le_trans (Below.size (by assumption)) (by simp; done) | (simp; done) | (simp; omega) | omega) _ | with_reducible refine below_drewN ?_ _ | with_reducible refine Below.drew ?_ | with_reducible refine Below.setCell ?_ (by first | exact Nat.le_refl _ | (simp; done) | (simp; omega) | omega) _))⟩
                case measure => simp [intOf]; omega
      · obtain rfl : k = roots.length := by omega
        have hd := HTT.out
        rw [List.drop_length] at hd
        go_wp2_with fail
        go_ret
        refine ⟨_, rfl, ?_, hbW.trans (HB.mono hbW.size)⟩
        rw [HQ.out, hd]
        exact HO.more hbW.size
  · have HQ := hide (hq0 hz)
    have hcb : (r1 != 0) = true := by simpa using hz
    clear hq0 hq1 hz
    go_enter Tryz.func71, Tryz.ntmps71
    go_wp2_with fail
    refine (unhide HCN).mono ?_
    rintro e w1 ⟨rfl, hb1⟩
    go_wp2_with fail
    refine (HCW.out _ ((hm.below hb1).below (by (repeat (first | with_reducible exact Below.refl _ _ | with_reducible assumption | with_reducible refine Below.alloc ?_ (by first | exact Nat.le_refl _ | exact Below.size (by assumption) | exact Nat.le_trans (Below.size (by assumption)) (by simp; done) | (simp; done) | (simp; omega) | omega) _ | with_reducible refine below_drewN ?_ _ | with_reducible refine Below.drew ?_ | with_reducible refine Below.setCell ?_ (by first | exact Nat.le_refl _ | (simp; done) | (simp; omega) | omega) _))))).mono ?_
    rintro e w2 ⟨rfl, hb2⟩
    have hb := below_then hb1 hb1.size hb2
    clear hb1 hb2
    go_wp2_with fail
    go_ret
    exact ⟨_, rfl, by rw [HQ.out]; exact Own.nil _ _ _, by (repeat (first | with_reducible exact Below.refl _ _ | with_reducible assumption | with_reducible refine Below.alloc ?_ (by first | exact Nat.le_refl _ | exact Below.size (by assumption) | exact Nat.le_trans (Below.size (by assumption)) (by simp; done) | (simp; done) | (simp; omega) | omega) _ | with_reducible refine below_drewN ?_ _ | with_reducible refine Below.drew ?_ | with_reducible refine Below.setCell ?_ (by first | exact Nat.le_refl _ | (simp; done) | (simp; omega) | omega) _))⟩
end Go.Proofs.YtkhlicmlnjccdaaGreatDoor
