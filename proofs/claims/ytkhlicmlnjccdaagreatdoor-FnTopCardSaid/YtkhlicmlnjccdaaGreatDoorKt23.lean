/-
  Walk: the reference's Tries.
-/
import Derived.Test.YtkhlicmlnjccdaaGreatDoorKt22
namespace Go.Proofs.YtkhlicmlnjccdaaGreatDoor
open Go.RowKit Mem

set_option maxRecDepth 100000 in
set_option maxHeartbeats 2000000 in
theorem sTries_calls (A : Option Addr) (c n : Nat) (roots : List Str) (f s : Str) (S : Nat → Prop) (w : World) (h : Sl kStr w S A roots) (hn : roots.length = n) (hl : n ≤ maxLen) (hr : ∀ r ∈ roots, r.size ≤ 1048576) (hf : f.size ≤ 1073741824) (hs : s.size ≤ 1073741824) :
    Calls Tryz.prog 91 #[.slice A n c, .string f, .string s] w (RetOwn fStr w 9 (Nm.tries roots f s)) := by
  subst hn
  unfold maxLen at hl
  by_cases h8 : 8 < roots.length
  · have hq : Nm.tries roots f s = [] := by unfold Nm.tries; rw [if_pos h8]
    have HQ := hide hq
    clear hq
    go_enter Tryz.func91, Tryz.ntmps91
    go_wp2_with fail
    go_ret
    exact ⟨_, rfl, by rw [HQ.out]; exact Own.nil _ _ _, by (repeat (first | with_reducible exact Below.refl _ _ | with_reducible assumption | with_reducible refine Below.alloc ?_ (by first | exact Nat.le_refl _ | exact Below.size (by assumption) | exact Nat.le_trans (Below.size (by assumption)) (by simp; done) | (simp; done) | (simp; omega) | omega) _ | with_reducible refine below_drewN ?_ _ | with_reducible refine Below.drew ?_ | with_reducible refine Below.setCell ?_ (by first | exact Nat.le_refl _ | (simp; done) | (simp; omega) | omega) _))⟩
  have hcn := fun W : World => l1near_calls s W hs
  by_cases hnear : Nm.near s = true
  · rw [hnear] at hcn
    have hcw := fun W : World => sWithin_calls f s W hf hs
    have hq0 : (Nm.within f s).1 ≠ 0 → Nm.tries roots f s = [] := fun e => by unfold Nm.tries; rw [if_neg h8, if_pos hnear, if_pos e]
    have hq1 : (Nm.within f s).1 = 0 → Nm.tries roots f s = [(Nm.within f s).2] := fun e => by unfold Nm.tries; rw [if_neg h8, if_pos hnear, if_neg (fun x => x e)]
    obtain ⟨r1, r2, hr⟩ : ∃ r1 r2, Nm.within f s = (r1, r2) := ⟨_, _, rfl⟩
    rw [hr] at hcw hq0 hq1
    have HCN := hide hcn
    have HCW := hide hcw
    replace hq0 : r1 ≠ 0 → Nm.tries roots f s = [] := hq0
    replace hq1 : r1 = 0 → Nm.tries roots f s = [r2] := hq1
    clear hcn hcw hr hnear
    by_cases hz : r1 = 0
    · subst hz
      have HQ := hide (hq1 rfl)
      clear hq0 hq1
      go_enter Tryz.func91, Tryz.ntmps91
      go_wp2_with fail
      refine (HCN.out _).mono ?_
      rintro e w1 ⟨rfl, hb1⟩
      go_wp2_with fail
      refine (HCW.out _).mono ?_
      rintro e w2 ⟨rfl, hb2⟩
      have hb := below_then hb1 hb1.size hb2
      clear hb1 hb2
      go_wp2_with fail
      go_ret
      refine ⟨_, rfl, ?_, by (repeat (first | with_reducible exact Below.refl _ _ | with_reducible assumption | with_reducible refine Below.alloc ?_ (by first | exact Nat.le_refl _ | exact Below.size (by assumption) | exact Nat.le_trans (Below.size (by assumption)) (by simp; done) | (simp; done) | (simp; omega) | omega) _ | with_reducible refine below_drewN ?_ _ | with_reducible refine Below.drew ?_ | with_reducible refine Below.setCell ?_ (by first | exact Nat.le_refl _ | (simp; done) | (simp; omega) | omega) _))⟩
      rw [HQ.out]
      have ho := Own.one (k := fStr) (w2.alloc (Obj.cells #[.int .i64 0, .string r2] 102)) w.heap.size 9 r2 #[.string r2] rfl (by have := hb.size; simp; omega)
      simpa using ho
    · have HQ := hide (hq0 hz)
      have hcb : (r1 != 0) = true := by simpa using hz
      clear hq0 hq1 hz
      go_enter Tryz.func91, Tryz.ntmps91
      go_wp2_with fail
      refine (HCN.out _).mono ?_
      rintro e w1 ⟨rfl, hb1⟩
      go_wp2_with fail
      refine (HCW.out _).mono ?_
      rintro e w2 ⟨rfl, hb2⟩
      have hb := below_then hb1 hb1.size hb2
      clear hb1 hb2
      go_wp2_with fail
      go_ret
      exact ⟨_, rfl, by rw [HQ.out]; exact Own.nil _ _ _, by (repeat (first | with_reducible exact Below.refl _ _ | with_reducible assumption | with_reducible refine Below.alloc ?_ (by first | exact Nat.le_refl _ | exact Below.size (by assumption) | exact Nat.le_trans (Below.size (by assumption)) (by simp; done) | (simp; done) | (simp; omega) | omega) _ | with_reducible refine below_drewN ?_ _ | with_reducible refine Below.drew ?_ | with_reducible refine Below.setCell ?_ (by first | exact Nat.le_refl _ | (simp; done) | (simp; omega) | omega) _))⟩
  have hnear : Nm.near s = false := by simpa using hnear
  rw [hnear] at hcn
  have hcw := fun W : World => sClean_calls s W hs
  have hsz := Nm.clean_size s
  have hq0 : (Nm.clean s).1 ≠ 0 → Nm.tries roots f s = [] := fun e => by unfold Nm.tries; rw [if_neg h8, if_neg (by rw [hnear]; simp), if_pos e]
  have hq1 : (Nm.clean s).1 = 0 → Nm.tries roots f s = Nm.triesOf (Nm.clean s).2 [] roots := fun e => by unfold Nm.tries; rw [if_neg h8, if_neg (by rw [hnear]; simp), if_neg (fun x => x e)]
  obtain ⟨r1, r2, hr2⟩ : ∃ r1 r2, Nm.clean s = (r1, r2) := ⟨_, _, rfl⟩
  rw [hr2] at hcw hq0 hq1 hsz
  have HCN := hide hcn
  have HCW := hide hcw
  replace hsz : r2.size ≤ 60 := hsz
  replace hq0 : r1 ≠ 0 → Nm.tries roots f s = [] := hq0
  replace hq1 : r1 = 0 → Nm.tries roots f s = Nm.triesOf r2 [] roots := hq1
  clear hcn hcw hr2 hnear
  by_cases hz : r1 = 0
  · subst hz
    have HQ := hide (hq1 rfl)
    clear hq0 hq1
    go_enter Tryz.func91, Tryz.ntmps91
    go_wp2_with fail
    refine (HCN.out _).mono ?_
    rintro e w1 ⟨rfl, hb1⟩
    go_wp2_with fail
    refine (HCW.out _).mono ?_
    rintro e w2 ⟨rfl, hb2⟩
    have hb := below_then hb1 hb1.size hb2
    clear hb1 hb2 HCN HCW
    have hh := (h.below hb).below (Below.alloc (Below.refl _ w2) (Nat.le_refl _) (Obj.cells #[.int .i64 0, .string r2] 102))
    have hbW : Below w.heap.size w (w2.alloc (Obj.cells #[.int .i64 0, .string r2] 102)) := by (repeat (first | with_reducible exact Below.refl _ _ | with_reducible assumption | with_reducible refine Below.alloc ?_ (by first | exact Nat.le_refl _ | exact Below.size (by assumption) | exact Nat.le_trans (Below.size (by assumption)) (by simp; done) | (simp; done) | (simp; omega) | omega) _ | with_reducible refine below_drewN ?_ _ | with_reducible refine Below.drew ?_ | with_reducible refine Below.setCell ?_ (by first | exact Nat.le_refl _ | (simp; done) | (simp; omega) | omega) _))
    have hblk0 : (w2.alloc (Obj.cells #[.int .i64 0, .string r2] 102)).heap[w2.heap.size]? = some (Obj.cells #[.int .i64 0, .string r2] 102) := heap_alloc_new w2 _
    have hsz0 : w2.heap.size < (w2.alloc (Obj.cells #[.int .i64 0, .string r2] 102)).heap.size := by simp
    have HW0 : ∃ W0 : World, W0 = w2.alloc (Obj.cells #[.int .i64 0, .string r2] 102) := ⟨_, rfl⟩
    go_wp2_with fail
    obtain ⟨W0, hW0⟩ := HW0
    rw [← hW0] at hh hbW hblk0 hsz0 ⊢
    clear hW0 hb h
    go_loopw [9, 11, 12, 13, 15, 37, 50] (fun v _ _ _ _ i _ wr => ∃ (k : Nat) (out : List Str), i = .int .i64 k ∧ k ≤ roots.length ∧ Hid (Nm.triesOf r2 [] roots = Nm.triesOf r2 out (roots.drop k)) ∧ out.length ≤ k ∧ Own fStr wr W0.heap.size 9 v out ∧ Below W0.heap.size W0 wr) (fun _ _ _ _ _ i _ _ => roots.length - (intOf i).toNat)
    case atStart => exact ⟨0, [], rfl, by omega, rfl, by simp, Own.nil _ _ _, by (repeat (first | with_reducible exact Below.refl _ _ | with_reducible assumption | with_reducible refine Below.alloc ?_ (by first | exact Nat.le_refl _ | exact Below.size (by assumption) | exact Nat.le_trans (Below.size (by assumption)) (by simp; done) | (simp; done) | (simp; omega) | omega) _ | with_reducible refine below_drewN ?_ _ | with_reducible refine Below.drew ?_ | with_reducible refine Below.setCell ?_ (by first | exact Nat.le_refl _ | (simp; done) | (simp; omega) | omega) _))⟩
    case round =>
      obtain ⟨k, out, rfl, hk, HT, hol, HO, HB⟩ := hrel
      by_cases hlt : k < roots.length
      · obtain ⟨ad, rfl, hc⟩ := (hh.below HB).get hlt
        have e1 : wr.cell? (ad.add k) = some (.string roots[k]) := by simpa [kStr] using hc.2
        have hblk1 := (HB.block w2.heap.size hsz0).trans hblk0
        have n1 : wr.cell? ⟨w2.heap.size, 1, none⟩ = some (.string r2) := blk_cell hblk1 1
        have hrs := hr roots[k] (List.getElem_mem _)
        have HD := hide (Nm.triesOf_drop r2 out roots k hlt)
        have hcr := fun W : World => l1rooted_calls roots[k] r2 W (by omega) hsz
        generalize hrk : roots[k] = rk at e1 HD hcr hrs
        obtain ⟨q1, q2, hq⟩ : ∃ q1 q2, Nm.rooted rk r2 = (q1, q2) := ⟨_, _, rfl⟩
        rw [hq] at HD hcr
        replace HD : Hid (Nm.triesOf r2 out (roots.drop k) = if q1 = 0 ∧ Nm.metIn out q2 = false then Nm.triesOf r2 (out ++ [q2]) (roots.drop (k + 1)) else Nm.triesOf r2 out (roots.drop (k + 1))) := HD
        have HCR := hide hcr
        clear hcr hq hc hrk hblk1
        go_wp2_with fail
        refine (HCR.out _).mono ?_
        rintro e w3 ⟨rfl, hb3⟩
        replace HB := below_then HB HB.size hb3
        replace HO := HO.below hb3
        have hs3 := HB.size
        clear hb3 HCR n1 e1
        by_cases hq1 : q1 = 0
        · subst hq1
          obtain ⟨A9, c9, rfl, hoc, hom, hosl⟩ := HO.slV
          have hosl2 := hosl.below (Below.alloc (Below.refl _ w3) (Nat.le_refl _) (Obj.cells #[.int .i64 0, .string q2] 102))
          go_wp2_with fail
          have hmet0 : Nm.metIn (out.take 0) q2 = false := rfl
          go_loop [13, 15, 50] (fun m _ i => ∃ j : Nat, i = .int .i64 j ∧ j ≤ out.length ∧ m = .bool (Nm.metIn (out.take j) q2)) (fun _ _ i => out.length - (intOf i).toNat)
          case atStart => exact ⟨0, rfl, by omega, by rw [hmet0]⟩
          case round =>
            obtain ⟨j, rfl, hj, rfl⟩ := hrel
            by_cases hjl : j < out.length
            · obtain ⟨ad9, rfl, hc9⟩ := hosl2.get hjl
              have e9 := hc9.2
              simp only [fStr, kStr, Nat.mul_one] at e9
              have hsn := Nm.metIn_snoc (out.take j) out[j] q2
              rw [← List.take_succ_eq_append_getElem hjl] at hsn
              have HSN := hide hsn
              clear hc9 hsn hmet0
              generalize out[j] = y at e9 HSN
              by_cases hm : Nm.metIn (out.take j) q2 = true
              · rw [hm]
                have hsn2 := HSN.out
                rw [hm, Bool.true_or] at hsn2
                have HM := hide hm
                have HS2 := hide hsn2
                clear hm hsn2
                go_wp2_with fail
                go_round
                case rel => exact ⟨j + 1, by go_num, by omega, by rw [HS2.out]⟩
                case measure => simp [intOf]; omega
              · have hm : Nm.metIn (out.take j) q2 = false := by simpa using hm
                rw [hm]
                have hsn2 := HSN.out
                rw [hm, Bool.false_or] at hsn2
                by_cases hy : y = q2
                · have hy1 := beq_t hy
                  rw [decide_eq_true hy] at hsn2
                  have HS2 := hide hsn2
                  clear hm hsn2 hy
                  go_wp2_with fail
                  go_round
                  case rel => exact ⟨j + 1, by go_num, by omega, by rw [HS2.out]⟩
                  case measure => simp [intOf]; omega
                · have hy1 := beq_f hy
                  rw [decide_eq_false hy] at hsn2
                  have HS2 := hide hsn2
                  clear hm hsn2 hy
                  go_wp2_with fail
                  go_round
                  case rel => exact ⟨j + 1, by go_num, by omega, by rw [HS2.out]⟩
                  case measure => simp [intOf]; omega
            · obtain rfl : j = out.length := by omega
              rw [List.take_length]
              by_cases hm : Nm.metIn out q2 = true
              · rw [hm]
                have hd := HD.out
                rw [if_neg (by rw [hm]; simp)] at hd
                have HT2 := hide (HT.out.trans hd)
                clear hm hd hmet0
                go_wp2_with fail
                go_roundw
                case rel => exact ⟨k + 1, out, by go_num, by omega, HT2, by omega, HO.alloc _, by (repeat (first | with_reducible exact Below.refl _ _ | with_reducible assumption | with_reducible refine Below.alloc ?_ (by first | exact Nat.le_refl _ | exact Below.size (by assumption) | exact Nat.le_trans (Below.size (by assumption)) (by simp; done) | (simp; done) | (simp; omega) | omega) _ | with_reducible refine below_drewN ?_ _ | with_reducible refine Below.drew ?_ | with_reducible refine Below.setCell ?_ (by first | exact Nat.le_refl _ | (simp; done) | (simp; omega) | omega) _))⟩
                case measure => simp [intOf]; omega
              · have hm : Nm.metIn out q2 = false := by simpa using hm
                rw [hm]
                have hd := HD.out
                rw [if_pos ⟨by first | rfl | trivial, hm⟩] at hd
                have HT2 := hide (HT.out.trans hd)
                clear hm hd hmet0
                have HO2 := HO.alloc (Obj.cells #[.int .i64 0, .string q2] 102)
                have HB2 := HB.alloc HB.size (Obj.cells #[.int .i64 0, .string q2] 102)
                go_wp2_with (at_builtin; refine append_own_g fStr W0.heap.size rfl _ _ 23 9 (.string ByteArray.empty) 16 rfl Tryz.underlying23 info_str rfl (by omega) (.slice A9 out.length c9) out q2 #[.string q2] rfl rfl (w3.heap.size + 1) (by simp) rfl HO2 HB2 (by have := HB2.size; omega) (by omega) ?_; intro v1 w5 hown hbel _ _)
                go_roundw
                case rel => exact ⟨k + 1, out ++ [q2], by go_num, by omega, HT2, by simp; omega, hown, hbel⟩
                case measure => simp [intOf]; omega
        · have hd := HD.out
          rw [if_neg (fun e => hq1 e.1)] at hd
          have HT2 := hide (HT.out.trans hd)
          have hcb : (q1 != 0) = true := by simpa using hq1
          clear hd hq1
          go_wp2_with fail
          go_roundw
          case rel => exact ⟨k + 1, out, by go_num, by omega, HT2, by omega, HO.alloc _, by (repeat (first | with_reducible exact Below.refl _ _ | with_reducible assumption | with_reducible refine Below.alloc ?_ (by first | exact Nat.le_refl _ | exact Below.size (by assumption) | exact Nat.le_trans (Below.size (by assumption)) (by simp; done) | (simp; done) | (simp; omega) | omega) _ | with_reducible refine below_drewN ?_ _ | with_reducible refine Below.drew ?_ | with_reducible refine Below.setCell ?_ (by first | exact Nat.le_refl _ | (simp; done) | (simp; omega) | omega) _))⟩
          case measure => simp [intOf]; omega
      · obtain rfl : k = roots.length := by omega
        have hd := HT.out
        rw [List.drop_length] at hd
        go_wp2_with fail
        go_ret
        refine ⟨_, rfl, ?_, hbW.trans (HB.mono hbW.size)⟩
        rw [HQ.out, hd]
        exact HO.more hbW.size
  · have HQ := hide (hq0 hz)
    have hcb : (r1 != 0) = true := by simpa using hz
    clear hq0 hq1 hz
    go_enter Tryz.func91, Tryz.ntmps91
    go_wp2_with fail
    refine (HCN.out _).mono ?_
    rintro e w1 ⟨rfl, hb1⟩
    go_wp2_with fail
    refine (HCW.out _).mono ?_
    rintro e w2 ⟨rfl, hb2⟩
    have hb := below_then hb1 hb1.size hb2
    clear hb1 hb2
    go_wp2_with fail
    go_ret
    exact ⟨_, rfl, by rw [HQ.out]; exact Own.nil _ _ _, by (repeat (first | with_reducible exact Below.refl _ _ | with_reducible assumption | with_reducible refine Below.alloc ?_ (by first | exact Nat.le_refl _ | exact Below.size (by assumption) | exact Nat.le_trans (Below.size (by assumption)) (by simp; done) | (simp; done) | (simp; omega) | omega) _ | with_reducible refine below_drewN ?_ _ | with_reducible refine Below.drew ?_ | with_reducible refine Below.setCell ?_ (by first | exact Nat.le_refl _ | (simp; done) | (simp; omega) | omega) _))⟩
end Go.Proofs.YtkhlicmlnjccdaaGreatDoor
