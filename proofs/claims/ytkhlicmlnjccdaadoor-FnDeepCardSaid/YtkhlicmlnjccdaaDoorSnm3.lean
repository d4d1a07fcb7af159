/-
  Walk: the reference's l1walk.
-/
import Derived.Test.YtkhlicmlnjccdaaDoorSnm2
namespace Go.Proofs.YtkhlicmlnjccdaaDoor
open Go.RowKit Mem

/-- the post of l1walk -/
def RetWalk (w : World) (r : Int × List Nm.Bs) (e : Ending) (w' : World) : Prop := ∃ v, e = .returned (.tuple #[v, .int .i64 r.1]) ∧ Own fStr w' w.heap.size 9 v (r.2.map Nm.mk) ∧ Below w.heap.size w w'

set_option maxRecDepth 100000 in
set_option maxHeartbeats 1000000 in
theorem l1walk_calls (A : Option Addr) (c : Nat) (xs : List Str) (S : Nat → Prop) (s : Str) (w : World) (h : Sl kStr w S A xs) (hl : xs.length ≤ 1073741824) (hs : s.size ≤ 1073741824) :
    Calls Tryd.prog 91 #[.slice A xs.length c, .string s] w (RetWalk w (Nm.walk (xs.map Nm.bs) (Nm.parts (Nm.bs s)))) := by
  go_enter Tryd.func91, Tryd.ntmps91
  go_wp2
  go_loopw [6, 8, 14] (fun v _ i wr => ∃ k : Nat, i = .int .i64 k ∧ k ≤ xs.length ∧ Own fStr wr w.heap.size 9 v (xs.take k) ∧ Below w.heap.size w wr) (fun _ _ i _ => xs.length - (intOf i).toNat)
  case atStart => exact ⟨0, rfl, by omega, Own.nil _ _ _, by (repeat (first | with_reducible exact Below.refl _ _ | with_reducible assumption | with_reducible refine Below.alloc ?_ (by first | exact Nat.le_refl _ | exact Below.size (by assumption) | exact Nat.le_trans (Below.size (by assumption)) (by simp; done) | (simp; done) | (simp; omega) | omega) _ | with_reducible refine below_drewN ?_ _ | with_reducible refine Below.drew ?_ | with_reducible refine Below.setCell ?_ (by first | exact Nat.le_refl _ | (simp; done) | (simp; omega) | omega) _))⟩
  case round =>
    obtain ⟨k, rfl, hk, HO, HB⟩ := hrel
    by_cases hlt : k < xs.length
    · obtain ⟨ad, rfl, hc⟩ := (h.below HB).get hlt
      have e1 : wr.cell? (ad.add k) = some (.string xs[k]) := by simpa [kStr] using hc.2
      clear hc
      go_wp2_with (at_builtin; refine append_own fStr w.heap.size rfl _ _ 29 9 (.string ByteArray.empty) 16 rfl Tryd.underlying29 info_str rfl (by omega) u6 (xs.take k) xs[k] #[.string xs[k]] rfl rfl rfl HO HB HB.size (by simp; omega) ?_; intro v1 w1 hown hbel _ _)
      go_roundw
      case rel =>
        refine ⟨k + 1, by go_num, by omega, ?_, hbel⟩
        rw [List.take_succ_eq_append_getElem hlt]; exact hown
      case measure => simp [intOf]; omega
    · obtain rfl : k = xs.length := by omega
      rw [List.take_length] at HO
      go_wp2_with fail
      refine (l1parts_calls s wr hs).mono ?_
      rintro e w1 ⟨vP, rfl, HP, hbP⟩
      generalize hps : Nm.parts (Nm.bs s) = ps at HP ⊢
      have HPS := hide hps
      clear hps
      have hpn : ps.map Nm.mk ≠ [] := by rw [← HPS.out]; simpa using Nm.parts_ne _
      have hpl : ps.length ≤ 1073741825 := by have := Nm.parts_length (Nm.bs s); rw [HPS.out, Nm.bs_length] at this; omega
      obtain ⟨g2, c2, rfl, hg2, hg2l, hpc, hpm, hob, hsl⟩ := HP.form hpn
      have HPN := hide hpn
      clear hpn HP hob
      rw [List.length_map] at hpc ⊢
      go_wp2_with fail
      have HO1 := HO.below hbP
      have hne1 : u6.ownBlock ≠ some g2 := fun e => by have := HO.lt e; omega
      have HB1 := below_then HB HB.size hbP
      go_loopw [6, 10, 11, 26] (fun v _ _ i wr => ∃ (k : Nat) (row : List Nm.Bs), i = .int .i64 k ∧ k ≤ ps.length ∧ Hid (Nm.walk (xs.map Nm.bs) ps = Nm.walk row (ps.drop k)) ∧ row.length ≤ xs.length + k ∧ Own fStr wr w.heap.size 9 v (row.map Nm.mk) ∧ v.ownBlock ≠ some g2 ∧ Below w.heap.size w wr ∧ Sl kStr wr (fun b => b = g2) (some ⟨g2, 0, none⟩) (ps.map Nm.mk)) (fun _ _ _ i _ => ps.length - (intOf i).toNat)
      case atStart => exact ⟨0, xs.map Nm.bs, rfl, by omega, rfl, by simp, by rw [List.map_map, show (Nm.mk ∘ Nm.bs) = id from funext Nm.mk_bs, List.map_id]; exact HO1, hne1, HB1, hsl⟩
      case round =>
        clear HO1 hne1 HB1 hsl HO HB hbP
        obtain ⟨k, row, rfl, hk, HW, hrl, HO, hne, HB, hsl⟩ := hrel
        by_cases hlt : k < ps.length
        · obtain ⟨ad, e0, hc⟩ := hsl.get (i := k) (by simpa using hlt)
          cases e0
          have e1 : wr.cell? ⟨g2, k, none⟩ = some (.string (Nm.mk ps[k])) := by
            have := hc.2
            rw [add_plain] at this
            simpa [kStr] using this
          clear hc
          have hg2w : g2 < wr.heap.size := World.block_lt_of_cell? _ ⟨g2, k, none⟩ e1
          have HS := hide (Nm.walk_drop row ps k hlt)
          generalize hP : ps[k] = P at e1 HS
          have HP := hide hP
          clear hP
          generalize hT : Nm.mk P = t at e1
          have HT := hide hT
          clear hT
          by_cases hA : P = [46]
          · have hA1 : (t.toList == [46]) = true := tl_t (by rw [← HT.out, hA]; rfl)
            have HA := hide hA
            clear hA
            go_wp2_with fail
            go_roundw
            case rel =>
              have hq := HS.out
              rw [if_pos HA.out] at hq
              exact ⟨k + 1, row, by go_num, by omega, HW.out.trans hq, by omega, HO, hne, HB, hsl⟩
            case measure => simp [intOf]; omega
          have hA1 : (t.toList == [46]) = false := tl_f (fun e => hA (Nm.mk_inj (HT.out.trans e)))
          have HA := hide hA
          clear hA
          by_cases hB : P = [46, 46]
          · have hB1 : (t.toList == [46, 46]) = true := tl_t (by rw [← HT.out, hB]; rfl)
            have HBB := hide hB
            clear hB
            by_cases hr : row = []
            · have hq := HS.out
              rw [if_neg HA.out, if_pos HBB.out, if_pos hr] at hq
              have HQ := hide (HW.out.trans hq)
              subst hr
              clear hq
              obtain ⟨A6, c6, rfl, _, _, _⟩ := HO.slV
              go_wp2_with fail
              go_ret2
              refine ⟨.slice none 0 0, ?_, ?_, HB⟩
              · rw [HPS.out, HQ.out]; rfl
              · rw [HPS.out, HQ.out]; exact Own.nil _ _ _
            · have hq := HS.out
              rw [if_neg HA.out, if_pos HBB.out, if_neg hr] at hq
              have HQ := hide (HW.out.trans hq)
              clear hq
              have hrn : row.map Nm.mk ≠ [] := by simpa using hr
              obtain ⟨g1, c1, rfl, hg1, hg1l, hrc, hrm, hob1, _⟩ := HO.form hrn
              rw [hob1] at hne
              have hne := hide hne
              clear hob1
              obtain ⟨n, hn⟩ : ∃ n, row.length = n + 1 := ⟨row.length - 1, by cases row <;> simp_all⟩
              have HN := hide hn
              have hnb : n ≤ 4294967296 := by omega
              clear hrn hr
              rw [List.length_map, hn] at hrc
              have HO2 := HO
              rw [List.length_map, hn] at HO2 ⊢
              clear hn HO
              have HO3 := HO2.pop (by rw [List.length_map]; exact HN.out)
              clear HO2
              go_wp2_with fail
              go_roundw
              case rel =>
                exact ⟨k + 1, row.dropLast, by go_num, by omega, HQ, by rw [List.length_dropLast]; omega, by rw [List.map_dropLast]; exact HO3, hne.out, HB, hsl⟩
              case measure => simp [intOf]; omega
          have hB1 : (t.toList == [46, 46]) = false := tl_f (fun e => hB (Nm.mk_inj (HT.out.trans e)))
          have HBB := hide hB
          clear hB
          by_cases hE : P = []
          · have hE1 : t.toList.isEmpty = true := tl_e (by rw [← HT.out, hE]; rfl)
            have hq := HS.out
            rw [if_neg HA.out, if_neg HBB.out, if_neg (by rw [hE, Nm.plain_nil]; simp)] at hq
            have HQ := hide (HW.out.trans hq)
            clear hq hE
            go_wp2_with fail
            go_ret2
            refine ⟨.slice none 0 0, ?_, ?_, HB⟩
            · rw [HPS.out, HQ.out]; rfl
            · rw [HPS.out, HQ.out]; exact Own.nil _ _ _
          have hE1 : t.toList.isEmpty = false := tl_n (fun e => hE (Nm.mk_inj (HT.out.trans e)))
          have HE := hide hE
          clear hE
          have hts : t.size = P.length := by rw [← HT.out, Nm.mk_size]
          have HTS := hide hts
          have htl : t.size ≤ 1073741824 := by
            have := Nm.parts_le (Nm.bs s) P (by rw [HPS.out, ← HP.out]; exact List.getElem_mem _)
            rw [Nm.bs_length] at this
            omega
          clear hts
          go_wp2_with fail
          go_loop [11] (fun i => ∃ j : Nat, i = .int .i64 j ∧ j ≤ t.size ∧ Hid (∀ (m : Nat) (b : UInt8), m < j → P[m]? = some b → Nm.okByte b = true)) (fun i => t.size - (intOf i).toNat)
          case atStart => exact ⟨0, rfl, by omega, fun m b hm => absurd hm (by omega)⟩
          case round =>
            obtain ⟨j, rfl, hj, HJ⟩ := hrel
            by_cases hjl : j < t.size
            · obtain ⟨b, hb⟩ : ∃ b : UInt8, ∀ h : j < t.size, t[j]'h = b := ⟨t[j], fun _ => rfl⟩
              have HC : Hid (P[j]? = some b) := hide (by rw [← hb hjl, ← Nm.bs_mk P, HT.out]; exact List.getElem?_eq_getElem _)
              by_cases hok : Nm.okByte b = true
              · go_wp2_with (go_at_call 110; refine (l1byte_calls b _).mono ?_; rintro e w' ⟨rfl, rfl⟩)
                go_round
                case rel =>
                  refine ⟨j + 1, by go_num, by omega, fun m b' hm hb' => ?_⟩
                  rcases Nat.lt_or_ge m j with h | h
                  · exact HJ.out m b' h hb'
                  · obtain rfl : m = j := by omega
                    rw [HC.out] at hb'
                    cases hb'
                    exact hok
                case measure => simp [intOf]; omega
              · have hok : Nm.okByte b = false := by simpa using hok
                have hq := HS.out
                rw [if_neg HA.out, if_neg HBB.out, if_neg (by rw [Nm.plain_no HC.out hok]; simp)] at hq
                have HQ := hide (HW.out.trans hq)
                clear hq
                go_wp2_with (go_at_call 110; refine (l1byte_calls b _).mono ?_; rintro e w' ⟨rfl, rfl⟩)
                go_ret2
                refine ⟨.slice none 0 0, ?_, ?_, HB⟩
                · rw [HPS.out, HQ.out]; rfl
                · rw [HPS.out, HQ.out]; exact Own.nil _ _ _
            · have hq := HS.out
              rw [if_neg HA.out, if_neg HBB.out, if_pos (Nm.plain_ne HE.out fun m b hb => HJ.out m b (by
                have : m < P.length := by
                  rcases Nat.lt_or_ge m P.length with h | h
                  · exact h
                  · rw [List.getElem?_eq_none h] at hb; simp at hb
                have := HTS.out; omega) hb)] at hq
              have HQ := hide (HW.out.trans hq)
              clear hq
              go_wp2_with (at_builtin; refine append_own fStr w.heap.size rfl _ _ 29 9 (.string ByteArray.empty) 16 rfl Tryd.underlying29 info_str rfl (by omega) u6 (row.map Nm.mk) t #[.string t] rfl rfl rfl HO HB HB.size (by simp; omega) ?_; intro v1 w2 hown hbel hgr hat)
              go_roundw
              case rel =>
                refine ⟨k + 1, row ++ [P], by go_num, by omega, HQ, by simp; omega, by rw [List.map_append, List.map_singleton, HT.out]; exact hown, ?_, hbel, ?_⟩
                · rcases hat with hat | ⟨bb, hat, hbb⟩
                  · rw [hat]; exact hne
                  · rw [hat]; intro e; injection e with e; omega
                · exact hsl.same (Same.grown hgr (fun bb hbb => by subst hbb; omega) (fun bb hbb => by subst hbb; exact Ne.symm hne))
              case measure => simp [intOf]; omega
        · go_wp2_with fail
          go_ret2
          obtain rfl : k = ps.length := by omega
          have hq := HW.out
          rw [List.drop_length] at hq
          refine ⟨u6, ?_, ?_, HB⟩
          · rw [HPS.out, hq]; rfl
          · rw [HPS.out, hq]; exact HO
end Go.Proofs.YtkhlicmlnjccdaaDoor
