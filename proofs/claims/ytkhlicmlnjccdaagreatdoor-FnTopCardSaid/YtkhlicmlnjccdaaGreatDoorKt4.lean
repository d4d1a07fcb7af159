/-
  Walk: the program's walk.
-/
import Derived.Test.YtkhlicmlnjccdaaGreatDoorKt3
namespace Go.Proofs.YtkhlicmlnjccdaaGreatDoor
open Go.RowKit Mem
namespace Nm
def iwalk (row : List Bs) (name : Bs) : Int × Bs :=
  if (walk row (parts name)).1 ≠ 0 then ((walk row (parts name)).1, []) else if (walk row (parts name)).2 = [] then (1, []) else (0, join (walk row (parts name)).2)
theorem iwalk_code {row : List Bs} {name : Bs} {c : Int} (h : walk row (parts name) = (c, [])) (hc : c ≠ 0) : iwalk row name = (c, []) := by
  unfold iwalk; rw [h, if_pos hc]
theorem iwalk_none {row : List Bs} {name : Bs} (h : walk row (parts name) = (0, [])) : iwalk row name = (1, []) := by
  unfold iwalk; rw [h, if_neg (fun e => e rfl), if_pos rfl]
theorem iwalk_ok {row r : List Bs} {name : Bs} (h : walk row (parts name) = (0, r)) (hr : r ≠ []) : iwalk row name = (0, join r) := by
  unfold iwalk; rw [h, if_neg (fun e => e rfl), if_neg hr]
end Nm

set_option maxRecDepth 100000 in
set_option maxHeartbeats 2000000 in
theorem walk_calls (A : Option Addr) (c n : Nat) (xs : List Str) (hn : xs.length = n) (S : Nat → Prop) (s : Str) (w : World) (h : Sl kStr w S A xs) (hl : xs.length ≤ 1048636) (hs : s.size ≤ 60) (hx : ∀ x ∈ xs, x.size ≤ 60) (hm : ML w) :
    Calls Tryz.prog 89 #[.slice A n c, .string s] w (RetNamed w ((Nm.iwalk (xs.map Nm.bs) (Nm.bs s)).1, Nm.mk (Nm.iwalk (xs.map Nm.bs) (Nm.bs s)).2)) := by
  subst hn
  have hbd := bound_named (xs.map Nm.bs) s hs (by simpa using hl) (fun p hp => by
    obtain ⟨x, hx', rfl⟩ := List.mem_map.1 hp
    rw [Nm.bs_length]; exact hx x hx')
  have HBD := hide hbd
  clear hbd
  have HH := h.below (Below.alloc (Below.refl _ w) (Nat.le_refl _) (Obj.cells #[.int .i64 0, .string ⟨#[]⟩] 102))
  have HM := hm.below (Below.alloc (Below.refl _ w) (Nat.le_refl _) (Obj.cells #[.int .i64 0, .string ⟨#[]⟩] 102))
  go_enter Tryz.func89, Tryz.ntmps89
  go_wp2_with (at_builtin; refine append_strs (w.heap.size + 1) rfl _ _ 23 9 rfl Tryz.underlying23 info_str (.slice none 0 0) [] xs A xs.length c rfl rfl rfl (Own.nil _ _ _) HH (by simp) (by simp; omega) ?_; intro v1 w1 hown hgr hat)
  have hgr2 := hgr
  have HB1 : Below (w.heap.size + 1) (w.alloc (Obj.cells #[.int .i64 0, .string ⟨#[]⟩] 102)) w1 := (Below.refl _ _).grown hgr (by simp) (fun k hk => by simp [Value.ownBlock] at hk)
  have HM1 := HM.below (HB1.mono (by simp))
  clear hgr hgr2 hat HH
  rw [List.nil_append] at hown
  refine (split_calls s w1 (by omega) HM1).mono ?_
  rintro e w2 ⟨vP, rfl, HP, hbP⟩
  generalize hps : Nm.parts (Nm.bs s) = ps at HP ⊢
  have HPS := hide hps
  clear hps
  have hpn : ps.map Nm.mk ≠ [] := by rw [← HPS.out]; simpa using Nm.parts_ne _
  have hpl : ps.length ≤ 61 := by have := Nm.parts_length (Nm.bs s); rw [HPS.out, Nm.bs_length] at this; omega
  obtain ⟨g2, c2, rfl, hg2, hg2l, hpc, hpm, hob, hsl⟩ := HP.form hpn
  have HPN := hide hpn
  clear hpn HP hob
  rw [List.length_map] at hpc ⊢
  have HO1 := hown.below hbP
  have hne1 : v1.ownBlock ≠ some g2 := fun e => by have := hown.lt e; omega
  have HB2 := below_then HB1 (below_size HB1) hbP
  clear hown HB1 hbP
  go_wp2_with fail
  go_loopw [0, 6, 12] (fun v _ i wr => ∃ (k : Nat) (row : List Nm.Bs), i = .int .i64 k ∧ k ≤ ps.length ∧ Hid (Nm.walk (xs.map Nm.bs) ps = Nm.walk row (ps.drop k)) ∧ row.length ≤ xs.length + k ∧ Own fStr wr (w.heap.size + 1) 9 v (row.map Nm.mk) ∧ v.ownBlock ≠ some g2 ∧ Below (w.heap.size + 1) (w.alloc (Obj.cells #[.int .i64 0, .string ⟨#[]⟩] 102)) wr ∧ Sl kStr wr (fun b => b = g2) (some ⟨g2, 0, none⟩) (ps.map Nm.mk)) (fun _ _ i _ => ps.length - (intOf i).toNat)
  case atStart => exact ⟨0, xs.map Nm.bs, rfl, by omega, rfl, by simp, by rw [Nm.map_mk_bs]; exact HO1, hne1, HB2, hsl⟩
  case round =>
    clear HO1 hne1 HB2 hsl HM HM1
    obtain ⟨k, row, rfl, hk, HW, hrl, HO, hne, HB, hsl⟩ := hrel
    by_cases hlt : k < ps.length
    · obtain ⟨ad, e0, hc⟩ := hsl.get (i := k) (by simpa using hlt)
      cases e0
      have e1 : wr.cell? ⟨g2, k, none⟩ = some (.string (Nm.mk ps[k])) := by
        have := hc.2
        rw [add_plain] at this
        simpa [kStr] using this
      clear hc
      have hg2w : g2 < wr.heap.size := World.block_lt_of_cell? _ ⟨g2, k, none⟩ e1
      have HS := hide (Nm.walk_drop row ps k hlt)
      generalize hP : ps[k] = P at e1 HS
      have HP := hide hP
      clear hP
      generalize hT : Nm.mk P = t at e1
      have HT := hide hT
      clear hT
      have htl : t.size ≤ 60 := by
        have := Nm.parts_le (Nm.bs s) P (by rw [HPS.out, ← HP.out]; exact List.getElem_mem _)
        rw [Nm.bs_length] at this
        rw [← HT.out, Nm.mk_size]
        omega
      by_cases hA : P = [46]
      · have hA1 : (t.toList == [46]) = true := tl_t (by rw [← HT.out, hA]; rfl)
        have HA := hide hA
        clear hA
        go_wp2_with fail
        go_roundw
        case rel =>
          have hq := HS.out
          rw [if_pos HA.out] at hq
          exact ⟨k + 1, row, by go_num, by omega, HW.out.trans hq, by omega, HO, hne, HB, hsl⟩
        case measure => simp [intOf]; omega
      have hA1 : (t.toList == [46]) = false := tl_f (fun e => hA (Nm.mk_inj (HT.out.trans e)))
      have HA := hide hA
      clear hA
      by_cases hB : P = [46, 46]
      · have hB1 : (t.toList == [46, 46]) = true := tl_t (by rw [← HT.out, hB]; rfl)
        have HBB := hide hB
        clear hB
        by_cases hr : row = []
        · have hq := HS.out
          rw [if_neg HA.out, if_pos HBB.out, if_pos hr] at hq
          have hq2 : Nm.iwalk (xs.map Nm.bs) (Nm.bs s) = (2, []) := Nm.iwalk_code (by rw [HPS.out, HW.out, hq]) (by decide)
          have HQ := hide hq2
          subst hr
          clear hq hq2
          obtain ⟨A6, c6, rfl, _, _, _⟩ := HO.slV
          have hblk := (HB.block w.heap.size (by omega)).trans (heap_alloc_new w _)
          have k0 : wr.cell? ⟨w.heap.size, 0, none⟩ = some _ := blk_cell hblk 0
          have k1 : wr.cell? ⟨w.heap.size, 1, none⟩ = some _ := blk_cell hblk 1
          have f0 := blk_free hblk 0
          have f1 := blk_free hblk 1
          have hb0 := (Below.alloc (Below.refl _ w) (Nat.le_refl _) (Obj.cells #[.int .i64 0, .string ⟨#[]⟩] 102)).trans (HB.mono (Nat.le_succ _))
          clear hblk HB HO
          go_wp2_with fail
          exact bodyPost_ret (v := .agg #[.int .i64 2, .string ⟨#[]⟩]) (by simp [results, Tryz.results89, go_sem, k0, k1]) rfl ⟨by rw [HQ.out]; rfl, by (repeat (first | with_reducible exact Below.refl _ _ | with_reducible assumption | with_reducible refine Below.alloc ?_ (by first | exact Nat.le_refl _ | exact Below.size (by assumption) | exact Nat.le_trans (Below.size (by assumption)) (by simp; done) | (simp; done) | (simp; omega) | omega) _ | with_reducible refine below_drewN ?_ _ | with_reducible refine Below.drew ?_ | with_reducible refine Below.setCell ?_ (by first | exact Nat.le_refl _ | (simp; done) | (simp; omega) | omega) _))⟩
        · have hq := HS.out
          rw [if_neg HA.out, if_pos HBB.out, if_neg hr] at hq
          have HQ := hide (HW.out.trans hq)
          clear hq
          have hrn : row.map Nm.mk ≠ [] := by simpa using hr
          obtain ⟨g1, c1, rfl, hg1, hg1l, hrc, hrm, hob1, _⟩ := HO.form hrn
          rw [hob1] at hne
          have hne := hide hne
          clear hob1
          obtain ⟨n, hn⟩ : ∃ n, row.length = n + 1 := ⟨row.length - 1, by cases row <;> simp_all⟩
          have HN := hide hn
          have hnb : n ≤ 4294967296 := by omega
          clear hrn hr
          rw [List.length_map, hn] at hrc
          have HO2 := HO
          rw [List.length_map, hn] at HO2 ⊢
          clear hn HO
          have HO3 := HO2.pop (by rw [List.length_map]; exact HN.out)
          clear HO2
          go_wp2_with fail
          go_roundw
          case rel =>
            exact ⟨k + 1, row.dropLast, by go_num, by omega, HQ, by rw [List.length_dropLast]; omega, by rw [List.map_dropLast]; exact HO3, hne.out, HB, hsl⟩
          case measure => simp [intOf]; omega
      have hB1 : (t.toList == [46, 46]) = false := tl_f (fun e => hB (Nm.mk_inj (HT.out.trans e)))
      have HBB := hide hB
      clear hB
      have hpc2 := plain_calls t wr (by omega)
      rw [← HT.out, Nm.bs_mk, HT.out] at hpc2
      by_cases hpl2 : Nm.plain P = true
      · rw [hpl2] at hpc2
        have HPC := hide hpc2
        have hq := HS.out
        rw [if_neg HA.out, if_neg HBB.out, if_pos hpl2] at hq
        have HQ := hide (HW.out.trans hq)
        clear hq hpc2 hpl2
        go_wp2_with fail
        refine (unhide HPC).mono ?_
        rintro e w3 ⟨rfl, hb3⟩
        replace HB := below_then HB (below_size HB) hb3
        replace HO := HO.below hb3
        replace hsl := hsl.below hb3
        have hsz3 := hb3.size
        clear hb3 HPC
        go_wp2_with (at_builtin; refine append_own fStr (w.heap.size + 1) rfl _ _ 23 9 (.string ByteArray.empty) 16 rfl Tryz.underlying23 info_str rfl (by omega) u0 (row.map Nm.mk) t #[.string t] rfl rfl rfl HO HB (below_size HB) (by simp; omega) ?_; intro v1 w2 hown hbel hgr hat)
        go_roundw
        case rel =>
          refine ⟨k + 1, row ++ [P], by go_num, by omega, HQ, by simp; omega, by rw [List.map_append, List.map_singleton, HT.out]; exact hown, ?_, hbel, ?_⟩
          · rcases hat with hat | ⟨bb, hat, hbb⟩
            · rw [hat]; exact hne
            · rw [hat]; intro e; injection e with e; omega
          · exact hsl.same (Same.grown hgr (fun bb hbb => by subst hbb; omega) (fun bb hbb => by subst hbb; exact Ne.symm hne))
        case measure => simp [intOf]; omega
      · have hpl2 : Nm.plain P = false := by simpa using hpl2
        rw [hpl2] at hpc2
        have HPC := hide hpc2
        have hq := HS.out
        rw [if_neg HA.out, if_neg HBB.out, if_neg (by rw [hpl2]; simp)] at hq
        have hq2 : Nm.iwalk (xs.map Nm.bs) (Nm.bs s) = (1, []) := Nm.iwalk_code (by rw [HPS.out, HW.out, hq]) (by decide)
        have HQ := hide hq2
        clear hq hq2 hpc2 hpl2
        go_wp2_with fail
        refine (unhide HPC).mono ?_
        rintro e wr ⟨rfl, hb3⟩
        replace HB := below_then HB (below_size HB) hb3
        replace HO := HO.below hb3
        clear hb3 HPC hsl e1
        have hblk := (HB.block w.heap.size (by omega)).trans (heap_alloc_new w _)
        have k0 : wr.cell? ⟨w.heap.size, 0, none⟩ = some _ := blk_cell hblk 0
        have k1 : wr.cell? ⟨w.heap.size, 1, none⟩ = some _ := blk_cell hblk 1
        have f0 := blk_free hblk 0
        have f1 := blk_free hblk 1
        have hb0 := (Below.alloc (Below.refl _ w) (Nat.le_refl _) (Obj.cells #[.int .i64 0, .string ⟨#[]⟩] 102)).trans (HB.mono (Nat.le_succ _))
        clear hblk HB HO
        go_wp2_with fail
        exact bodyPost_ret (v := .agg #[.int .i64 1, .string ⟨#[]⟩]) (by simp [results, Tryz.results89, go_sem, k0, k1]) rfl ⟨by rw [HQ.out]; rfl, by (repeat (first | with_reducible exact Below.refl _ _ | with_reducible assumption | with_reducible refine Below.alloc ?_ (by first | exact Nat.le_refl _ | exact Below.size (by assumption) | exact Nat.le_trans (Below.size (by assumption)) (by simp; done) | (simp; done) | (simp; omega) | omega) _ | with_reducible refine below_drewN ?_ _ | with_reducible refine Below.drew ?_ | with_reducible refine Below.setCell ?_ (by first | exact Nat.le_refl _ | (simp; done) | (simp; omega) | omega) _))⟩
    · obtain rfl : k = ps.length := by omega
      have hq := HW.out
      rw [List.drop_length] at hq
      by_cases hr : row = []
      · subst hr
        have hq2 : Nm.iwalk (xs.map Nm.bs) (Nm.bs s) = (1, []) := Nm.iwalk_none (by rw [HPS.out, hq]; rfl)
        have HQ := hide hq2
        clear hq hq2
        obtain ⟨A6, c6, rfl, _, _, _⟩ := HO.slV
        have hblk := (HB.block w.heap.size (by omega)).trans (heap_alloc_new w _)
        have k0 : wr.cell? ⟨w.heap.size, 0, none⟩ = some _ := blk_cell hblk 0
        have k1 : wr.cell? ⟨w.heap.size, 1, none⟩ = some _ := blk_cell hblk 1
        have f0 := blk_free hblk 0
        have f1 := blk_free hblk 1
        have hb0 := (Below.alloc (Below.refl _ w) (Nat.le_refl _) (Obj.cells #[.int .i64 0, .string ⟨#[]⟩] 102)).trans (HB.mono (Nat.le_succ _))
        clear hblk HB HO
        go_wp2_with fail
        exact bodyPost_ret (v := .agg #[.int .i64 1, .string ⟨#[]⟩]) (by simp [results, Tryz.results89, go_sem, k0, k1]) rfl ⟨by rw [HQ.out]; rfl, by (repeat (first | with_reducible exact Below.refl _ _ | with_reducible assumption | with_reducible refine Below.alloc ?_ (by first | exact Nat.le_refl _ | exact Below.size (by assumption) | exact Nat.le_trans (Below.size (by assumption)) (by simp; done) | (simp; done) | (simp; omega) | omega) _ | with_reducible refine below_drewN ?_ _ | with_reducible refine Below.drew ?_ | with_reducible refine Below.setCell ?_ (by first | exact Nat.le_refl _ | (simp; done) | (simp; omega) | omega) _))⟩
      · have hq2 : Nm.iwalk (xs.map Nm.bs) (Nm.bs s) = (0, Nm.join row) := Nm.iwalk_ok (by rw [HPS.out, hq]; rfl) hr
        have hjl : (Nm.join row).length ≤ 1073741824 := by have := HBD.out; rw [HPS.out, hq] at this; exact this
        have HQ := hide hq2
        clear hq hq2
        have hrn : row.map Nm.mk ≠ [] := by simpa using hr
        obtain ⟨g1, c1, rfl, hg1, hg1l, hrc, hrm, hob1, _⟩ := HO.form hrn
        have hr0 : ((row.length : Int) == 0) = false := by cases row <;> simp_all; omega
        clear hob1 hrn hr
        rw [List.length_map] at HO hrc ⊢
        have hcall := join_calls _ c1 row.length (row.map Nm.mk) wr (w.heap.size + 1) HO (by simp) (by rw [Nm.map_bs_mk]; exact hjl) (by omega)
        rw [Nm.map_bs_mk] at hcall
        have HC := hide hcall
        clear hcall
        go_wp2_with fail
        refine (unhide HC).mono ?_
        rintro e wr ⟨rfl, hb3⟩
        replace HB := below_then HB (below_size HB) hb3
        replace HO := HO.below hb3
        clear hb3 HC hsl
        generalize hT2 : Nm.mk (Nm.join row) = t
        have HT2 := hide hT2
        clear hT2
        have hblk := (HB.block w.heap.size (by omega)).trans (heap_alloc_new w _)
        have k0 : wr.cell? ⟨w.heap.size, 0, none⟩ = some _ := blk_cell hblk 0
        have k1 : wr.cell? ⟨w.heap.size, 1, none⟩ = some _ := blk_cell hblk 1
        have f0 := blk_free hblk 0
        have f1 := blk_free hblk 1
        have hb0 := (Below.alloc (Below.refl _ w) (Nat.le_refl _) (Obj.cells #[.int .i64 0, .string ⟨#[]⟩] 102)).trans (HB.mono (Nat.le_succ _))
        clear hblk HB HO
        go_wp2_with fail
        exact bodyPost_ret (v := .agg #[.int .i64 0, .string t]) (by simp [results, Tryz.results89, go_sem, k0, k1]) rfl ⟨by rw [HQ.out, ← HT2.out], by (repeat (first | with_reducible exact Below.refl _ _ | with_reducible assumption | with_reducible refine Below.alloc ?_ (by first | exact Nat.le_refl _ | exact Below.size (by assumption) | exact Nat.le_trans (Below.size (by assumption)) (by simp; done) | (simp; done) | (simp; omega) | omega) _ | with_reducible refine below_drewN ?_ _ | with_reducible refine Below.drew ?_ | with_reducible refine Below.setCell ?_ (by first | exact Nat.le_refl _ | (simp; done) | (simp; omega) | omega) _))⟩
end Go.Proofs.YtkhlicmlnjccdaaGreatDoor
