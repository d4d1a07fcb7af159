/-
  Walks: Within, the reference's and the program's.
-/
import Derived.Test.YtkhlicmlnjccdaaGreatDoorKt5
namespace Go.Proofs.YtkhlicmlnjccdaaGreatDoor
open Go.RowKit Mem

set_option maxRecDepth 100000 in
set_option maxHeartbeats 1000000 in
theorem sWithin_calls (f s : Str) (w : World) (hf : f.size ≤ 1073741824) (hs : s.size ≤ 1073741824) : Calls Tryz.prog 112 #[.string f, .string s] w (RetNamed w (Nm.within f s)) := by
  have hc1 := fun W : World => sClean_calls f W hf
  have hsz := Nm.clean_size f
  have hw0 : (Nm.clean f).1 = 0 → Nm.within f s = ((Nm.named (Nm.parts (Nm.bs (Nm.clean f).2)).dropLast (Nm.bs s)).1, Nm.mk (Nm.named (Nm.parts (Nm.bs (Nm.clean f).2)).dropLast (Nm.bs s)).2) := fun h => by
    unfold Nm.within; rw [if_neg (fun e => e h)]
  have hw1 : (Nm.clean f).1 ≠ 0 → Nm.within f s = (4, ⟨#[]⟩) := fun h => by
    unfold Nm.within; rw [if_pos h]; rfl
  obtain ⟨r1, r2, hr⟩ : ∃ r1 r2, Nm.clean f = (r1, r2) := ⟨_, _, rfl⟩
  rw [hr] at hc1 hsz hw0 hw1
  have HC1 := hide hc1
  replace hsz : r2.size ≤ 60 := hsz
  replace hw0 : r1 = 0 → Nm.within f s = ((Nm.named (Nm.parts (Nm.bs r2)).dropLast (Nm.bs s)).1, Nm.mk (Nm.named (Nm.parts (Nm.bs r2)).dropLast (Nm.bs s)).2) := hw0
  replace hw1 : r1 ≠ 0 → Nm.within f s = (4, ⟨#[]⟩) := hw1
  clear hc1 hr
  by_cases hz : r1 = 0
  · subst hz
    have HQ := hide (hw0 rfl)
    clear hw0 hw1
    go_enter Tryz.func112, Tryz.ntmps112
    go_wp2_with fail
    refine (HC1.out _).mono ?_
    rintro e w1 ⟨rfl, hb1⟩
    have hblk1 := blk_new hb1
    have hbw1 := below_then (Below.alloc (Below.refl _ w) (Nat.le_refl _) (Obj.cells #[.int .i64 0, .string ⟨#[]⟩] 102)) (by simp) hb1
    have hs1 := below_size hb1
    clear hb1 HC1
    go_wp2_with fail
    refine (l1parts_calls r2 _ (by omega)).mono ?_
    rintro e w2 ⟨vP, rfl, HP, hbP⟩
    generalize hps : Nm.parts (Nm.bs r2) = ps at HP HQ ⊢
    have hpn : ps.map Nm.mk ≠ [] := by rw [← hps]; simpa using Nm.parts_ne _
    have hpl : ps.length ≤ 61 := by have := Nm.parts_length (Nm.bs r2); rw [hps, Nm.bs_length] at this; omega
    have hpp : ∀ p ∈ ps, p.length ≤ 60 := fun p hp => by have := Nm.parts_le (Nm.bs r2) p (by rw [hps]; exact hp); rw [Nm.bs_length] at this; omega
    obtain ⟨n, hn⟩ : ∃ n, ps.length = n + 1 := ⟨ps.length - 1, by cases ps <;> simp_all⟩
    obtain ⟨g2, c2, rfl, hg2, hg2l, hpc, hpm, hob, hsl⟩ := HP.form hpn
    have hblk2 := (hbP.block w.heap.size (by simp; omega)).trans ((Below.heap_alloc w1 _ _ (by omega)).trans hblk1)
    have hbw2 := below_then (hbw1.alloc hbw1.size _) (by simp; omega) hbP
    have hs2 : w.heap.size < w2.heap.size := by have := below_size hbP; omega
    have hsl2 := hsl.take n
    have hcall := fun W (h : Sl kStr W (fun b => b = g2) (some ⟨g2, 0, none⟩) (ps.dropLast.map Nm.mk)) => l1named_calls (some ⟨g2, 0, none⟩) c2 (ps.dropLast.map Nm.mk) (fun b => b = g2) s W h (by simp; omega) hs (fun r hr h60 => by
      rw [← hr, Nm.map_bs_mk]; exact bound_named _ s h60 (by simp; omega) (fun p hp => hpp p (List.dropLast_subset ps hp)))
    rw [← List.map_take, show ps.take n = ps.dropLast by rw [List.dropLast_eq_take, hn]; rfl] at hsl2
    rw [List.length_map, List.length_dropLast, hn, Nat.add_sub_cancel, Nm.map_bs_mk] at hcall
    have hcall2 := hcall w2 hsl2
    have HC2 := hide hcall2
    rw [List.length_map, hn] at hpc ⊢
    have hnb : n ≤ 60 := by omega
    clear hcall hcall2 hsl hsl2 hps hpn hn hpp hpl HP hob hblk1 hbw1 hbP
    go_wp2_with fail
    refine (unhide HC2).mono ?_
    rintro e w3 ⟨rfl, hb3⟩
    have hblk := (hb3.block w.heap.size (by omega)).trans hblk2
    have hb0 := below_then hbw2 hbw2.size hb3
    have k0 : w3.cell? ⟨w.heap.size, 0, none⟩ = some (.int .i64 0) := blk_cell hblk 0; have k1 : w3.cell? ⟨w.heap.size, 1, none⟩ = some (.string ⟨#[]⟩) := blk_cell hblk 1; have f0 := blk_free hblk 0; have f1 := blk_free hblk 1; clear hblk
    clear hb3 hblk2 hbw2 HC2
    generalize hq : (Nm.named ps.dropLast (Nm.bs s)).1 = q1 at HQ ⊢
    generalize hq2 : Nm.mk (Nm.named ps.dropLast (Nm.bs s)).2 = q2 at HQ ⊢
    clear hq hq2
    go_wp2_with fail
    exact bodyPost_ret (v := .agg #[.int .i64 q1, .string q2]) (by simp [results, Tryz.results112, go_sem, k0, k1]) rfl ⟨by rw [HQ.out], by (repeat (first | with_reducible exact Below.refl _ _ | with_reducible assumption | with_reducible refine Below.alloc ?_ (by first | exact Nat.le_refl _ | exact Below.size (by assumption) | exact Nat.le_trans (Below.size (by assumption)) (by simp; done) | (simp; done) | (simp; omega) | omega) _ | with_reducible refine below_drewN ?_ _ | with_reducible refine Below.drew ?_ | with_reducible refine Below.setCell ?_ (by first | exact Nat.le_refl _ | (simp; done) | (simp; omega) | omega) _))⟩
  · have HQ := hide (hw1 hz)
    have hcb : (r1 != 0) = true := by simpa using hz
    clear hw0 hw1 hz
    go_enter Tryz.func112, Tryz.ntmps112
    go_wp2_with fail
    refine (HC1.out _).mono ?_
    rintro e w1 ⟨rfl, hb1⟩
    have hblk := blk_new hb1
    have hb0 := below_then (Below.alloc (Below.refl _ w) (Nat.le_refl _) (Obj.cells #[.int .i64 0, .string ⟨#[]⟩] 102)) (by simp) hb1
    have hs1 : w.heap.size < w1.heap.size := below_size hb1
    have k0 : w1.cell? ⟨w.heap.size, 0, none⟩ = some (.int .i64 0) := blk_cell hblk 0; have k1 : w1.cell? ⟨w.heap.size, 1, none⟩ = some (.string ⟨#[]⟩) := blk_cell hblk 1; have f0 := blk_free hblk 0; have f1 := blk_free hblk 1; clear hblk
    clear hb1 HC1
    go_wp2_with fail
    exact bodyPost_ret (v := .agg #[.int .i64 4, .string ⟨#[]⟩]) (by simp [results, Tryz.results112, go_sem, k0, k1, hs1]) rfl ⟨by rw [HQ.out], by (repeat (first | with_reducible exact Below.refl _ _ | with_reducible assumption | with_reducible refine Below.alloc ?_ (by first | exact Nat.le_refl _ | exact Below.size (by assumption) | exact Nat.le_trans (Below.size (by assumption)) (by simp; done) | (simp; done) | (simp; omega) | omega) _ | with_reducible refine below_drewN ?_ _ | with_reducible refine Below.drew ?_ | with_reducible refine Below.setCell ?_ (by first | exact Nat.le_refl _ | (simp; done) | (simp; omega) | omega) _))⟩

theorem within_plain {f s : Str} (h : (Nm.clean f).1 = 0) (h6 : ¬ 60 < s.size) :
    Nm.within f s = (if 60 < (Nm.iwalk (Nm.parts (Nm.bs (Nm.clean f).2)).dropLast (Nm.bs s)).2.length then (3, ⟨#[]⟩) else ((Nm.iwalk (Nm.parts (Nm.bs (Nm.clean f).2)).dropLast (Nm.bs s)).1, Nm.mk (Nm.iwalk (Nm.parts (Nm.bs (Nm.clean f).2)).dropLast (Nm.bs s)).2)) := by
  obtain ⟨r, h1, h2, h3, h4, h5⟩ := Nm.clean_zero h
  rw [h4]
  have hn := Nm.iwalk_named r.dropLast (Nm.bs s) (by rw [Nm.bs_length]; exact h6) (fun p hp => h2 p (List.dropLast_subset r hp))
  unfold Nm.within
  rw [if_neg (fun e => e h), h4, ← hn]
  split <;> rfl

set_option maxRecDepth 100000 in
set_option maxHeartbeats 2000000 in
theorem iWithin_calls (f s : Str) (w : World) (hf : f.size ≤ 1073741824) (hm : ML w) : Calls Tryz.prog 96 #[.string f, .string s] w (RetNamed w (Nm.within f s)) := by
  have hc1 := fun (W : World) (h : ML W) => iClean_calls f W hf h
  have hsz := Nm.clean_size f
  have hw0 : (Nm.clean f).1 = 0 → ¬ 60 < s.size → _ := fun h h6 => within_plain h h6
  have hw1 : (Nm.clean f).1 ≠ 0 → Nm.within f s = (4, ⟨#[]⟩) := fun h => by
    unfold Nm.within; rw [if_pos h]; rfl
  have hw3 : (Nm.clean f).1 = 0 → 60 < s.size → Nm.within f s = (3, ⟨#[]⟩) := fun h h6 => by
    unfold Nm.within; rw [if_neg (fun e => e h), Nm.named_long (by rw [Nm.bs_length]; exact h6)]; rfl
  obtain ⟨r1, r2, hr⟩ : ∃ r1 r2, Nm.clean f = (r1, r2) := ⟨_, _, rfl⟩
  rw [hr] at hc1 hsz hw0 hw1 hw3
  have HC1 := hide hc1
  replace hsz : r2.size ≤ 60 := hsz
  clear hc1 hr
  by_cases hz : r1 = 0
  · subst hz
    by_cases h6 : 60 < s.size
    · have HQ := hide (hw3 rfl h6)
      clear hw0 hw1 hw3
      go_enter Tryz.func96, Tryz.ntmps96
      go_wp2_with fail
      refine (HC1.out _ (hm.below (by (repeat (first | with_reducible exact Below.refl _ _ | with_reducible assumption | with_reducible refine Below.alloc ?_ (by first | exact Nat.le_refl _ | exact Below.size (by assumption) | exact Nat.le_trans (Below.size (by assumption)) (by simp; done) | (simp; done) | (simp; omega) | omega) _ | with_reducible refine below_drewN ?_ _ | with_reducible refine Below.drew ?_ | with_reducible refine Below.setCell ?_ (by first | exact Nat.le_refl _ | (simp; done) | (simp; omega) | omega) _))))).mono ?_
      rintro e w1 ⟨rfl, hb1⟩
      have hblk := blk_new hb1
      have hb0 := below_then (Below.alloc (Below.refl _ w) (Nat.le_refl _) (Obj.cells #[.int .i64 0, .string ⟨#[]⟩] 102)) (by simp) hb1
      have hs1 : w.heap.size < w1.heap.size := below_size hb1
      have k0 : w1.cell? ⟨w.heap.size, 0, none⟩ = some (.int .i64 0) := blk_cell hblk 0; have k1 : w1.cell? ⟨w.heap.size, 1, none⟩ = some (.string ⟨#[]⟩) := blk_cell hblk 1; have f0 := blk_free hblk 0; have f1 := blk_free hblk 1; clear hblk
      clear hb1 HC1
      go_wp2_with fail
      exact bodyPost_ret (v := .agg #[.int .i64 3, .string ⟨#[]⟩]) (by simp [results, Tryz.results96, go_sem, k0, k1, hs1]) rfl ⟨by rw [HQ.out], by (repeat (first | with_reducible exact Below.refl _ _ | with_reducible assumption | with_reducible refine Below.alloc ?_ (by first | exact Nat.le_refl _ | exact Below.size (by assumption) | exact Nat.le_trans (Below.size (by assumption)) (by simp; done) | (simp; done) | (simp; omega) | omega) _ | with_reducible refine below_drewN ?_ _ | with_reducible refine Below.drew ?_ | with_reducible refine Below.setCell ?_ (by first | exact Nat.le_refl _ | (simp; done) | (simp; omega) | omega) _))⟩
    replace hw0 := hw0 rfl h6
    replace hw0 : Nm.within f s = (if 60 < (Nm.iwalk (Nm.parts (Nm.bs r2)).dropLast (Nm.bs s)).2.length then (3, ⟨#[]⟩) else ((Nm.iwalk (Nm.parts (Nm.bs r2)).dropLast (Nm.bs s)).1, Nm.mk (Nm.iwalk (Nm.parts (Nm.bs r2)).dropLast (Nm.bs s)).2)) := hw0
    clear hw1 hw3
    have HQ := hide hw0
    clear hw0
    go_enter Tryz.func96, Tryz.ntmps96
    go_wp2_with fail
    refine (HC1.out _ (hm.below (by (repeat (first | with_reducible exact Below.refl _ _ | with_reducible assumption | with_reducible refine Below.alloc ?_ (by first | exact Nat.le_refl _ | exact Below.size (by assumption) | exact Nat.le_trans (Below.size (by assumption)) (by simp; done) | (simp; done) | (simp; omega) | omega) _ | with_reducible refine below_drewN ?_ _ | with_reducible refine Below.drew ?_ | with_reducible refine Below.setCell ?_ (by first | exact Nat.le_refl _ | (simp; done) | (simp; omega) | omega) _))))).mono ?_
    rintro e w1 ⟨rfl, hb1⟩
    have hblk1 := blk_new hb1
    have hbw1 := below_then (Below.alloc (Below.refl _ w) (Nat.le_refl _) (Obj.cells #[.int .i64 0, .string ⟨#[]⟩] 102)) (by simp) hb1
    have hs1 := below_size hb1
    have hm1 := hm.below hbw1
    clear hb1 HC1
    go_wp2_with fail
    refine (split_calls r2 _ (by omega) (hm1.below (by (repeat (first | with_reducible exact Below.refl _ _ | with_reducible assumption | with_reducible refine Below.alloc ?_ (by first | exact Nat.le_refl _ | exact Below.size (by assumption) | exact Nat.le_trans (Below.size (by assumption)) (by simp; done) | (simp; done) | (simp; omega) | omega) _ | with_reducible refine below_drewN ?_ _ | with_reducible refine Below.drew ?_ | with_reducible refine Below.setCell ?_ (by first | exact Nat.le_refl _ | (simp; done) | (simp; omega) | omega) _))))).mono ?_
    rintro e w2 ⟨vP, rfl, HP, hbP⟩
    generalize hps : Nm.parts (Nm.bs r2) = ps at HP HQ ⊢
    have hpn : ps.map Nm.mk ≠ [] := by rw [← hps]; simpa using Nm.parts_ne _
    have hpl : ps.length ≤ 61 := by have := Nm.parts_length (Nm.bs r2); rw [hps, Nm.bs_length] at this; omega
    have hpp : ∀ p ∈ ps, p.length ≤ 60 := fun p hp => by have := Nm.parts_le (Nm.bs r2) p (by rw [hps]; exact hp); rw [Nm.bs_length] at this; omega
    obtain ⟨n, hn⟩ : ∃ n, ps.length = n + 1 := ⟨ps.length - 1, by cases ps <;> simp_all⟩
    obtain ⟨g2, c2, rfl, hg2, hg2l, hpc, hpm, hob, hsl⟩ := HP.form hpn
    have hblk2 := (hbP.block w.heap.size (by simp; omega)).trans ((Below.heap_alloc w1 _ _ (by omega)).trans hblk1)
    have hbw2 := below_then (hbw1.alloc hbw1.size _) (by simp; omega) hbP
    have hm2 := hm.below hbw2
    have hs2 : w.heap.size < w2.heap.size := by have := below_size hbP; omega
    have hsl2 := hsl.take n
    rw [← List.map_take, show ps.take n = ps.dropLast by rw [List.dropLast_eq_take, hn]; rfl] at hsl2
    have hcall2 := walk_calls (some ⟨g2, 0, none⟩) c2 n (ps.dropLast.map Nm.mk) (by rw [List.length_map, List.length_dropLast, hn]; rfl) (fun b => b = g2) s w2 hsl2 (by simp; omega) (by omega) (fun x hx => by
      obtain ⟨p, hp, rfl⟩ := List.mem_map.1 hx
      rw [Nm.mk_size]; exact hpp p (List.dropLast_subset ps hp)) hm2
    rw [Nm.map_bs_mk] at hcall2
    generalize hq : Nm.iwalk ps.dropLast (Nm.bs s) = q at hcall2 HQ
    obtain ⟨q1, q2⟩ := q
    have HC2 := hide hcall2
    rw [List.length_map, hn] at hpc ⊢
    have hnb : n ≤ 60 := by omega
    clear hcall2 hsl hsl2 hps hpn hn hpp hpl HP hob hblk1 hbw1 hbP hm1 hq
    go_wp2_with fail
    refine (unhide HC2).mono ?_
    rintro e w3 ⟨rfl, hb3⟩
    have hblk := (hb3.block w.heap.size (by omega)).trans hblk2
    have hb0 := below_then hbw2 hbw2.size hb3
    have hs3 : w.heap.size < w3.heap.size := by have := hb3.size; omega
    have k0 : w3.cell? ⟨w.heap.size, 0, none⟩ = some (.int .i64 0) := blk_cell hblk 0; have k1 : w3.cell? ⟨w.heap.size, 1, none⟩ = some (.string ⟨#[]⟩) := blk_cell hblk 1; have f0 := blk_free hblk 0; have f1 := blk_free hblk 1; clear hblk
    clear hb3 hblk2 hbw2 HC2
    generalize hT : Nm.mk q2 = t
    have HT := hide hT
    have hts : t.size = q2.length := by rw [← hT, Nm.mk_size]
    have HTS := hide hts
    clear hT hts
    by_cases h7 : 60 < t.size
    · have hq := HQ.out
      rw [if_pos (by rw [← HTS.out]; exact h7)] at hq
      have HQ2 := hide hq
      clear hq HQ
      go_wp2_with fail
      exact bodyPost_ret (v := .agg #[.int .i64 3, .string ⟨#[]⟩]) (by simp [results, Tryz.results96, go_sem, k0, k1, hs3]) rfl ⟨by rw [HQ2.out], by (repeat (first | with_reducible exact Below.refl _ _ | with_reducible assumption | with_reducible refine Below.alloc ?_ (by first | exact Nat.le_refl _ | exact Below.size (by assumption) | exact Nat.le_trans (Below.size (by assumption)) (by simp; done) | (simp; done) | (simp; omega) | omega) _ | with_reducible refine below_drewN ?_ _ | with_reducible refine Below.drew ?_ | with_reducible refine Below.setCell ?_ (by first | exact Nat.le_refl _ | (simp; done) | (simp; omega) | omega) _))⟩
    · have hq := HQ.out
      rw [if_neg (by rw [← HTS.out]; exact h7)] at hq
      have hq2 : Nm.within f s = (q1, t) := by rw [hq, ← HT.out]
      have HQ2 := hide hq2
      clear hq hq2 HQ
      go_wp2_with fail
      exact bodyPost_ret (v := .agg #[.int .i64 q1, .string t]) (by simp [results, Tryz.results96, go_sem, k0, k1, hs3]) rfl ⟨by rw [HQ2.out], by (repeat (first | with_reducible exact Below.refl _ _ | with_reducible assumption | with_reducible refine Below.alloc ?_ (by first | exact Nat.le_refl _ | exact Below.size (by assumption) | exact Nat.le_trans (Below.size (by assumption)) (by simp; done) | (simp; done) | (simp; omega) | omega) _ | with_reducible refine below_drewN ?_ _ | with_reducible refine Below.drew ?_ | with_reducible refine Below.setCell ?_ (by first | exact Nat.le_refl _ | (simp; done) | (simp; omega) | omega) _))⟩
  · have HQ := hide (hw1 hz)
    have hcb : (r1 != 0) = true := by simpa using hz
    clear hw0 hw1 hw3 hz
    go_enter Tryz.func96, Tryz.ntmps96
    go_wp2_with fail
    refine (HC1.out _ (hm.below (by (repeat (first | with_reducible exact Below.refl _ _ | with_reducible assumption | with_reducible refine Below.alloc ?_ (by first | exact Nat.le_refl _ | exact Below.size (by assumption) | exact Nat.le_trans (Below.size (by assumption)) (by simp; done) | (simp; done) | (simp; omega) | omega) _ | with_reducible refine below_drewN ?_ _ | with_reducible refine Below.drew ?_ | with_reducible refine Below.setCell ?_ (by first | exact Nat.le_refl _ | (simp; done) | (simp; omega) | omega) _))))).mono ?_
    rintro e w1 ⟨rfl, hb1⟩
    have hblk := blk_new hb1
    have hb0 := below_then (Below.alloc (Below.refl _ w) (Nat.le_refl _) (Obj.cells #[.int .i64 0, .string ⟨#[]⟩] 102)) (by simp) hb1
    have hs1 : w.heap.size < w1.heap.size := below_size hb1
    have k0 : w1.cell? ⟨w.heap.size, 0, none⟩ = some (.int .i64 0) := blk_cell hblk 0; have k1 : w1.cell? ⟨w.heap.size, 1, none⟩ = some (.string ⟨#[]⟩) := blk_cell hblk 1; have f0 := blk_free hblk 0; have f1 := blk_free hblk 1; clear hblk
    clear hb1 HC1
    go_wp2_with fail
    exact bodyPost_ret (v := .agg #[.int .i64 4, .string ⟨#[]⟩]) (by simp [results, Tryz.results96, go_sem, k0, k1, hs1]) rfl ⟨by rw [HQ.out], by (repeat (first | with_reducible exact Below.refl _ _ | with_reducible assumption | with_reducible refine Below.alloc ?_ (by first | exact Nat.le_refl _ | exact Below.size (by assumption) | exact Nat.le_trans (Below.size (by assumption)) (by simp; done) | (simp; done) | (simp; omega) | omega) _ | with_reducible refine below_drewN ?_ _ | with_reducible refine Below.drew ?_ | with_reducible refine Below.setCell ?_ (by first | exact Nat.le_refl _ | (simp; done) | (simp; omega) | omega) _))⟩
end Go.Proofs.YtkhlicmlnjccdaaGreatDoor
