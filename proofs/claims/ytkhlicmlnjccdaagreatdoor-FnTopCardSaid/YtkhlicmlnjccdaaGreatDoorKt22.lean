/-
  Walks: the reference's l1near, l1rooted, Tries.
-/
import Derived.Test.YtkhlicmlnjccdaaGreatDoorKt21
namespace Go.Proofs.YtkhlicmlnjccdaaGreatDoor
open Go.RowKit Mem
namespace Mem
theorem Own.one {α : Type} {k : Flat α} (w : World) (base : Nat) (e : TypeId) (x : α) (cs : Array Value) (hcs : cs.toList = k.enc x) (hb : base ≤ w.heap.size) : Own k (w.alloc (.cells cs e)) base e (.slice (some ⟨w.heap.size, 0, none⟩) 1 1) [x] := by
  have h := World.ownsRow_lit (base := base) (e := e) (size := k.kind.size) w cs 1 hb (by simp only [maxLen]; omega) (by rw [← Array.length_toList, hcs, k.len, Nat.one_mul])
  unfold Own
  rw [k.all_one, ← hcs]
  exact h
theorem Own.below0 {α : Type} {k : Flat α} {w w' : World} {base : Nat} {e : TypeId} {v : Value} {xs : List α} (h : Own k w base e v xs) (hb : Below w.heap.size w w') : Own k w' base e v xs := h.below hb
end Mem
namespace Nm
theorem near_def (s : Str) : near s = (decide ((parts (bs s)).head (parts_ne _) = [46]) || decide ((parts (bs s)).head (parts_ne _) = [46, 46])) := rfl
theorem metIn_snoc (out : List Str) (y x : Str) : metIn (out ++ [y]) x = (metIn out x || decide (y = x)) := by simp [metIn]
theorem triesOf_drop (name : Str) (out roots : List Str) (k : Nat) (hk : k < roots.length) : triesOf name out (roots.drop k) = if (rooted roots[k] name).1 = 0 ∧ metIn out (rooted roots[k] name).2 = false then triesOf name (out ++ [(rooted roots[k] name).2]) (roots.drop (k + 1)) else triesOf name out (roots.drop (k + 1)) := by
  rw [List.drop_eq_getElem_cons hk]; rfl
end Nm

set_option maxHeartbeats 400000 in
theorem l1near_calls (s : Str) (w : World) (hs : s.size ≤ 1073741824) : Calls Tryz.prog 111 #[.string s] w fun e w' => e = .returned (.bool (Nm.near s)) ∧ Below w.heap.size w w' := by
  have hnd := hide (Nm.near_def s)
  generalize hp : (Nm.parts (Nm.bs s)).head (Nm.parts_ne _) = p at hnd
  have HP := hide hp
  clear hp
  go_enter Tryz.func111, Tryz.ntmps111
  go_wp2_with fail
  refine (l1parts_calls s w hs).mono ?_
  rintro e w1 ⟨vP, rfl, HO, hb⟩
  have hpn : (Nm.parts (Nm.bs s)).map Nm.mk ≠ [] := by simpa using Nm.parts_ne _
  have hlen : 0 < (Nm.parts (Nm.bs s)).length := List.length_pos_iff.2 (Nm.parts_ne _)
  obtain ⟨g2, c2, rfl, hg2, hg2l, hpc, hpm, hob, hsl⟩ := HO.form hpn
  obtain ⟨ad, e0, hc⟩ := hsl.get (i := 0) (by simpa using hlen)
  cases e0
  have e1 : w1.cell? ⟨g2, 0, none⟩ = some (.string (Nm.mk p)) := by
    have := hc.2
    rw [add_plain] at this
    rw [← HP.out, List.head_eq_getElem]
    simpa [kStr] using this
  generalize hT : Nm.mk p = t at e1
  have HT := hide hT
  have HPN := hide hpn
  clear hc hT hpn hob HO
  rw [List.length_map] at hpc ⊢
  by_cases h1 : p = [46]
  · have hA1 : (t.toList == [46]) = true := tl_t (by rw [← HT.out, h1]; rfl)
    have hnd2 : Nm.near s = true := by rw [hnd.out, h1]; rfl
    have HN := hide hnd2
    clear h1 hnd2 hnd
    go_wp2_with fail
    go_ret
    exact ⟨ret_bool (by rw [HN.out]), hb⟩
  · have hA1 : (t.toList == [46]) = false := tl_f (fun e => h1 (Nm.mk_inj (HT.out.trans e)))
    by_cases h2 : p = [46, 46]
    · have hA2 : (t.toList == [46, 46]) = true := tl_t (by rw [← HT.out, h2]; rfl)
      have hnd2 : Nm.near s = true := by rw [hnd.out, h2]; rfl
      have HN := hide hnd2
      clear h1 h2 hnd2 hnd
      go_wp2_with fail
      go_ret
      exact ⟨ret_bool (by rw [HN.out]), hb⟩
    · have hA2 : (t.toList == [46, 46]) = false := tl_f (fun e => h2 (Nm.mk_inj (HT.out.trans e)))
      have hnd2 : Nm.near s = false := by rw [hnd.out, decide_eq_false h1, decide_eq_false h2]; rfl
      have HN := hide hnd2
      clear h1 h2 hnd2 hnd
      go_wp2_with fail
      go_ret
      exact ⟨ret_bool (by rw [HN.out]), hb⟩

set_option maxHeartbeats 400000 in
theorem l1rooted_calls (r s : Str) (w : World) (hr : r.size ≤ 1073741000) (hs : s.size ≤ 60) : Calls Tryz.prog 113 #[.string r, .string s] w (RetNamed w (Nm.rooted r s)) := by
  by_cases h0 : r = ⟨#[]⟩
  · have hc1 := fun W : World => sClean_calls s W (by omega)
    have hq : Nm.rooted r s = Nm.clean s := by unfold Nm.rooted; rw [if_pos (show r = Nm.mk [] from h0)]
    rw [← hq] at hc1
    obtain ⟨r1, r2, hr⟩ : ∃ r1 r2, Nm.rooted r s = (r1, r2) := ⟨_, _, rfl⟩
    rw [hr] at hc1
    have HR := hide hr
    have HC1 := hide hc1
    have hE1 : r.toList.isEmpty = true := tl_e h0
    clear hc1 hr hq h0
    go_enter Tryz.func113, Tryz.ntmps113
    go_wp2_with fail
    refine (HC1.out _).mono ?_
    rintro e w1 ⟨rfl, hb⟩
    have hblk := blk_new hb; have k0 : w1.cell? ⟨w.heap.size, 0, none⟩ = some _ := blk_cell hblk 0; have k1 : w1.cell? ⟨w.heap.size, 1, none⟩ = some _ := blk_cell hblk 1; have f0 := blk_free hblk 0; have f1 := blk_free hblk 1; clear hblk
    have hb0 := below_then (Below.alloc (Below.refl _ w) (Nat.le_refl _) (Obj.cells #[.int .i64 0, .string ⟨#[]⟩] 102)) (by simp) hb
    clear hb
    go_wp2_with fail
    exact bodyPost_ret (v := .agg #[.int .i64 r1, .string r2]) (by simp [results, Tryz.results113, go_sem, k0, k1]) rfl ⟨by rw [HR.out], by (repeat (first | with_reducible exact Below.refl _ _ | with_reducible assumption | with_reducible refine Below.alloc ?_ (by first | exact Nat.le_refl _ | exact Below.size (by assumption) | exact Nat.le_trans (Below.size (by assumption)) (by simp; done) | (simp; done) | (simp; omega) | omega) _ | with_reducible refine below_drewN ?_ _ | with_reducible refine Below.drew ?_ | with_reducible refine Below.setCell ?_ (by first | exact Nat.le_refl _ | (simp; done) | (simp; omega) | omega) _))⟩
  · have h47 : (⟨#[47]⟩ : Str).size = 1 := rfl
    have hc1 := fun W : World => sClean_calls (r ++ ⟨#[47]⟩ ++ s) W (by rw [ByteArray.size_append, ByteArray.size_append]; omega)
    have hq : Nm.rooted r s = Nm.clean (r ++ ⟨#[47]⟩ ++ s) := by unfold Nm.rooted; rw [if_neg (show ¬ r = Nm.mk [] from h0)]; rfl
    rw [← hq] at hc1
    have k1 := fun W : World => run_string_add_sum (P := Tryz.prog) (w := W) r ⟨#[47]⟩ (by omega)
    have k2 := fun W : World => run_string_add_sum (P := Tryz.prog) (w := W) (r ++ ⟨#[47]⟩) s (by rw [ByteArray.size_append]; omega)
    obtain ⟨r1, r2, hr⟩ : ∃ r1 r2, Nm.rooted r s = (r1, r2) := ⟨_, _, rfl⟩
    rw [hr] at hc1
    have HR := hide hr
    have HC1 := hide hc1
    have hE1 : r.toList.isEmpty = false := tl_n h0
    clear hc1 hr hq h0 h47
    go_enter Tryz.func113, Tryz.ntmps113
    go_wp2_with fail
    refine (HC1.out _).mono ?_
    rintro e w1 ⟨rfl, hb⟩
    clear k1 k2
    have hblk := blk_new hb; have k0 : w1.cell? ⟨w.heap.size, 0, none⟩ = some _ := blk_cell hblk 0; have k1 : w1.cell? ⟨w.heap.size, 1, none⟩ = some _ := blk_cell hblk 1; have f0 := blk_free hblk 0; have f1 := blk_free hblk 1; clear hblk
    have hb0 := below_then (Below.alloc (Below.refl _ w) (Nat.le_refl _) (Obj.cells #[.int .i64 0, .string ⟨#[]⟩] 102)) (by simp) hb
    clear hb
    go_wp2_with fail
    exact bodyPost_ret (v := .agg #[.int .i64 r1, .string r2]) (by simp [results, Tryz.results113, go_sem, k0, k1]) rfl ⟨by rw [HR.out], by (repeat (first | with_reducible exact Below.refl _ _ | with_reducible assumption | with_reducible refine Below.alloc ?_ (by first | exact Nat.le_refl _ | exact Below.size (by assumption) | exact Nat.le_trans (Below.size (by assumption)) (by simp; done) | (simp; done) | (simp; omega) | omega) _ | with_reducible refine below_drewN ?_ _ | with_reducible refine Below.drew ?_ | with_reducible refine Below.setCell ?_ (by first | exact Nat.le_refl _ | (simp; done) | (simp; omega) | omega) _))⟩
end Go.Proofs.YtkhlicmlnjccdaaGreatDoor
