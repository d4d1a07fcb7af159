/-
  FnExactWithin: the program's Within answers as the reference's at every pair of texts. The walk.
-/
import Derived.Test.YtkhlicmlnjccdaaDoorWith2
import Derived.Test.YtkhlicmlnjccdaaDoorEq1
namespace Go.Proofs.YtkhlicmlnjccdaaDoor
open Go.RowKit Mem

set_option maxHeartbeats 400000 in
theorem exactWithin_calls (f s : Str) (w : World) (hm : ML w) : Calls Tryd.prog 4 #[.string f, .string s] w fun e w' => e = .returned (.bool true) ∧ Below w.heap.size w w' := by
  by_cases hb : 1048576 < f.size
  · go_enter Tryd.func4, Tryd.ntmps4
    go_wp2_with fail
    go_ret
    exact ⟨rfl, by (repeat (first | with_reducible exact Below.refl _ _ | with_reducible assumption | with_reducible refine Below.alloc ?_ (by first | exact Nat.le_refl _ | exact Below.size (by assumption) | (simp; done) | (simp; omega) | omega) _ | with_reducible refine below_drewN ?_ _ | with_reducible refine Below.drew ?_ | with_reducible refine Below.setCell ?_ (by first | exact Nat.le_refl _ | (simp; done) | (simp; omega) | omega) _))⟩
  by_cases hb2 : 1048576 < s.size
  · go_enter Tryd.func4, Tryd.ntmps4
    go_wp2_with fail
    go_ret
    exact ⟨rfl, by (repeat (first | with_reducible exact Below.refl _ _ | with_reducible assumption | with_reducible refine Below.alloc ?_ (by first | exact Nat.le_refl _ | exact Below.size (by assumption) | (simp; done) | (simp; omega) | omega) _ | with_reducible refine below_drewN ?_ _ | with_reducible refine Below.drew ?_ | with_reducible refine Below.setCell ?_ (by first | exact Nat.le_refl _ | (simp; done) | (simp; omega) | omega) _))⟩
  have hc1 := fun W : World => sWithin_calls f s W (by omega) (by omega)
  have hc2 := fun (W : World) (h : ML W) => iWithin_calls f s W (by omega) h
  obtain ⟨r1, r2, hr⟩ : ∃ r1 r2, Nm.within f s = (r1, r2) := ⟨_, _, rfl⟩
  rw [hr] at hc1 hc2
  have HC1 := hide hc1
  have HC2 := hide hc2
  clear hc1 hc2 hr
  go_enter Tryd.func4, Tryd.ntmps4
  go_wp2_with fail
  refine (HC1.out _).mono ?_
  rintro e w1 ⟨rfl, hb1⟩
  have hm1 := hm.below hb1
  go_wp2_with fail
  refine (HC2.out _ (hm1.below (by (repeat (first | with_reducible exact Below.refl _ _ | with_reducible assumption | with_reducible refine Below.alloc ?_ (by first | exact Nat.le_refl _ | exact Below.size (by assumption) | (simp; done) | (simp; omega) | omega) _ | with_reducible refine below_drewN ?_ _ | with_reducible refine Below.drew ?_ | with_reducible refine Below.setCell ?_ (by first | exact Nat.le_refl _ | (simp; done) | (simp; omega) | omega) _))))).mono ?_
  rintro e w2 ⟨rfl, hb2⟩
  have hblk := blk_new hb2
  have k0 : w2.cell? ⟨w1.heap.size, 0, none⟩ = some (.int .i64 r1) := blk_cell hblk 0
  have k1 : w2.cell? ⟨w1.heap.size, 1, none⟩ = some (.string r2) := blk_cell hblk 1
  have hb3 := below_then (below_then hb1 hb1.size (Below.alloc (Below.refl _ w1) (Nat.le_refl _) (Obj.cells #[.int .i64 r1, .string r2] 23))) (by have := hb1.size; simp; omega) hb2
  have hs2 : w1.heap.size < w2.heap.size := below_size hb2
  clear hblk hb2 hb1
  have hce := fun W : World => eqNamed_same r1 r2 W
  have HCE := hide hce
  clear hce
  go_wp2_with fail
  refine (HCE.out _).mono ?_
  rintro e w4 ⟨rfl, hb4⟩
  go_wp2_with fail
  go_ret
  exact ⟨rfl, below_then (by (repeat (first | with_reducible exact Below.refl _ _ | with_reducible assumption | with_reducible refine Below.alloc ?_ (by first | exact Nat.le_refl _ | exact Below.size (by assumption) | (simp; done) | (simp; omega) | omega) _ | with_reducible refine below_drewN ?_ _ | with_reducible refine Below.drew ?_ | with_reducible refine Below.setCell ?_ (by first | exact Nat.le_refl _ | (simp; done) | (simp; omega) | omega) _))) (by have := hb3.size; simp; omega) hb4⟩
end Go.Proofs.YtkhlicmlnjccdaaDoor
