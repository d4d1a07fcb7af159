/-
  FnExactTries: the program's Tries answers as the reference's at all arguments, shares nothing, writes into nothing. The walk.
-/
import Derived.Test.YtkhlicmlnjccdaaDoorITries
import Derived.Test.YtkhlicmlnjccdaaDoorSTries
import Derived.Test.YtkhlicmlnjccdaaDoorMark
namespace Go.Proofs.YtkhlicmlnjccdaaDoor
open Go.RowKit Mem
namespace Nm
theorem triesOf_length (name : Str) : ∀ (roots out : List Str), (triesOf name out roots).length ≤ out.length + roots.length
  | [], out => by simp [triesOf]
  | r :: rs, out => by
    unfold triesOf
    split
    · have := triesOf_length name rs (out ++ [(rooted r name).2]); simp at this ⊢; omega
    · have := triesOf_length name rs out; simp; omega
theorem tries_length (roots : List Str) (f s : Str) : (tries roots f s).length ≤ 8 := by
  unfold tries
  split
  · simp
  · split
    · split <;> simp
    · split
      · simp
      · have := triesOf_length (clean s).2 roots []; simp at this; omega
end Nm
namespace Mem
/-- what lay before B is no part of a row of one's own from B on -/
theorem Own.apart {α β : Type} {k : Flat α} {k' : Flat β} {w w' : World} {b1 b2 : Nat} {e1 e2 : TypeId} {v1 v2 : Value} {xs : List α} {ys : List β} (h1 : Own k w b1 e1 v1 xs) (h2 : Own k' w' b2 e2 v2 ys) (hB : w.heap.size ≤ b2) : v1.ownBlock = none ∨ v1.ownBlock ≠ v2.ownBlock := by
  cases he : v1.ownBlock with
  | none => exact .inl rfl
  | some _ =>
    refine .inr fun e => ?_
    have := h1.lt he
    have := h2.le e.symm
    omega
theorem Own.apart' {α β : Type} {k : Flat α} {k' : Flat β} {w w' : World} {b1 b2 : Nat} {e1 e2 : TypeId} {v1 v2 : Value} {xs : List α} {ys : List β} (h1 : Own k w b1 e1 v1 xs) (h2 : Own k' w' b2 e2 v2 ys) (hB : w.heap.size ≤ b2) : v2.ownBlock = none ∨ v2.ownBlock ≠ v1.ownBlock := by
  cases he : v2.ownBlock with
  | none => exact .inl rfl
  | some _ =>
    refine .inr fun e => ?_
    have := h1.lt e.symm
    have := h2.le he
    omega
theorem Below.mark {w W W' : World} {base : Nat} {α : Type} {k : Flat α} {e : TypeId} {v : Value} {xs : List α} (h : Below w.heap.size w W) (ho : Own k W base e v xs) (hb : w.heap.size ≤ base) (hg : W.grownBy W' v.ownBlock) : Below w.heap.size w W' :=
  h.grown hg h.size (fun _ hb' => Nat.le_trans hb (ho.le hb'))
end Mem
theorem strsSize_mem {xs : List Str} {x : Str} (h : x ∈ xs) : x.size ≤ strsSize xs := by
  induction xs with
  | nil => simp at h
  | cons y r ih =>
    rcases List.mem_cons.1 h with h | h
    · subst h; simp [strsSize]
    · have := ih h; simp only [strsSize]; omega

set_option maxRecDepth 100000 in
set_option maxHeartbeats 2000000 in
theorem exactTries_calls (A : Option Addr) (c n : Nat) (roots : List Str) (f s : Str) (S : Nat → Prop) (w : World) (h : Sl kStr w S A roots) (hn : roots.length = n) (hl : n ≤ maxLen) (hz : ∀ x ∈ roots, x.size ≤ maxLen) (hm : ML w) :
    Calls Tryd.prog 5 #[.slice A n c, .string f, .string s] w fun e w' => e = .returned (.bool true) ∧ Below w.heap.size w w' := by
  subst hn
  by_cases hb1 : 1048576 < f.size
  · go_enter Tryd.func5, Tryd.ntmps5
    go_wp2_with fail
    go_ret
    exact ⟨rfl, by (repeat (first | with_reducible exact Below.refl _ _ | with_reducible assumption | with_reducible refine Below.alloc ?_ (by first | exact Nat.le_refl _ | exact Below.size (by assumption) | exact Nat.le_trans (Below.size (by assumption)) (by simp; done) | (simp; done) | (simp; omega) | omega) _ | with_reducible refine below_drewN ?_ _ | with_reducible refine Below.drew ?_ | with_reducible refine Below.setCell ?_ (by first | exact Nat.le_refl _ | (simp; done) | (simp; omega) | omega) _))⟩
  by_cases hb2 : 1048576 < s.size
  · go_enter Tryd.func5, Tryd.ntmps5
    go_wp2_with fail
    go_ret
    exact ⟨rfl, by (repeat (first | with_reducible exact Below.refl _ _ | with_reducible assumption | with_reducible refine Below.alloc ?_ (by first | exact Nat.le_refl _ | exact Below.size (by assumption) | exact Nat.le_trans (Below.size (by assumption)) (by simp; done) | (simp; done) | (simp; omega) | omega) _ | with_reducible refine below_drewN ?_ _ | with_reducible refine Below.drew ?_ | with_reducible refine Below.setCell ?_ (by first | exact Nat.le_refl _ | (simp; done) | (simp; omega) | omega) _))⟩
  have hcz := szStringS_calls A c roots.length roots S 1048576 w h rfl hl hz (by omega)
  by_cases hbig : 1048576 < roots.length + strsSize roots
  · rw [show left (roots.length + strsSize roots) 1048576 = -1 by unfold left; rw [if_neg (by omega)]] at hcz
    have HCZ := hide hcz
    clear hcz
    go_enter Tryd.func5, Tryd.ntmps5
    go_wp2_with fail
    refine (unhide HCZ).mono ?_
    rintro e w' ⟨rfl, rfl⟩
    go_wp2_with fail
    go_ret
    exact ⟨rfl, by (repeat (first | with_reducible exact Below.refl _ _ | with_reducible assumption | with_reducible refine Below.alloc ?_ (by first | exact Nat.le_refl _ | exact Below.size (by assumption) | exact Nat.le_trans (Below.size (by assumption)) (by simp; done) | (simp; done) | (simp; omega) | omega) _ | with_reducible refine below_drewN ?_ _ | with_reducible refine Below.drew ?_ | with_reducible refine Below.setCell ?_ (by first | exact Nat.le_refl _ | (simp; done) | (simp; omega) | omega) _))⟩
  rw [show left (roots.length + strsSize roots) 1048576 = ((1048576 - (roots.length + strsSize roots) : Nat) : Int) by unfold left; rw [if_pos (by omega)]] at hcz
  obtain ⟨lf, hlf⟩ : ∃ lf : Nat, 1048576 - (roots.length + strsSize roots) = lf := ⟨_, rfl⟩
  rw [hlf] at hcz
  have HCZ := hide hcz
  have hnl : roots.length ≤ 1048576 := by omega
  have hrs : ∀ r ∈ roots, r.size ≤ 1048576 := fun r hr => by have := strsSize_mem hr; omega
  have htl := Nm.tries_length roots f s
  obtain ⟨ts, hts⟩ : ∃ ts, Nm.tries roots f s = ts := ⟨_, rfl⟩
  rw [hts] at htl
  have HTS := hide hts
  have HRS := hide hrs
  clear hcz hlf hts hrs hbig hz
  go_enter Tryd.func5, Tryd.ntmps5
  go_wp2_with fail
  refine (unhide HCZ).mono ?_
  rintro e w' ⟨rfl, rfl⟩
  clear HCZ
  go_wp2_with fail
  -- the reference's answer
  refine (toStringS_calls A c _ roots S w h rfl (by omega)).mono ?_
  rintro e w1 ⟨v1, rfl, HO1, HB1⟩
  obtain ⟨A1, c1, rfl, hc1, hd1, hs1⟩ := HO1.slV
  go_wp2_with fail
  refine (sTries_calls A1 c1 _ roots f s _ w1 hs1 rfl (by omega) HRS.out (by omega) (by omega)).mono ?_
  rintro e w2 ⟨v8, rfl, H8, HB2⟩
  rw [HTS.out] at H8
  have B2 := below_then HB1 HB1.size HB2
  clear HO1 HB1 HB2 hc1 hd1 hs1
  go_wp2_with fail
  -- the program's argument
  refine (toStringS_calls A c _ roots S w2 (h.below B2) rfl (by omega)).mono ?_
  rintro e w3 ⟨v9, rfl, H9, HB3⟩
  have B3 := below_then B2 B2.size HB3
  have P89 := Own.apart' H8 H9 (Nat.le_refl _)
  have Q89 := Own.apart H8 H9 (Nat.le_refl _)
  replace H8 := H8.below HB3
  have z3 := B2.size
  clear HB3 B2
  obtain ⟨A9, c9, rfl, hc9, hd9, hs9⟩ := H9.slV
  go_wp2_with fail
  refine (iTries_calls A9 c9 _ roots f s _ w3 hs9 rfl (by omega) HRS.out (by omega) (by omega) (hm.below B3)).mono ?_
  rintro e w4 ⟨v10, rfl, H10, HB4⟩
  rw [HTS.out] at H10
  have B4 := below_then B3 B3.size HB4
  have P10 := Own.apart' H8 H10 (Nat.le_refl _)
  have Q10 := Own.apart H8 H10 (Nat.le_refl _)
  have R10 := Own.apart' H9 H10 (Nat.le_refl _)
  replace H8 := H8.below HB4
  replace H9 := H9.below HB4
  have z4 := B3.size
  clear HB4 B3 hs9
  obtain ⟨A8, c8, rfl, hc8, hd8, hs8⟩ := H8.slV
  obtain ⟨A10, c10, rfl, hc10, hd10, hs10⟩ := H10.slV
  go_wp2_with fail
  refine (eqStringS_same A10 A8 c10 c8 ts.length ts w4 _ _ hs10 hs8 rfl (by unfold maxLen; omega)).mono ?_
  rintro e w' ⟨rfl, n1, rfl⟩
  replace H8 := H8.drewN n1
  replace H9 := H9.drewN n1
  replace H10 := H10.drewN n1
  replace B4 := below_drewN B4 n1
  generalize w4.drewN n1 = w5 at *
  go_wp2_with fail
  -- the argument reads as it did
  refine (toStringS_calls A c _ roots S w5 (h.below B4) rfl (by omega)).mono ?_
  rintro e w6 ⟨v6, rfl, H6, HB6⟩
  have B6 := below_then B4 B4.size HB6
  replace H8 := H8.below HB6
  replace H9 := H9.below HB6
  replace H10 := H10.below HB6
  clear HB6
  obtain ⟨A6, c6, rfl, hc6, hd6, hs6⟩ := H6.slV
  have hs9 := H9.sl
  go_wp2_with fail
  refine (eqStringS_same A9 A6 c9 c6 roots.length roots w6 _ _ hs9 hs6 rfl (by unfold maxLen; omega)).mono ?_
  rintro e w' ⟨rfl, n2, rfl⟩
  replace H8 := H8.drewN n2
  replace H9 := H9.drewN n2
  replace H10 := H10.drewN n2
  replace B6 := below_drewN B6 n2
  clear H6 hs6 hc6 hd6 hs8 hs9 hs10
  generalize w6.drewN n2 = w7 at *
  go_wp2_with fail
  -- the argument is marked
  refine (markStringS_calls A9 c9 roots.length w2.heap.size 1 roots w7 H9 rfl (by omega)).mono ?_
  rintro e w8 ⟨rfl, K9, G9⟩
  have B8 := Below.mark B6 H9 z3 G9
  replace H8 := H8.kept G9 Q89
  replace H10 := H10.kept G9 R10
  clear K9 G9 H9 P89 Q89
  have hs8 := H8.sl
  have hs10 := H10.sl
  go_wp2_with fail
  refine (eqStringS_same A10 A8 c10 c8 ts.length ts w8 _ _ hs10 hs8 rfl (by unfold maxLen; omega)).mono ?_
  rintro e w' ⟨rfl, n3, rfl⟩
  replace H8 := H8.drewN n3
  replace H10 := H10.drewN n3
  replace B8 := below_drewN B8 n3
  clear hs8 hs10
  generalize w8.drewN n3 = w9 at *
  go_wp2_with fail
  -- the answer is marked
  refine (markStringS_calls A10 c10 ts.length w3.heap.size 1 ts w9 H10 rfl (by omega)).mono ?_
  rintro e w10 ⟨rfl, K10, G10⟩
  have B10 := Below.mark B8 H10 z4 G10
  replace H8 := H8.kept G10 Q10
  clear H10 G10 B8
  have hs10 := K10.sl
  go_wp2_with fail
  refine (heldStringS_calls A10 c10 ts.length 1 _ w10 hs10 (by omega)).mono ?_
  rintro e w11 ⟨rfl, HB11⟩
  have B11 := below_then B10 B10.size HB11
  replace H8 := H8.below HB11
  replace K10 := K10.below HB11
  clear HB11 B10 hs10
  go_wp2_with fail
  -- a second answer
  refine (toStringS_calls A c _ roots S w11 (h.below B11) rfl (by omega)).mono ?_
  rintro e w12 ⟨v12, rfl, H12, HB12⟩
  have B12 := below_then B11 B11.size HB12
  replace H8 := H8.below HB12
  replace K10 := K10.below HB12
  clear HB12 B11
  obtain ⟨A12, c12, rfl, hc12, hd12, hs12⟩ := H12.slV
  go_wp2_with fail
  refine (iTries_calls A12 c12 _ roots f s _ w12 hs12 rfl (by omega) HRS.out (by omega) (by omega) (hm.below B12)).mono ?_
  rintro e w13 ⟨v13, rfl, H13, HB13⟩
  rw [HTS.out] at H13
  have B13 := below_then B12 B12.size HB13
  replace H8 := H8.below HB13
  replace K10 := K10.below HB13
  clear HB13 B12 hs12 hc12 hd12 H12
  obtain ⟨A13, c13, rfl, hc13, hd13, hs13⟩ := H13.slV
  have hs8 := H8.sl
  go_wp2_with fail
  refine (eqStringS_same A13 A8 c13 c8 ts.length ts w13 _ _ hs13 hs8 rfl (by unfold maxLen; omega)).mono ?_
  rintro e w' ⟨rfl, n4, rfl⟩
  replace K10 := K10.drewN n4
  replace B13 := below_drewN B13 n4
  clear hs8 hs13
  generalize w13.drewN n4 = w14 at *
  have hs10 := K10.sl
  go_wp2_with fail
  refine (heldStringS_calls A10 c10 ts.length 1 _ w14 hs10 (by omega)).mono ?_
  rintro e w15 ⟨rfl, HB15⟩
  have B15 := below_then B13 B13.size HB15
  clear HB15 B13 hs10
  go_wp2_with fail
  go_ret
  exact ⟨rfl, B15⟩
end Go.Proofs.YtkhlicmlnjccdaaDoor
