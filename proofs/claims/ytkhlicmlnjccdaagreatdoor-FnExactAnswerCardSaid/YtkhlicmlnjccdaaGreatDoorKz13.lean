/-
  Walks: the laws' measures of lines, modules, numbers and worlds.
-/
import Derived.Test.YtkhlicmlnjccdaaGreatDoorKz8
import Derived.Test.YtkhlicmlnjccdaaGreatDoorKz12
namespace Go.Proofs.YtkhlicmlnjccdaaGreatDoor
open Go.RowKit Mem

def sumOf {α : Type} (f : α → Nat) : List α → Nat
  | [] => 0
  | x :: r => f x + sumOf f r
theorem sumOf_take {α : Type} (f : α → Nat) (xs : List α) (k : Nat) (hk : k < xs.length) : sumOf f (xs.take (k + 1)) = sumOf f (xs.take k) + f xs[k] := by
  induction xs generalizing k with
  | nil => simp at hk
  | cons x r ih =>
    cases k with
    | zero => simp [sumOf]
    | succ k =>
      have := ih k (by simpa using hk)
      simp only [List.take_succ_cons, sumOf, List.getElem_cons_succ]
      omega
theorem sumOf_le {α : Type} (f : α → Nat) (xs : List α) (k : Nat) : sumOf f (xs.take k) ≤ sumOf f xs := by
  induction xs generalizing k with
  | nil => simp [sumOf]
  | cons x r ih =>
    cases k with
    | zero => simp [sumOf]
    | succ k => have := ih k; simp only [List.take_succ_cons, sumOf]; omega
theorem sumOf_mem {α : Type} {f : α → Nat} {xs : List α} {x : α} (h : x ∈ xs) : f x ≤ sumOf f xs := by
  induction xs with
  | nil => simp at h
  | cons y r ih =>
    simp only [sumOf]
    rcases List.mem_cons.1 h with h | h
    · subst h; omega
    · have := ih h; omega
def linesTot (ls : List LineD) : Nat := ls.length + sumOf (fun l : LineD => l.name.size) ls
def modTot (m : ModD) : Nat := m.name.size + linesTot m.lines
def modsTot (ms : List ModD) : Nat := ms.length + sumOf modTot ms
def worldTot (D : WorldD) : Nat := D.roots.length + strsSize D.roots + modsTot D.mods + D.faults.length
theorem left_ok {t l : Nat} (h : t ≤ l) : left t l = ((l - t : Nat) : Int) := by unfold left; rw [if_pos h]
theorem left_no {t l : Nat} (h : l < t) : left t l = -1 := by unfold left; rw [if_neg (by omega)]

set_option maxHeartbeats 400000 in
theorem szLine_calls (x : LineD) (l : Nat) (w : World) (hs : x.name.size ≤ maxLen) (hL : l ≤ 1048576) :
    Calls Tryz.prog 122 #[.agg #[.int .i64 x.op, .string x.name, .int .i64 x.num, .int .i64 x.skip], .int .i64 l] w fun e w' => e = .returned (.int .i64 (left x.name.size l)) ∧ Below w.heap.size w w' := by
  obtain ⟨op, nm, num, skip⟩ := x
  replace hs := mem_maxLen _ hs
  replace hs : nm.size ≤ 9223372036854775807 := hs
  by_cases h0 : l < nm.size
  · have HQ := hide (left_no h0)
    go_enter Tryz.func122, Tryz.ntmps122
    go_wp2_with fail
    go_ret
    exact ⟨ret_int HQ.out.symm, by (repeat (first | with_reducible exact Below.refl _ _ | with_reducible assumption | with_reducible refine Below.alloc ?_ (by first | exact Nat.le_refl _ | exact Below.size (by assumption) | exact Nat.le_trans (Below.size (by assumption)) (by simp; done) | (simp; done) | (simp; omega) | omega) _ | with_reducible refine below_drewN ?_ _ | with_reducible refine Below.drew ?_ | with_reducible refine Below.setCell ?_ (by first | exact Nat.le_refl _ | (simp; done) | (simp; omega) | omega) _))⟩
  · have HQ := hide (left_ok (Nat.le_of_not_lt h0))
    go_enter Tryz.func122, Tryz.ntmps122
    go_wp2_with fail
    go_ret
    exact ⟨ret_int (by rw [HQ.out]; omega), by (repeat (first | with_reducible exact Below.refl _ _ | with_reducible assumption | with_reducible refine Below.alloc ?_ (by first | exact Nat.le_refl _ | exact Below.size (by assumption) | exact Nat.le_trans (Below.size (by assumption)) (by simp; done) | (simp; done) | (simp; omega) | omega) _ | with_reducible refine below_drewN ?_ _ | with_reducible refine Below.drew ?_ | with_reducible refine Below.setCell ?_ (by first | exact Nat.le_refl _ | (simp; done) | (simp; omega) | omega) _))⟩

theorem szIntS_calls (A : Option Addr) (c n l : Nat) (w : World) (hn : n ≤ maxLen) (hL : l ≤ 1048576) :
    Calls Tryz.prog 35 #[.slice A n c, .int .i64 l] w fun e w' => e = .returned (.int .i64 (left n l)) ∧ Below w.heap.size w w' := by
  replace hn := mem_maxLen _ hn
  by_cases h0 : l < n
  · have HQ := hide (left_no h0)
    go_enter Tryz.func35, Tryz.ntmps35
    go_wp2_with fail
    go_ret
    exact ⟨ret_int HQ.out.symm, by (repeat (first | with_reducible exact Below.refl _ _ | with_reducible assumption | with_reducible refine Below.alloc ?_ (by first | exact Nat.le_refl _ | exact Below.size (by assumption) | exact Nat.le_trans (Below.size (by assumption)) (by simp; done) | (simp; done) | (simp; omega) | omega) _ | with_reducible refine below_drewN ?_ _ | with_reducible refine Below.drew ?_ | with_reducible refine Below.setCell ?_ (by first | exact Nat.le_refl _ | (simp; done) | (simp; omega) | omega) _))⟩
  · have HQ := hide (left_ok (Nat.le_of_not_lt h0))
    go_enter Tryz.func35, Tryz.ntmps35
    go_wp2_with fail
    go_ret
    exact ⟨ret_int (by rw [HQ.out]; omega), by (repeat (first | with_reducible exact Below.refl _ _ | with_reducible assumption | with_reducible refine Below.alloc ?_ (by first | exact Nat.le_refl _ | exact Below.size (by assumption) | exact Nat.le_trans (Below.size (by assumption)) (by simp; done) | (simp; done) | (simp; omega) | omega) _ | with_reducible refine below_drewN ?_ _ | with_reducible refine Below.drew ?_ | with_reducible refine Below.setCell ?_ (by first | exact Nat.le_refl _ | (simp; done) | (simp; omega) | omega) _))⟩

set_option maxRecDepth 100000 in
set_option maxHeartbeats 1000000 in
theorem szLineS_calls (A : Option Addr) (c n : Nat) (xs : List LineD) (S : Nat → Prop) (l : Nat) (w : World) (h : Sl kLine w S A xs) (hn : xs.length = n) (hl : n ≤ maxLen) (hs : ∀ x ∈ xs, x.name.size ≤ maxLen) (hL : l ≤ 1048576) :
    Calls Tryz.prog 104 #[.slice A n c, .int .i64 l] w fun e w' => e = .returned (.int .i64 (left (linesTot xs) l)) ∧ Below w.heap.size w w' := by
  subst hn
  replace hl := mem_maxLen _ hl
  by_cases h0 : l < xs.length
  · have HQ := hide (left_no (show l < linesTot xs by unfold linesTot; omega))
    clear hs
    go_enter Tryz.func104, Tryz.ntmps104
    go_wp2_with fail
    go_ret
    exact ⟨ret_int HQ.out.symm, by (repeat (first | with_reducible exact Below.refl _ _ | with_reducible assumption | with_reducible refine Below.alloc ?_ (by first | exact Nat.le_refl _ | exact Below.size (by assumption) | exact Nat.le_trans (Below.size (by assumption)) (by simp; done) | (simp; done) | (simp; omega) | omega) _ | with_reducible refine below_drewN ?_ _ | with_reducible refine Below.drew ?_ | with_reducible refine Below.setCell ?_ (by first | exact Nat.le_refl _ | (simp; done) | (simp; omega) | omega) _))⟩
  · have hlc : ((l : Int) - (xs.length : Int)) = ((l - xs.length : Nat) : Int) := by omega
    have HS := hide hs
    clear hs
    go_enter Tryz.func104, Tryz.ntmps104
    go_wp2_with fail
    go_loopw [1, 5] (fun t i wr => ∃ (k m : Nat), i = .int .i64 k ∧ k ≤ xs.length ∧ t = .int .i64 m ∧ Hid (m + xs.length + sumOf (fun l : LineD => l.name.size) (xs.take k) = l) ∧ m ≤ 1048576 ∧ Below w.heap.size w wr) (fun _ i _ => xs.length - (intOf i).toNat)
    case atStart => exact ⟨0, l - xs.length, rfl, by omega, by first | rfl | (simp; omega), by have : sumOf (fun l : LineD => l.name.size) (xs.take 0) = 0 := rfl; exact hide (by omega), by omega, Below.refl _ _⟩
    case round =>
      clear hlc
      obtain ⟨k, m, rfl, hk, rfl, HM, hmb, HB⟩ := hrel
      by_cases hlt : k < xs.length
      · have HST := hide (sumOf_take (fun l : LineD => l.name.size) xs k hlt)
        have HSL := hide (sumOf_le (fun l : LineD => l.name.size) xs (k + 1))
        obtain ⟨ad, hA, l0, l1, l2, l3⟩ := (h.below HB).get hlt
        subst hA
        have e0 : wr.cell? (ad.add (k * 4)) = some (.int .i64 xs[k].op) := l0.2
        have e1 : wr.cell? ⟨(ad.add (k * 4)).block, (ad.add (k * 4)).off + 1, none⟩ = some (.string xs[k].name) := by have := l1.2; rwa [add_pos _ _ (by omega)] at this
        have e2 : wr.cell? ⟨(ad.add (k * 4)).block, (ad.add (k * 4)).off + 2, none⟩ = some (.int .i64 xs[k].num) := by have := l2.2; rwa [add_pos _ _ (by omega)] at this
        have e3 : wr.cell? ⟨(ad.add (k * 4)).block, (ad.add (k * 4)).off + 3, none⟩ = some (.int .i64 xs[k].skip) := by have := l3.2; rwa [add_pos _ _ (by omega)] at this
        have hxs := HS.out xs[k] (List.getElem_mem _)
        clear l0 l1 l2 l3
        replace HST : Hid (sumOf (fun l : LineD => l.name.size) (xs.take (k + 1)) = sumOf (fun l : LineD => l.name.size) (xs.take k) + xs[k].name.size) := HST
        generalize xs[k] = x at e0 e1 e2 e3 HST hxs
        by_cases hx : m < x.name.size
        · have HQ := hide (left_no (show l < linesTot xs by have := HM.out; have := HST.out; have := HSL.out; unfold linesTot; omega))
          have HX := hide (left_no hx)
          go_wp2_with fail
          refine (szLine_calls x m _ hxs hmb).mono ?_
          rw [HX.out]
          rintro e w1 ⟨rfl, hb1⟩
          replace HB := below_then HB HB.size hb1
          clear hb1 e0 e1 e2 e3
          go_wp2_with fail
          go_ret
          exact ⟨ret_int HQ.out.symm, HB⟩
        · have HX := hide (left_ok (Nat.le_of_not_lt hx))
          go_wp2_with fail
          refine (szLine_calls x m _ hxs hmb).mono ?_
          rw [HX.out]
          rintro e w1 ⟨rfl, hb1⟩
          replace HB := below_then HB HB.size hb1
          clear hb1 e0 e1 e2 e3
          go_wp2_with fail
          go_round
          case rel => exact ⟨k + 1, m - x.name.size, by go_num, by omega, rfl, hide (by have := HM.out; have := HST.out; omega), by omega, HB⟩
          case measure => simp [intOf]; omega
      · obtain rfl : k = xs.length := by omega
        have hm := HM.out
        rw [List.take_length] at hm
        have HQ := hide (show left (linesTot xs) l = (m : Int) by rw [left_ok (by unfold linesTot; omega)]; unfold linesTot; omega)
        clear hm
        go_wp2_with fail
        go_ret
        exact ⟨ret_int HQ.out.symm, HB⟩

set_option maxRecDepth 100000 in
set_option maxHeartbeats 400000 in
theorem szModule_calls (A : Option Addr) (c : Nat) (x : ModD) (S : Nat → Prop) (l : Nat) (w : World) (h : Sl kLine w S A x.lines) (hl : x.lines.length ≤ maxLen) (hn : x.name.size ≤ maxLen) (hs : ∀ y ∈ x.lines, y.name.size ≤ maxLen) (hL : l ≤ 1048576) :
    Calls Tryz.prog 79 #[.agg #[.string x.name, .slice A x.lines.length c], .int .i64 l] w fun e w' => e = .returned (.int .i64 (left (modTot x) l)) ∧ Below w.heap.size w w' := by
  obtain ⟨nm, ls⟩ := x
  replace hl : ls.length ≤ maxLen := hl
  have hn' : nm.size ≤ 9223372036854775807 := mem_maxLen _ hn
  have HS := hide hs
  clear hs hn
  by_cases h0 : l < nm.size
  · have HQ := hide (left_no (show l < modTot ⟨nm, ls⟩ by unfold modTot; show l < nm.size + linesTot ls; omega))
    go_enter Tryz.func79, Tryz.ntmps79
    go_wp2_with fail
    go_ret
    exact ⟨ret_int HQ.out.symm, by (repeat (first | with_reducible exact Below.refl _ _ | with_reducible assumption | with_reducible refine Below.alloc ?_ (by first | exact Nat.le_refl _ | exact Below.size (by assumption) | exact Nat.le_trans (Below.size (by assumption)) (by simp; done) | (simp; done) | (simp; omega) | omega) _ | with_reducible refine below_drewN ?_ _ | with_reducible refine Below.drew ?_ | with_reducible refine Below.setCell ?_ (by first | exact Nat.le_refl _ | (simp; done) | (simp; omega) | omega) _))⟩
  · have hlc : ((l : Int) - (nm.size : Int)) = ((l - nm.size : Nat) : Int) := by omega
    have hcc := szLineS_calls A c ls.length ls S (l - nm.size) (w.alloc (Obj.cells #[.string nm, .slice A ls.length c] 134)) (h.below (by (repeat (first | with_reducible exact Below.refl _ _ | with_reducible assumption | with_reducible refine Below.alloc ?_ (by first | exact Nat.le_refl _ | exact Below.size (by assumption) | exact Nat.le_trans (Below.size (by assumption)) (by simp; done) | (simp; done) | (simp; omega) | omega) _ | with_reducible refine below_drewN ?_ _ | with_reducible refine Below.drew ?_ | with_reducible refine Below.setCell ?_ (by first | exact Nat.le_refl _ | (simp; done) | (simp; omega) | omega) _)))) rfl hl HS.out (by omega)
    by_cases h1 : l - nm.size < linesTot ls
    · have HQ := hide (left_no (show l < modTot ⟨nm, ls⟩ by unfold modTot; show l < nm.size + linesTot ls; omega))
      rw [left_no h1] at hcc
      have HCC := hide hcc
      clear hcc
      go_enter Tryz.func79, Tryz.ntmps79
      go_wp2_with fail
      refine (unhide HCC).mono ?_
      rintro e w1 ⟨rfl, hb1⟩
      have HB := below_then (Below.alloc (Below.refl w.heap.size w) (Nat.le_refl _) (Obj.cells #[.string nm, .slice A ls.length c] 134)) (by simp) hb1
      clear hb1
      go_wp2_with fail
      go_ret
      exact ⟨ret_int HQ.out.symm, HB⟩
    · have HQ := hide (left_ok (show modTot ⟨nm, ls⟩ ≤ l by unfold modTot; show nm.size + linesTot ls ≤ l; omega))
      rw [left_ok (Nat.le_of_not_lt h1)] at hcc
      have HCC := hide hcc
      clear hcc
      go_enter Tryz.func79, Tryz.ntmps79
      go_wp2_with fail
      refine (unhide HCC).mono ?_
      rintro e w1 ⟨rfl, hb1⟩
      have HB := below_then (Below.alloc (Below.refl w.heap.size w) (Nat.le_refl _) (Obj.cells #[.string nm, .slice A ls.length c] 134)) (by simp) hb1
      clear hb1
      go_wp2_with fail
      go_ret
      exact ⟨ret_int (by rw [HQ.out]; show _ = ((l - (nm.size + linesTot ls) : Nat) : Int); omega), HB⟩

set_option maxRecDepth 100000 in
set_option maxHeartbeats 1000000 in
theorem szModuleS_calls (A : Option Addr) (c n : Nat) (xs : List ModD) (S : Nat → Prop) (l : Nat) (w : World) (h : Sl kMod w S A xs) (hn : xs.length = n) (hl : n ≤ maxLen) (hs : ∀ x ∈ xs, x.name.size ≤ maxLen ∧ ∀ y ∈ x.lines, y.name.size ≤ maxLen) (hL : l ≤ 1048576) :
    Calls Tryz.prog 34 #[.slice A n c, .int .i64 l] w fun e w' => e = .returned (.int .i64 (left (modsTot xs) l)) ∧ Below w.heap.size w w' := by
  subst hn
  replace hl := mem_maxLen _ hl
  by_cases h0 : l < xs.length
  · have HQ := hide (left_no (show l < modsTot xs by unfold modsTot; omega))
    clear hs
    go_enter Tryz.func34, Tryz.ntmps34
    go_wp2_with fail
    go_ret
    exact ⟨ret_int HQ.out.symm, by (repeat (first | with_reducible exact Below.refl _ _ | with_reducible assumption | with_reducible refine Below.alloc ?_ (by first | exact Nat.le_refl _ | exact Below.size (by assumption) | exact Nat.le_trans (Below.size (by assumption)) (by simp; done) | (simp; done) | (simp; omega) | omega) _ | with_reducible refine below_drewN ?_ _ | with_reducible refine Below.drew ?_ | with_reducible refine Below.setCell ?_ (by first | exact Nat.le_refl _ | (simp; done) | (simp; omega) | omega) _))⟩
  · have hlc : ((l : Int) - (xs.length : Int)) = ((l - xs.length : Nat) : Int) := by omega
    have HS := hide hs
    clear hs
    go_enter Tryz.func34, Tryz.ntmps34
    go_wp2_with fail
    go_loopw [1, 5] (fun t i wr => ∃ (k m : Nat), i = .int .i64 k ∧ k ≤ xs.length ∧ t = .int .i64 m ∧ Hid (m + xs.length + sumOf modTot (xs.take k) = l) ∧ m ≤ 1048576 ∧ Below w.heap.size w wr) (fun _ i _ => xs.length - (intOf i).toNat)
    case atStart => exact ⟨0, l - xs.length, rfl, by omega, by first | rfl | (simp; omega), by have : sumOf modTot (xs.take 0) = 0 := rfl; exact hide (by omega), by omega, Below.refl _ _⟩
    case round =>
      clear hlc
      obtain ⟨k, m, rfl, hk, rfl, HM, hmb, HB⟩ := hrel
      by_cases hlt : k < xs.length
      · have HST := hide (sumOf_take modTot xs k hlt)
        have HSL := hide (sumOf_le modTot xs (k + 1))
        obtain ⟨ad, hA, hc0, A4, c4, hc4, hl4, hm4, hs4⟩ := (h.below HB).get hlt
        subst hA
        have e1 : wr.cell? (ad.add (k * 2)) = some (.string xs[k].name) := hc0.2
        have e2 : wr.cell? ⟨(ad.add (k * 2)).block, (ad.add (k * 2)).off + 1, none⟩ = some (.slice A4 xs[k].lines.length c4) := by have := hc4.2; rwa [add_pos _ _ (by omega)] at this
        have hxs := HS.out xs[k] (List.getElem_mem _)
        have hxl : xs[k].lines.length ≤ maxLen := by omega
        clear hc0 hc4
        generalize xs[k] = x at e1 e2 HST hxs hxl hs4 hl4
        have HXS := hide hxs
        clear hxs
        by_cases hx : m < modTot x
        · have HQ := hide (left_no (show l < modsTot xs by have := HM.out; have := HST.out; have := HSL.out; unfold modsTot; omega))
          have HX := hide (left_no hx)
          go_wp2_with fail
          refine (szModule_calls A4 c4 x _ m _ hs4 hxl HXS.out.1 HXS.out.2 hmb).mono ?_
          rw [HX.out]
          rintro e w1 ⟨rfl, hb1⟩
          replace HB := below_then HB HB.size hb1
          clear hb1 e1 e2
          go_wp2_with fail
          go_ret
          exact ⟨ret_int HQ.out.symm, HB⟩
        · have HX := hide (left_ok (Nat.le_of_not_lt hx))
          go_wp2_with fail
          refine (szModule_calls A4 c4 x _ m _ hs4 hxl HXS.out.1 HXS.out.2 hmb).mono ?_
          rw [HX.out]
          rintro e w1 ⟨rfl, hb1⟩
          replace HB := below_then HB HB.size hb1
          clear hb1 e1 e2
          go_wp2_with fail
          go_round
          case rel => exact ⟨k + 1, m - modTot x, by go_num, by omega, rfl, hide (by have := HM.out; have := HST.out; omega), by omega, HB⟩
          case measure => simp [intOf]; omega
      · obtain rfl : k = xs.length := by omega
        have hm := HM.out
        rw [List.take_length] at hm
        have HQ := hide (show left (modsTot xs) l = (m : Int) by rw [left_ok (by unfold modsTot; omega)]; unfold modsTot; omega)
        clear hm
        go_wp2_with fail
        go_ret
        exact ⟨ret_int HQ.out.symm, HB⟩

structure WMax (D : WorldD) : Prop where
  r : ∀ x ∈ D.roots, x.size ≤ maxLen
  m : ∀ x ∈ D.mods, x.name.size ≤ maxLen ∧ ∀ y ∈ x.lines, y.name.size ≤ maxLen
theorem WIn.lens {w : World} {S : Nat → Prop} {vR vM vF : Value} {D : WorldD} (h : WIn w S vR vM vF D) : D.roots.length ≤ maxLen ∧ D.mods.length ≤ maxLen ∧ D.faults.length ≤ maxLen := by
  obtain ⟨⟨_, _, _, h1, h2, _⟩, ⟨_, _, _, h3, h4, _⟩, ⟨_, _, _, h5, h6, _⟩⟩ := h
  exact ⟨by omega, by omega, by omega⟩
theorem worldTot_sz {D : WorldD} (h : worldTot D ≤ 1048576) : WSz D ∧ D.roots.length ≤ 1048576 ∧ D.mods.length ≤ 1048576 ∧ D.faults.length ≤ 1048576 ∧ ∀ m ∈ D.mods, m.lines.length ≤ 1048576 := by
  unfold worldTot modsTot at h
  have hs : ∀ {xs : List Str} {x : Str}, x ∈ xs → x.size ≤ strsSize xs := by
    intro xs x hx
    induction xs with
    | nil => simp at hx
    | cons y r ih =>
      rcases List.mem_cons.1 hx with hx | hx
      · subst hx; simp [strsSize]
      · have := ih hx; simp only [strsSize]; omega
  have hmt : ∀ x ∈ D.mods, modTot x ≤ 1048576 := fun x hx => by have := sumOf_mem (f := modTot) hx; omega
  refine ⟨⟨fun x hx => by have := hs hx; omega, fun x hx => ?_, fun x hx y hy => ?_⟩, by omega, by omega, by omega, fun m hm => ?_⟩
  · have := hmt x hx; unfold modTot at this; omega
  · have := hmt x hx
    have := sumOf_mem (f := fun l : LineD => l.name.size) hy
    unfold modTot linesTot at *
    have : y.name.size ≤ sumOf (fun l : LineD => l.name.size) x.lines := this
    omega
  · have := hmt m hm
    unfold modTot linesTot at this; omega

set_option maxRecDepth 100000 in
set_option maxHeartbeats 1000000 in
theorem szWorld_calls (D : WorldD) (vR vM vF : Value) (S : Nat → Prop) (l : Nat) (w : World) (h : WIn w S vR vM vF D) (hz : WMax D) (hL : l ≤ 1048576) :
    Calls Tryz.prog 13 #[.agg #[vR, vM, vF], .int .i64 l] w fun e w' => e = .returned (.int .i64 (left (worldTot D) l)) ∧ Below w.heap.size w w' := by
  have hlen := h.lens
  obtain ⟨⟨A1, c1, rfl, hc1, hd1, hR⟩, ⟨A2, c2, rfl, hc2, hd2, hM⟩, ⟨A3, c3, rfl, hc3, hd3, hF⟩⟩ := h
  have HL := hide hlen
  have HZ := hide hz
  clear hlen hz
  have hb0 : Below w.heap.size w (w.alloc (Obj.cells #[.slice A1 D.roots.length c1, .slice A2 D.mods.length c2, .slice A3 D.faults.length c3] 43)) := by (repeat (first | with_reducible exact Below.refl _ _ | with_reducible assumption | with_reducible refine Below.alloc ?_ (by first | exact Nat.le_refl _ | exact Below.size (by assumption) | exact Nat.le_trans (Below.size (by assumption)) (by simp; done) | (simp; done) | (simp; omega) | omega) _ | with_reducible refine below_drewN ?_ _ | with_reducible refine Below.drew ?_ | with_reducible refine Below.setCell ?_ (by first | exact Nat.le_refl _ | (simp; done) | (simp; omega) | omega) _))
  have hcr := szStringS_calls A1 c1 D.roots.length D.roots S l (w.alloc (Obj.cells #[.slice A1 D.roots.length c1, .slice A2 D.mods.length c2, .slice A3 D.faults.length c3] 43)) (hR.below hb0) rfl HL.out.1 HZ.out.r hL
  by_cases h0 : l < D.roots.length + strsSize D.roots
  · have HQ := hide (left_no (show l < worldTot D by unfold worldTot; omega))
    rw [left_no h0] at hcr
    have HCR := hide hcr
    clear hcr
    go_enter Tryz.func13, Tryz.ntmps13
    go_wp2_with fail
    refine (unhide HCR).mono ?_
    rintro e w1 ⟨rfl, rfl⟩
    go_wp2_with fail
    go_ret
    exact ⟨ret_int HQ.out.symm, hb0⟩
  rw [left_ok (Nat.le_of_not_lt h0)] at hcr
  have HCR := hide hcr
  clear hcr
  obtain ⟨l1, hl1⟩ : ∃ l1, l - (D.roots.length + strsSize D.roots) = l1 := ⟨_, rfl⟩
  rw [hl1] at HCR
  have hcm := szModuleS_calls A2 c2 D.mods.length D.mods S l1 _ (hM.below hb0) rfl HL.out.2.1 HZ.out.m (by omega)
  by_cases h1 : l1 < modsTot D.mods
  · have HQ := hide (left_no (show l < worldTot D by unfold worldTot; omega))
    rw [left_no h1] at hcm
    have HCM := hide hcm
    clear hcm hl1
    go_enter Tryz.func13, Tryz.ntmps13
    go_wp2_with fail
    refine (unhide HCR).mono ?_
    rintro e w1 ⟨rfl, rfl⟩
    go_wp2_with fail
    refine (unhide HCM).mono ?_
    rintro e w2 ⟨rfl, hb2⟩
    have HB := below_then hb0 hb0.size hb2
    clear hb2
    go_wp2_with fail
    go_ret
    exact ⟨ret_int HQ.out.symm, HB⟩
  rw [left_ok (Nat.le_of_not_lt h1)] at hcm
  have HCM := hide hcm
  clear hcm
  obtain ⟨l2, hl2⟩ : ∃ l2, l1 - modsTot D.mods = l2 := ⟨_, rfl⟩
  rw [hl2] at HCM
  have hcf := fun w' : World => szIntS_calls A3 c3 D.faults.length l2 w' HL.out.2.2 (by omega)
  have hq : left (worldTot D) l = left D.faults.length l2 := by
    unfold left worldTot
    by_cases h2 : D.faults.length ≤ l2
    · rw [if_pos (by omega), if_pos h2]; omega
    · rw [if_neg (by omega), if_neg h2]
  have HQ := hide hq
  rw [← HQ.out] at hcf
  have HCF := hide hcf
  clear hcf hq hl1 hl2
  generalize left (worldTot D) l = r at *
  by_cases hr : r < 0
  all_goals
    go_enter Tryz.func13, Tryz.ntmps13
    go_wp2_with fail
    refine (unhide HCR).mono ?_
    rintro e w1 ⟨rfl, rfl⟩
    go_wp2_with fail
    refine (unhide HCM).mono ?_
    rintro e w2 ⟨rfl, hb2⟩
    have HB := below_then hb0 hb0.size hb2
    have k2 : w2.cell? ⟨w.heap.size, 2, none⟩ = some _ := blk_cell (blk_new hb2) 2
    clear hb2
    go_wp2_with fail
    refine (HCF.out _).mono ?_
    rintro e w3 ⟨rfl, hb3⟩
    replace HB := below_then HB HB.size hb3
    clear hb3
    go_wp2_with fail
    go_ret
    exact ⟨by first | rfl | exact ret_int (by have := HQ.out; unfold left at this; split at this <;> omega), HB⟩
end Go.Proofs.YtkhlicmlnjccdaaGreatDoor
