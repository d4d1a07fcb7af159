/-
  Walks: a line is as the table says, for the program and for the reference.
-/
import Derived.Test.YtkhlicmlnjccdaaGreatDoorProg
import Derived.Test.YtkhlicmlnjccdaaGreatDoorKt5
import Derived.WalkKit
import Derived.WalkSpells
import Derived.WalkLawsBesides
import Derived.Outline
import Derived.Deep.QuietTactic
import Derived.BigQuiet
namespace Go.Proofs.YtkhlicmlnjccdaaGreatDoor
open Go.RowKit Mem

theorem toList_nil {s : Str} : s.toList = [] ↔ s = ⟨#[]⟩ := by
  rw [toList_data']
  exact ⟨fun h => by cases s; simp_all, fun h => by rw [h]⟩
theorem size_le (s : Str) (n : Nat) : ((s.size : Nat) : Int) ≤ (n : Int) ↔ s.size ≤ n := by omega

set_option maxRecDepth 100000 in
set_option maxHeartbeats 2000000 in
theorem lineOk_calls (l : LineD) (b : Int) (w : World) :
    Calls Tryz.prog 58 #[.agg #[.int .i64 l.op, .string l.name, .int .i64 l.num, .int .i64 l.skip], .int .i64 b] w fun e w' => e = .returned (.bool (Wd.lineOk l b)) ∧ Below w.heap.size w w' := by
  obtain ⟨op, name, num, skip⟩ := l
  generalize hr : Wd.lineOk ⟨op, name, num, skip⟩ b = r
  have HR := hide hr
  clear hr
  by_cases h1 : op = 1
  · subst h1
    go_enter Tryz.func58, Tryz.ntmps58
    go_wp2_with fail
    all_goals
      go_ret
      refine ⟨ret_bool ?_, by (repeat (first | with_reducible exact Below.refl _ _ | with_reducible assumption | with_reducible refine Below.alloc ?_ (by first | exact Nat.le_refl _ | exact Below.size (by assumption) | exact Nat.le_trans (Below.size (by assumption)) (by simp; done) | (simp; done) | (simp; omega) | omega) _ | with_reducible refine below_drewN ?_ _ | with_reducible refine Below.drew ?_ | with_reducible refine Below.setCell ?_ (by first | exact Nat.le_refl _ | (simp; done) | (simp; omega) | omega) _))⟩
      rw [← HR.out]
      clear HR
      (try simp only [toList_nil] at *)
      rw [Bool.eq_iff_iff]
      (try simp [Wd.lineOk, *])
      all_goals (try omega)
  by_cases h2 : op = 2
  · subst h2
    go_enter Tryz.func58, Tryz.ntmps58
    go_wp2_with fail
    all_goals
      go_ret
      refine ⟨ret_bool ?_, by (repeat (first | with_reducible exact Below.refl _ _ | with_reducible assumption | with_reducible refine Below.alloc ?_ (by first | exact Nat.le_refl _ | exact Below.size (by assumption) | exact Nat.le_trans (Below.size (by assumption)) (by simp; done) | (simp; done) | (simp; omega) | omega) _ | with_reducible refine below_drewN ?_ _ | with_reducible refine Below.drew ?_ | with_reducible refine Below.setCell ?_ (by first | exact Nat.le_refl _ | (simp; done) | (simp; omega) | omega) _))⟩
      rw [← HR.out]
      clear HR
      (try simp only [toList_nil] at *)
      rw [Bool.eq_iff_iff]
      (try simp [Wd.lineOk, *])
      all_goals (try omega)
  by_cases h3 : op = 3
  · subst h3
    go_enter Tryz.func58, Tryz.ntmps58
    go_wp2_with fail
    all_goals
      go_ret
      refine ⟨ret_bool ?_, by (repeat (first | with_reducible exact Below.refl _ _ | with_reducible assumption | with_reducible refine Below.alloc ?_ (by first | exact Nat.le_refl _ | exact Below.size (by assumption) | exact Nat.le_trans (Below.size (by assumption)) (by simp; done) | (simp; done) | (simp; omega) | omega) _ | with_reducible refine below_drewN ?_ _ | with_reducible refine Below.drew ?_ | with_reducible refine Below.setCell ?_ (by first | exact Nat.le_refl _ | (simp; done) | (simp; omega) | omega) _))⟩
      rw [← HR.out]
      clear HR
      (try simp only [toList_nil] at *)
      rw [Bool.eq_iff_iff]
      (try simp [Wd.lineOk, *])
      all_goals (try omega)
  by_cases h4 : op = 4
  · subst h4
    go_enter Tryz.func58, Tryz.ntmps58
    go_wp2_with fail
    all_goals
      go_ret
      refine ⟨ret_bool ?_, by (repeat (first | with_reducible exact Below.refl _ _ | with_reducible assumption | with_reducible refine Below.alloc ?_ (by first | exact Nat.le_refl _ | exact Below.size (by assumption) | exact Nat.le_trans (Below.size (by assumption)) (by simp; done) | (simp; done) | (simp; omega) | omega) _ | with_reducible refine below_drewN ?_ _ | with_reducible refine Below.drew ?_ | with_reducible refine Below.setCell ?_ (by first | exact Nat.le_refl _ | (simp; done) | (simp; omega) | omega) _))⟩
      rw [← HR.out]
      clear HR
      (try simp only [toList_nil] at *)
      rw [Bool.eq_iff_iff]
      (try simp [Wd.lineOk, *])
      all_goals (try omega)
  by_cases h5 : op = 5
  · subst h5
    go_enter Tryz.func58, Tryz.ntmps58
    go_wp2_with fail
    all_goals
      go_ret
      refine ⟨ret_bool ?_, by (repeat (first | with_reducible exact Below.refl _ _ | with_reducible assumption | with_reducible refine Below.alloc ?_ (by first | exact Nat.le_refl _ | exact Below.size (by assumption) | exact Nat.le_trans (Below.size (by assumption)) (by simp; done) | (simp; done) | (simp; omega) | omega) _ | with_reducible refine below_drewN ?_ _ | with_reducible refine Below.drew ?_ | with_reducible refine Below.setCell ?_ (by first | exact Nat.le_refl _ | (simp; done) | (simp; omega) | omega) _))⟩
      rw [← HR.out]
      clear HR
      (try simp only [toList_nil] at *)
      rw [Bool.eq_iff_iff]
      (try simp [Wd.lineOk, *])
      all_goals (try omega)
  by_cases h6 : op = 6
  · subst h6
    go_enter Tryz.func58, Tryz.ntmps58
    go_wp2_with fail
    all_goals
      go_ret
      refine ⟨ret_bool ?_, by (repeat (first | with_reducible exact Below.refl _ _ | with_reducible assumption | with_reducible refine Below.alloc ?_ (by first | exact Nat.le_refl _ | exact Below.size (by assumption) | exact Nat.le_trans (Below.size (by assumption)) (by simp; done) | (simp; done) | (simp; omega) | omega) _ | with_reducible refine below_drewN ?_ _ | with_reducible refine Below.drew ?_ | with_reducible refine Below.setCell ?_ (by first | exact Nat.le_refl _ | (simp; done) | (simp; omega) | omega) _))⟩
      rw [← HR.out]
      clear HR
      (try simp only [toList_nil] at *)
      rw [Bool.eq_iff_iff]
      (try simp [Wd.lineOk, *])
      all_goals (try omega)
  by_cases h7 : op = 7
  · subst h7
    go_enter Tryz.func58, Tryz.ntmps58
    go_wp2_with fail
    all_goals
      go_ret
      refine ⟨ret_bool ?_, by (repeat (first | with_reducible exact Below.refl _ _ | with_reducible assumption | with_reducible refine Below.alloc ?_ (by first | exact Nat.le_refl _ | exact Below.size (by assumption) | exact Nat.le_trans (Below.size (by assumption)) (by simp; done) | (simp; done) | (simp; omega) | omega) _ | with_reducible refine below_drewN ?_ _ | with_reducible refine Below.drew ?_ | with_reducible refine Below.setCell ?_ (by first | exact Nat.le_refl _ | (simp; done) | (simp; omega) | omega) _))⟩
      rw [← HR.out]
      clear HR
      (try simp only [toList_nil] at *)
      rw [Bool.eq_iff_iff]
      (try simp [Wd.lineOk, *])
      all_goals (try omega)
  have b1 : (op == 1) = false := by simpa using h1
  have b2 : (op == 2) = false := by simpa using h2
  have b3 : (op == 3) = false := by simpa using h3
  have b4 : (op == 4) = false := by simpa using h4
  have b5 : (op == 5) = false := by simpa using h5
  have b6 : (op == 6) = false := by simpa using h6
  have b7 : (op == 7) = false := by simpa using h7
  have H1 := hide h1
  clear h1
  have H2 := hide h2
  clear h2
  have H3 := hide h3
  clear h3
  have H4 := hide h4
  clear h4
  have H5 := hide h5
  clear h5
  have H6 := hide h6
  clear h6
  have H7 := hide h7
  clear h7
  go_enter Tryz.func58, Tryz.ntmps58
  go_wp2_with fail
  go_ret
  refine ⟨ret_bool ?_, by (repeat (first | with_reducible exact Below.refl _ _ | with_reducible assumption | with_reducible refine Below.alloc ?_ (by first | exact Nat.le_refl _ | exact Below.size (by assumption) | exact Nat.le_trans (Below.size (by assumption)) (by simp; done) | (simp; done) | (simp; omega) | omega) _ | with_reducible refine below_drewN ?_ _ | with_reducible refine Below.drew ?_ | with_reducible refine Below.setCell ?_ (by first | exact Nat.le_refl _ | (simp; done) | (simp; omega) | omega) _))⟩
  rw [← HR.out]
  simp [Wd.lineOk, H1.out, H2.out, H3.out, H4.out, H5.out, H6.out, H7.out]

theorem mem_maxLen (n : Nat) (h : n ≤ maxLen) : n ≤ 9223372036854775807 := by unfold maxLen at h; omega
set_option maxRecDepth 100000 in
set_option maxHeartbeats 4000000 in
theorem l2line_calls (nm : Str) (A : Option Addr) (n c : Nat) (l : LineD) (i : Nat) (w : World) (hn : n ≤ maxLen) (hi : i < n) :
    Calls Tryz.prog 60 #[.agg #[.string nm, .slice A n c], .agg #[.int .i64 l.op, .string l.name, .int .i64 l.num, .int .i64 l.skip], .int .i64 i] w fun e w' => e = .returned (.bool (Wd.lineOk l (n - i - 1))) ∧ Below w.heap.size w w' := by
  obtain ⟨op, name, num, skip⟩ := l
  have hn' := mem_maxLen n hn
  clear hn
  have HZ := hide (show name = ⟨#[]⟩ → name.size = 0 from fun e => by rw [e]; rfl)
  generalize hr : Wd.lineOk ⟨op, name, num, skip⟩ (n - i - 1) = r
  have HR := hide hr
  clear hr
  by_cases h1 : op = 1
  · subst h1
    go_enter Tryz.func60, Tryz.ntmps60
    go_wp2_with fail
    all_goals
      go_ret
      refine ⟨ret_bool ?_, by (repeat (first | with_reducible exact Below.refl _ _ | with_reducible assumption | with_reducible refine Below.alloc ?_ (by first | exact Nat.le_refl _ | exact Below.size (by assumption) | exact Nat.le_trans (Below.size (by assumption)) (by simp; done) | (simp; done) | (simp; omega) | omega) _ | with_reducible refine below_drewN ?_ _ | with_reducible refine Below.drew ?_ | with_reducible refine Below.setCell ?_ (by first | exact Nat.le_refl _ | (simp; done) | (simp; omega) | omega) _))⟩
      rw [← HR.out]
      clear HR
      (try simp only [toList_nil] at *)
      rw [Bool.eq_iff_iff]
      (try simp [Wd.lineOk, *])
      all_goals (first | omega | (have := HZ.out (by assumption); omega))
  by_cases h2 : op = 2
  · subst h2
    go_enter Tryz.func60, Tryz.ntmps60
    go_wp2_with fail
    all_goals
      go_ret
      refine ⟨ret_bool ?_, by (repeat (first | with_reducible exact Below.refl _ _ | with_reducible assumption | with_reducible refine Below.alloc ?_ (by first | exact Nat.le_refl _ | exact Below.size (by assumption) | exact Nat.le_trans (Below.size (by assumption)) (by simp; done) | (simp; done) | (simp; omega) | omega) _ | with_reducible refine below_drewN ?_ _ | with_reducible refine Below.drew ?_ | with_reducible refine Below.setCell ?_ (by first | exact Nat.le_refl _ | (simp; done) | (simp; omega) | omega) _))⟩
      rw [← HR.out]
      clear HR
      (try simp only [toList_nil] at *)
      rw [Bool.eq_iff_iff]
      (try simp [Wd.lineOk, *])
      all_goals (first | omega | (have := HZ.out (by assumption); omega))
  by_cases h3 : op = 3
  · subst h3
    go_enter Tryz.func60, Tryz.ntmps60
    go_wp2_with fail
    all_goals
      go_ret
      refine ⟨ret_bool ?_, by (repeat (first | with_reducible exact Below.refl _ _ | with_reducible assumption | with_reducible refine Below.alloc ?_ (by first | exact Nat.le_refl _ | exact Below.size (by assumption) | exact Nat.le_trans (Below.size (by assumption)) (by simp; done) | (simp; done) | (simp; omega) | omega) _ | with_reducible refine below_drewN ?_ _ | with_reducible refine Below.drew ?_ | with_reducible refine Below.setCell ?_ (by first | exact Nat.le_refl _ | (simp; done) | (simp; omega) | omega) _))⟩
      rw [← HR.out]
      clear HR
      (try simp only [toList_nil] at *)
      rw [Bool.eq_iff_iff]
      (try simp [Wd.lineOk, *])
      all_goals (first | omega | (have := HZ.out (by assumption); omega))
  by_cases h4 : op = 4
  · subst h4
    go_enter Tryz.func60, Tryz.ntmps60
    go_wp2_with fail
    all_goals
      go_ret
      refine ⟨ret_bool ?_, by (repeat (first | with_reducible exact Below.refl _ _ | with_reducible assumption | with_reducible refine Below.alloc ?_ (by first | exact Nat.le_refl _ | exact Below.size (by assumption) | exact Nat.le_trans (Below.size (by assumption)) (by simp; done) | (simp; done) | (simp; omega) | omega) _ | with_reducible refine below_drewN ?_ _ | with_reducible refine Below.drew ?_ | with_reducible refine Below.setCell ?_ (by first | exact Nat.le_refl _ | (simp; done) | (simp; omega) | omega) _))⟩
      rw [← HR.out]
      clear HR
      (try simp only [toList_nil] at *)
      rw [Bool.eq_iff_iff]
      (try simp [Wd.lineOk, *])
      all_goals (first | omega | (have := HZ.out (by assumption); omega))
  by_cases h5 : op = 5
  · subst h5
    go_enter Tryz.func60, Tryz.ntmps60
    go_wp2_with fail
    all_goals
      go_ret
      refine ⟨ret_bool ?_, by (repeat (first | with_reducible exact Below.refl _ _ | with_reducible assumption | with_reducible refine Below.alloc ?_ (by first | exact Nat.le_refl _ | exact Below.size (by assumption) | exact Nat.le_trans (Below.size (by assumption)) (by simp; done) | (simp; done) | (simp; omega) | omega) _ | with_reducible refine below_drewN ?_ _ | with_reducible refine Below.drew ?_ | with_reducible refine Below.setCell ?_ (by first | exact Nat.le_refl _ | (simp; done) | (simp; omega) | omega) _))⟩
      rw [← HR.out]
      clear HR
      (try simp only [toList_nil] at *)
      rw [Bool.eq_iff_iff]
      (try simp [Wd.lineOk, *])
      all_goals (first | omega | (have := HZ.out (by assumption); omega))
  by_cases h6 : op = 6
  · subst h6
    go_enter Tryz.func60, Tryz.ntmps60
    go_wp2_with fail
    all_goals
      go_ret
      refine ⟨ret_bool ?_, by (repeat (first | with_reducible exact Below.refl _ _ | with_reducible assumption | with_reducible refine Below.alloc ?_ (by first | exact Nat.le_refl _ | exact Below.size (by assumption) | exact Nat.le_trans (Below.size (by assumption)) (by simp; done) | (simp; done) | (simp; omega) | omega) _ | with_reducible refine below_drewN ?_ _ | with_reducible refine Below.drew ?_ | with_reducible refine Below.setCell ?_ (by first | exact Nat.le_refl _ | (simp; done) | (simp; omega) | omega) _))⟩
      rw [← HR.out]
      clear HR
      (try simp only [toList_nil] at *)
      rw [Bool.eq_iff_iff]
      (try simp [Wd.lineOk, *])
      all_goals (first | omega | (have := HZ.out (by assumption); omega))
  by_cases h7 : op = 7
  · subst h7
    go_enter Tryz.func60, Tryz.ntmps60
    go_wp2_with fail
    all_goals
      go_ret
      refine ⟨ret_bool ?_, by (repeat (first | with_reducible exact Below.refl _ _ | with_reducible assumption | with_reducible refine Below.alloc ?_ (by first | exact Nat.le_refl _ | exact Below.size (by assumption) | exact Nat.le_trans (Below.size (by assumption)) (by simp; done) | (simp; done) | (simp; omega) | omega) _ | with_reducible refine below_drewN ?_ _ | with_reducible refine Below.drew ?_ | with_reducible refine Below.setCell ?_ (by first | exact Nat.le_refl _ | (simp; done) | (simp; omega) | omega) _))⟩
      rw [← HR.out]
      clear HR
      (try simp only [toList_nil] at *)
      rw [Bool.eq_iff_iff]
      (try simp [Wd.lineOk, *])
      all_goals (first | omega | (have := HZ.out (by assumption); omega))
  have b1 : (op == 1) = false := by simpa using h1
  have b2 : (op == 2) = false := by simpa using h2
  have b3 : (op == 3) = false := by simpa using h3
  have b4 : (op == 4) = false := by simpa using h4
  have b5 : (op == 5) = false := by simpa using h5
  have b6 : (op == 6) = false := by simpa using h6
  have b7 : (op == 7) = false := by simpa using h7
  have H1 := hide h1
  clear h1
  have H2 := hide h2
  clear h2
  have H3 := hide h3
  clear h3
  have H4 := hide h4
  clear h4
  have H5 := hide h5
  clear h5
  have H6 := hide h6
  clear h6
  have H7 := hide h7
  clear h7
  have hq : Wd.lineOk ⟨op, name, num, skip⟩ (n - i - 1) = false := by simp [Wd.lineOk, H1.out, H2.out, H3.out, H4.out, H5.out, H6.out, H7.out]
  have hc : op < 1 ∨ (decide (op < 1) = false ∧ 7 < op) := by
    have := H1.out; have := H2.out; have := H3.out; have := H4.out; have := H5.out; have := H6.out; have := H7.out
    rcases Int.lt_or_le op 1 with h | h
    · exact .inl h
    · exact .inr ⟨by simp; omega, by omega⟩
  have HQ := hide hq
  clear hq
  rcases hc with hc | ⟨hc, hc2⟩
  all_goals
    go_enter Tryz.func60, Tryz.ntmps60
    go_wp2_with fail
    go_ret
    exact ⟨ret_bool (by rw [← HR.out, HQ.out]), by (repeat (first | with_reducible exact Below.refl _ _ | with_reducible assumption | with_reducible refine Below.alloc ?_ (by first | exact Nat.le_refl _ | exact Below.size (by assumption) | exact Nat.le_trans (Below.size (by assumption)) (by simp; done) | (simp; done) | (simp; omega) | omega) _ | with_reducible refine below_drewN ?_ _ | with_reducible refine Below.drew ?_ | with_reducible refine Below.setCell ?_ (by first | exact Nat.le_refl _ | (simp; done) | (simp; omega) | omega) _))⟩
end Go.Proofs.YtkhlicmlnjccdaaGreatDoor
