/-
  Walks: the laws' helpers over strings: eqStringS.
-/
import Derived.Test.YtkhlicmlnjccdaaDoorProg
import Derived.Test.YtkhlicmlnjccdaaDoorMem
import Derived.WalkKit
import Derived.WalkSpells
import Derived.WalkLawsBesides
import Derived.Outline
import Derived.Deep.QuietTactic
import Derived.BigQuiet
namespace Go.Proofs.YtkhlicmlnjccdaaDoor
open Go.RowKit Mem

set_option maxHeartbeats 400000 in
theorem eqStringS_calls (A B : Option Addr) (c d : Nat) (xs ys : List Str) (w : World) (S T : Nat → Prop) (h1 : Sl kStr w S A xs) (h2 : Sl kStr w T B ys) (hl : xs.length ≤ maxLen) (hl2 : ys.length ≤ maxLen) :
    Calls Tryd.prog 26 #[.slice A xs.length c, .slice B ys.length d] w fun e w' => e = .returned (.bool (decide (xs = ys))) ∧ ∃ n, w' = w.drewN n := by
  unfold maxLen at hl hl2
  by_cases hn : xs.length = ys.length
  · have hn' : ((xs.length : Int) != (ys.length : Int)) = false := by rw [hn]; simp
    have HN := hide hn
    clear hn
    go_enter Tryd.func26, Tryd.ntmps26
    go_wp2
    go_loopw [5] (fun i wr => ∃ k : Nat, i = .int .i64 k ∧ k ≤ xs.length ∧ (∀ j, j < k → xs[j]? = ys[j]?) ∧ ∃ n, wr = w.drewN n) (fun i _ => xs.length - (intOf i).toNat)
    case atStart => exact ⟨0, rfl, by omega, fun j hj => absurd hj (by omega), 0, rfl⟩
    case round =>
      obtain ⟨k, rfl, hk, hE, n, rfl⟩ := hrel
      have HE := hide hE
      clear hE
      by_cases hlt : k < xs.length
      · have hlt2 : k < ys.length := by have := HN.out; omega
        obtain ⟨ad, rfl, hc1⟩ := h1.get hlt
        obtain ⟨bd, rfl, hc2⟩ := h2.get hlt2
        have e1 : w.cell? (ad.add k) = some (.string xs[k]) := by simpa [kStr] using hc1.2
        have e2 : w.cell? (bd.add k) = some (.string ys[k]) := by simpa [kStr] using hc2.2
        clear hc1 hc2 h1 h2
        by_cases he : xs[k] = ys[k]
        · have hb := nbeq_t he
          have HX := hide he
          clear he
          go_wp2
          go_quiet (fail)
          go_wp2
          go_roundw
          case rel =>
            refine ⟨k + 1, by go_num, by omega, fun j hj => ?_, by (first | exact ⟨_, rfl⟩ | exact ⟨_, World.drewN_drewN ..⟩ | exact ⟨0, rfl⟩)⟩
            rcases Nat.lt_or_ge j k with h | h
            · exact HE.out j h
            · obtain rfl : j = k := by omega
              rw [List.getElem?_eq_getElem hlt, List.getElem?_eq_getElem hlt2, HX.out]
          case measure => simp [intOf]; omega
        · have hb := nbeq_f he
          have HX := hide he
          clear he
          go_wp2
          go_quiet (fail)
          go_wp2
          go_ret
          refine ⟨?_, by (first | exact ⟨_, rfl⟩ | exact ⟨_, World.drewN_drewN ..⟩ | exact ⟨0, rfl⟩)⟩
          simp
          intro e; exact HX.out (by subst e; rfl)
      · go_wp2
        go_ret
        refine ⟨?_, _, rfl⟩
        simp
        refine List.ext_getElem? fun j => ?_
        rcases Nat.lt_or_ge j k with h | h
        · exact HE.out j h
        · rw [List.getElem?_eq_none (by omega), List.getElem?_eq_none (by have := HN.out; omega)]
  · have hn' : ((xs.length : Int) != (ys.length : Int)) = true := by simp; omega
    have HN := hide hn
    clear hn
    go_enter Tryd.func26, Tryd.ntmps26
    go_wp2
    go_ret
    refine ⟨?_, by (first | exact ⟨_, rfl⟩ | exact ⟨_, World.drewN_drewN ..⟩ | exact ⟨0, rfl⟩)⟩
    simp
    intro e; exact HN.out (by rw [e])

theorem eqStringS_same (A B : Option Addr) (c d n : Nat) (xs : List Str) (w : World) (S T : Nat → Prop) (h1 : Sl kStr w S A xs) (h2 : Sl kStr w T B xs) (hn : xs.length = n) (hl : n ≤ maxLen) :
    Calls Tryd.prog 26 #[.slice A n c, .slice B n d] w fun e w' => e = .returned (.bool true) ∧ ∃ n, w' = w.drewN n := by
  subst hn
  exact (eqStringS_calls A B c d xs xs w S T h1 h2 hl hl).mono fun e w' h => ⟨by simpa using h.1, h.2⟩
end Go.Proofs.YtkhlicmlnjccdaaDoor
