/-
Walks: eqNamed.
Walk: the laws' comparison of two lists of texts (wTexts).
Walks: an append at a step of a region that draws.
Walks: an answer of WorldOk compared with the one of a good world.
-/
import Derived.Test.YtkhlicmlnjccdaaDoorKd1
import Derived.Test.YtkhlicmlnjccdaaDoorKd2
import Derived.Deep.RegionLaw
import Derived.Deep.DrawnRows
import Derived.Test.YtkhlicmlnjccdaaDoorProg
import Derived.Laws.StructEq
namespace Go.Proofs.YtkhlicmlnjccdaaDoor
open Go.RowKit Mem

set_option maxHeartbeats 400000 in
theorem eqNamed_calls (c1 c2 : Int) (s1 s2 : Str) (w : World) :
    Calls Tryd.prog 19 #[.agg #[.int .i64 c1, .string s1], .agg #[.int .i64 c2, .string s2]] w fun e w' => e = .returned (.bool (decide (c1 = c2 ∧ s1 = s2))) ∧ Below w.heap.size w w' := by
  by_cases hc : c1 = c2
  · subst hc
    by_cases hs : s1 = s2
    · subst hs
      go_enter Tryd.func19, Tryd.ntmps19
      go_wp2
      go_ret
      exact ⟨by simp, by (repeat (first | with_reducible exact Below.refl _ _ | with_reducible assumption | with_reducible refine Below.alloc ?_ (by first | exact Nat.le_refl _ | exact Below.size (by assumption) | exact Nat.le_trans (Below.size (by assumption)) (by simp; done) | (simp; done) | (simp; omega) | omega) _ | with_reducible refine below_drewN ?_ _ | with_reducible refine Below.drew ?_ | with_reducible refine Below.setCell ?_ (by first | exact Nat.le_refl _ | (simp; done) | (simp; omega) | omega) _))⟩
    · have hb := nbeq_f hs
      have HS := hide hs
      clear hs
      go_enter Tryd.func19, Tryd.ntmps19
      go_wp2
      go_ret
      exact ⟨by simp [HS.out], by (repeat (first | with_reducible exact Below.refl _ _ | with_reducible assumption | with_reducible refine Below.alloc ?_ (by first | exact Nat.le_refl _ | exact Below.size (by assumption) | exact Nat.le_trans (Below.size (by assumption)) (by simp; done) | (simp; done) | (simp; omega) | omega) _ | with_reducible refine below_drewN ?_ _ | with_reducible refine Below.drew ?_ | with_reducible refine Below.setCell ?_ (by first | exact Nat.le_refl _ | (simp; done) | (simp; omega) | omega) _))⟩
  · have hb : (c1 != c2) = true := by simpa using hc
    have HC := hide hc
    clear hc
    go_enter Tryd.func19, Tryd.ntmps19
    go_wp2
    go_ret
    exact ⟨by simp [HC.out], by (repeat (first | with_reducible exact Below.refl _ _ | with_reducible assumption | with_reducible refine Below.alloc ?_ (by first | exact Nat.le_refl _ | exact Below.size (by assumption) | exact Nat.le_trans (Below.size (by assumption)) (by simp; done) | (simp; done) | (simp; omega) | omega) _ | with_reducible refine below_drewN ?_ _ | with_reducible refine Below.drew ?_ | with_reducible refine Below.setCell ?_ (by first | exact Nat.le_refl _ | (simp; done) | (simp; omega) | omega) _))⟩

theorem eqNamed_same (c : Int) (s : Str) (w : World) :
    Calls Tryd.prog 19 #[.agg #[.int .i64 c, .string s], .agg #[.int .i64 c, .string s]] w fun e w' => e = .returned (.bool true) ∧ Below w.heap.size w w' :=
  (eqNamed_calls c c s s w).mono fun e w' h => ⟨by simpa using h.1, h.2⟩

end Go.Proofs.YtkhlicmlnjccdaaDoor

namespace Go.Proofs.YtkhlicmlnjccdaaDoor
open Go.RowKit Mem

set_option maxHeartbeats 400000 in
theorem wTexts_calls (A B : Option Addr) (c d : Nat) (xs ys : List Str) (w : World) (S T : Nat → Prop) (h1 : Sl kStr w S A xs) (h2 : Sl kStr w T B ys) (hl : xs.length ≤ maxLen) (hl2 : ys.length ≤ maxLen) :
    Calls Tryd.prog 35 #[.slice A xs.length c, .slice B ys.length d] w fun e w' => e = .returned (.bool (decide (xs = ys))) ∧ ∃ n, w' = w.drewN n := by
  unfold maxLen at hl hl2
  by_cases hn : xs.length = ys.length
  · have hn' : ((xs.length : Int) != (ys.length : Int)) = false := by rw [hn]; simp
    have HN := hide hn
    clear hn
    go_enter Tryd.func35, Tryd.ntmps35
    go_wp2
    go_loopw [5, 13] (fun _ i wr => ∃ k : Nat, i = .int .i64 k ∧ k ≤ xs.length ∧ (∀ j, j < k → xs[j]? = ys[j]?) ∧ ∃ n, wr = w.drewN n) (fun _ i _ => xs.length - (intOf i).toNat)
    case atStart => exact ⟨0, rfl, by omega, fun j hj => absurd hj (by omega), 0, rfl⟩
    case round =>
      obtain ⟨k, rfl, hk, hE, n, rfl⟩ := hrel
      have HE := hide hE
      clear hE
      by_cases hlt : k < xs.length
      · have hlt2 : k < ys.length := by have := HN.out; omega
        obtain ⟨ad, rfl, hc1⟩ := h1.get hlt
        obtain ⟨bd, rfl, hc2⟩ := h2.get hlt2
        have e1 : w.cell? (ad.add k) = some (.string xs[k]) := by simpa [kStr] using hc1.2
        have e2 : w.cell? (bd.add k) = some (.string ys[k]) := by simpa [kStr] using hc2.2
        clear hc1 hc2 h1 h2
        by_cases he : xs[k] = ys[k]
        · have hb := nbeq_t he
          have HX := hide he
          clear he
          go_wp2
          go_quiet (fail)
          go_wp2
          go_roundw
          case rel =>
            refine ⟨k + 1, by go_num, by omega, fun j hj => ?_, by (first | exact ⟨_, rfl⟩ | exact ⟨_, World.drewN_drewN ..⟩ | exact ⟨0, rfl⟩)⟩
            rcases Nat.lt_or_ge j k with h | h
            · exact HE.out j h
            · obtain rfl : j = k := by omega
              rw [List.getElem?_eq_getElem hlt, List.getElem?_eq_getElem hlt2, HX.out]
          case measure => simp [intOf]; omega
        · have hb := nbeq_f he
          have HX := hide he
          clear he
          go_wp2
          go_quiet (fail)
          go_wp2
          go_ret
          refine ⟨?_, by (first | exact ⟨_, rfl⟩ | exact ⟨_, World.drewN_drewN ..⟩ | exact ⟨0, rfl⟩)⟩
          simp
          intro e; exact HX.out (by subst e; rfl)
      · go_wp2
        go_ret
        refine ⟨?_, _, rfl⟩
        simp
        refine List.ext_getElem? fun j => ?_
        rcases Nat.lt_or_ge j k with h | h
        · exact HE.out j h
        · rw [List.getElem?_eq_none (by omega), List.getElem?_eq_none (by have := HN.out; omega)]
  · have hn' : ((xs.length : Int) != (ys.length : Int)) = true := by simp; omega
    have HN := hide hn
    clear hn
    go_enter Tryd.func35, Tryd.ntmps35
    go_wp2
    go_ret
    refine ⟨?_, by (first | exact ⟨_, rfl⟩ | exact ⟨_, World.drewN_drewN ..⟩ | exact ⟨0, rfl⟩)⟩
    simp
    intro e; exact HN.out (by rw [e])

theorem wTexts_same (A B : Option Addr) (c d n : Nat) (xs : List Str) (w : World) (S T : Nat → Prop) (h1 : Sl kStr w S A xs) (h2 : Sl kStr w T B xs) (hn : xs.length = n) (hl : n ≤ maxLen) :
    Calls Tryd.prog 35 #[.slice A n c, .slice B n d] w fun e w' => e = .returned (.bool true) ∧ ∃ n, w' = w.drewN n := by
  subst hn
  exact (wTexts_calls A B c d xs xs w S T h1 h2 hl hl).mono fun e w' h => ⟨by simpa using h.1, h.2⟩
end Go.Proofs.YtkhlicmlnjccdaaDoor

namespace Go.Proofs.YtkhlicmlnjccdaaDoor
open Go.RowKit Mem
namespace Mem
section
variable {P : Program} {ops : Array Oper} {o : Oper} {a : Act} {K : Act → World → Prop} {Q : Exit → Act → World → Prop} {E : Prop}
/-- append of one element that was built just ahead, at a step of a region that draws -/
theorem step_app {α : Type} (k : Flat α) {W : World} (base : Nat) (hgd : o.guard = none) (s x : Operand) (t e : TypeId) (z : Value) (bytes : Nat)
    (ho : o.op = .call { callee := .builtin .append, args := #[s, x], argTypes := #[t, t] })
    (ht : P.underlying t = some (.slice e)) (hinfo : (P.info? e).map (fun i => (i.zero, i.size, i.bytes)) = some (some z, k.kind.size, bytes)) (hz : z.cells.size = k.kind.size) (hb0 : 0 < bytes)
    (v : Value) (xs : List α) (y : α) (cs : Array Value) (hcs : cs.toList = k.enc y) (hs : a.eval s = v) (g : Nat) (hx : a.eval x = .slice (some ⟨g, 0, none⟩) 1 1)
    (hblk : W.heap[g]? = some (.cells cs e (0, 0))) (HO : Own k W base e v xs) (hbase : base ≤ W.heap.size) (hl : (xs.length + 1) * bytes ≤ 140737488355328)
    (h : ∀ v1 w1, Own k w1 base e v1 (xs ++ [y]) → W.grownBy w1 v.ownBlock → (v1.ownBlock = v.ownBlock ∨ ∃ b, v1.ownBlock = some b ∧ W.heap.size ≤ b) → K (a.put o.dst v1) w1) :
    if Region.wanted o (yielded ops a.tmps) = true then Oper.wp P o a W K Q else E := by
  have hw : Region.wanted o (yielded ops a.tmps) = true := by simp [Region.wanted, hgd]
  rw [if_pos hw]
  obtain ⟨i0, hi, hzz⟩ := Option.map_eq_some_iff.1 hinfo
  simp only [Prod.mk.injEq] at hzz
  obtain ⟨hz0, hz1, hz2⟩ := hzz
  have hlen : xs.length + 1 ≤ 140737488355328 := Nat.le_trans (Nat.le_mul_of_pos_right _ hb0) hl
  obtain ⟨v1, w1, hr, h2, h3, _, h5⟩ := run_append_own_at (P := P) W base t o.type e i0 z k.kind.size bytes ht hi hz0 hz1 hz2 hz k.pos v xs.length (k.all xs) HO ⟨g, 0, none⟩ 1 1 cs.toList (by rw [hcs, k.len, Nat.one_mul])
    (World.news_of_block hblk) (by rw [hcs]; exact k.one y) (by simp only [maxLen]; omega) hl hbase
  unfold Oper.wp execOp
  simp only [ho, resolve, invoke, builtin, Sem.run_bind, Sem.run_pure, Result.andThen_ok, List.map_toArray, List.map_cons, List.map_nil, hs, hx, hr]
  have h6 : Own k w1 base e v1 (xs ++ [y]) := by
    unfold Own
    rw [k.all_append, k.all_one, ← hcs, List.length_append, List.length_singleton]
    exact h2
  exact h v1 w1 h6 h3 (by
    rcases h5 with h5 | h5
    · exact .inl h5
    · exact .inr ⟨_, h5, Nat.le_refl _⟩)
end
end Mem
end Go.Proofs.YtkhlicmlnjccdaaDoor

namespace Go.Proofs.YtkhlicmlnjccdaaDoor
open Go.RowKit Mem
theorem wr_guard : Tryd.prog.eqGuardType Tryd.prog.depth 67 = false := by kernel_rfl
theorem wr_stood : Tryd.prog.stoodInHeld 67 = false := by kernel_rfl
theorem wr_under : Tryd.prog.underlying 67 = some (.struct (Tryd.prog.fieldsOf 67)) := by kernel_rfl
theorem wr_zero (w : World) : (binOp .neq 67 (.agg #[.int .i64 0, .int .i64 0, .int .i64 0]) (.agg #[.int .i64 0, .int .i64 0, .int .i64 0])).run Tryd.prog w = .ok (.bool false) w := by
  rw [run_neq_struct, run_equalIn_agg _ _ _ _ _ wr_under wr_stood]
  simp only [Program.fieldsOf, Tryd.underlying67]
  simp [Op.eqFields, part, go_sem, Tryd.underlying3]
theorem wr_pos {a : Int} (h : a ≠ 0) (b c : Int) (w : World) : (binOp .neq 67 (.agg #[.int .i64 a, .int .i64 b, .int .i64 c]) (.agg #[.int .i64 0, .int .i64 0, .int .i64 0])).run Tryd.prog w = .ok (.bool true) w := by
  rw [run_neq_struct, run_equalIn_agg _ _ _ _ _ wr_under wr_stood]
  simp only [Program.fieldsOf, Tryd.underlying67]
  simp [Op.eqFields, part, go_sem, Tryd.underlying3, h]
end Go.Proofs.YtkhlicmlnjccdaaDoor
