/-
Walks: the laws' marks of a world's rows: what they leave alone.
Walks: the laws' marks of a world of one's own: what they leave alone.
Walks: the laws' comparisons, of two things that read alike.
-/
import Derived.Test.YtkhlicmlnjccdaaDoorKexactRing22
import Derived.Test.YtkhlicmlnjccdaaDoorKexactRing15
import Derived.Test.YtkhlicmlnjccdaaDoorKexactRing9
import Derived.StillTailTactics
import Derived.Test.YtkhlicmlnjccdaaDoorKexactRing1
namespace Go.Proofs.YtkhlicmlnjccdaaDoor
open Go.RowKit Mem

namespace Mem
/-- blocks outside [B, N) are as they were; blocks keep their kind and size -/
structure Mk (B N : Nat) (w w' : World) : Prop where
  os : w'.os = w.os
  tape : w'.tape = w.tape
  output : w'.output = w.output
  size : w.heap.size ≤ w'.heap.size
  block : ∀ b, b < w.heap.size → (b < B ∨ N ≤ b) → w'.heap[b]? = w.heap[b]?
  raw : ∀ (b : Nat) (cs : Array Value) (e : TypeId), w.heap[b]? = some (.cells cs e (0, 0)) → ∃ cs' : Array Value, w'.heap[b]? = some (.cells cs' e (0, 0)) ∧ cs'.size = cs.size
theorem Mk.refl (B N : Nat) (w : World) : Mk B N w w := ⟨rfl, rfl, rfl, Nat.le_refl _, fun _ _ _ => rfl, fun _ cs _ h => ⟨cs, h, rfl⟩⟩
theorem Mk.then {B N : Nat} {w w1 w2 : World} (h : Mk B N w w1) (k : Mk B N w1 w2) : Mk B N w w2 :=
  ⟨k.os.trans h.os, k.tape.trans h.tape, k.output.trans h.output, Nat.le_trans h.size k.size, fun b hb ho => (k.block b (Nat.lt_of_lt_of_le hb h.size) ho).trans (h.block b hb ho), fun b cs e hb => by
    obtain ⟨c1, h1, h2⟩ := h.raw b cs e hb
    obtain ⟨c2, h3, h4⟩ := k.raw b c1 e h1
    exact ⟨c2, h3, h4.trans h2⟩⟩
theorem Mk.of_below {B N : Nat} {w w' : World} (h : Below w.heap.size w w') : Mk B N w w' :=
  ⟨h.os, h.tape, h.output, h.size, fun b hb _ => h.block b hb, fun b cs e hb => ⟨cs, (h.block b (Array.getElem?_eq_some_iff.1 hb).1).trans hb, rfl⟩⟩
theorem Mk.set {B N : Nat} {w w' : World} (h : Mk B N w w') {b : Nat} (i : Nat) (u : Value) (hB : B ≤ b) (hN : b < N) : Mk B N w (w'.setCell ⟨b, i, none⟩ u) := by
  refine h.then ⟨rfl, rfl, rfl, by simp [World.setCell], fun c hc ho => Below.heap_setCell _ _ _ c (show c ≠ b by omega), fun c cs e hc => ?_⟩
  by_cases hcb : c = b
  · subst hcb; exact ⟨_, blk_set hc i u, Array.size_setIfInBounds⟩
  · exact ⟨cs, (Below.heap_setCell _ ⟨b, i, none⟩ u c hcb).trans hc, rfl⟩
theorem Mk.drewN {B N : Nat} {w w' : World} (h : Mk B N w w') (n : Nat) : Mk B N w (w'.drewN n) := ⟨h.os, h.tape, h.output, h.size, h.block, h.raw⟩
theorem Mk.below {B N : Nat} {w w' : World} (h : Mk B N w w') (hB : B ≤ w.heap.size) : Below B w w' := ⟨h.os, h.tape, h.output, h.size, fun b hb => h.block b (Nat.lt_of_lt_of_le hb hB) (.inl hb)⟩
/-- a row's value with its block: n elements of sz cells of type e, within [B, N) -/
def Raw (w : World) (B N : Nat) (e : TypeId) (sz : Nat) (v : Value) (n : Nat) : Prop :=
  (v = .slice none 0 0 ∧ n = 0) ∨ ∃ b cap cs, v = .slice (some ⟨b, 0, none⟩) n cap ∧ w.heap[b]? = some (.cells cs e (0, 0)) ∧ cs.size = cap * sz ∧ n ≤ cap ∧ cap ≤ maxLen ∧ B ≤ b ∧ b < N
theorem Raw.mk {w w' : World} {B N B' N' : Nat} {e : TypeId} {sz n : Nat} {v : Value} (h : Raw w B N e sz v n) (k : Mk B' N' w w') : Raw w' B N e sz v n := by
  rcases h with h | ⟨b, cap, cs, hv, hb, hs, hn, hm, hB, hN⟩
  · exact .inl h
  · obtain ⟨cs', h1, h2⟩ := k.raw b cs e hb
    exact .inr ⟨b, cap, cs', hv, h1, h2.trans hs, hn, hm, hB, hN⟩
theorem Own.raw {α : Type} {k : Flat α} {w : World} {B N : Nat} {e : TypeId} {v : Value} {xs : List α} (h : Own k w B e v xs) (hN : ∀ b, v.ownBlock = some b → b < N) : Raw w B N e k.kind.size v xs.length := by
  rcases h.2 with ⟨h1, h2⟩ | ⟨g, cap, cur, hv, hg, hh, hnc, hcm, hsz, _⟩
  · exact .inl ⟨h1, h2⟩
  · exact .inr ⟨g, cap, cur, hv, hh, hsz, hnc, hcm, hg, hN g (by rw [hv]; rfl)⟩
end Mem

set_option maxRecDepth 100000 in
set_option maxHeartbeats 1000000 in
theorem rawLine_calls (B N k n : Nat) (v : Value) (w : World) (h : Raw w B N 99 4 v n) (hk : k + 4 * n ≤ 1099511627776) :
    Calls Tryd.prog 105 #[v, .int .i64 k] w fun e w' => (∃ k' : Nat, k' = k + 4 * n ∧ e = .returned (.int .i64 k')) ∧ Mk B N w w' := by
  rcases h with ⟨rfl, rfl⟩ | ⟨b, cap, cs0, rfl, hb0, hs0, hnc, hcm, hB, hN⟩
  · go_enter Tryd.func105, Tryd.ntmps105
    go_wp2_with fail
    go_loopw [1, 5] (fun j i wr => j = .int .i64 k ∧ i = .int .i64 0 ∧ w = wr) (fun _ _ _ => 0)
    case atStart => exact ⟨rfl, rfl, rfl⟩
    case round =>
      obtain ⟨rfl, rfl, rfl⟩ := hrel
      go_wp2_with fail
      go_ret
      exact ⟨⟨k, by omega, rfl⟩, Mk.refl _ _ _⟩
  · have HB0 := hide hb0
    have HS0 := hide hs0
    unfold maxLen at hcm
    clear hb0 hs0
    go_enter Tryd.func105, Tryd.ntmps105
    go_wp2_with fail
    go_loopw [1, 5] (fun j i wr => ∃ m K : Nat, i = .int .i64 m ∧ j = .int .i64 K ∧ m ≤ n ∧ K ≤ k + 4 * m ∧ k + 4 * m ≤ K ∧ Mk B N w wr) (fun _ i _ => n - (intOf i).toNat)
    case atStart => exact ⟨0, k, rfl, rfl, by omega, by omega, by omega, Mk.refl _ _ _⟩
    case round =>
      obtain ⟨m, K, rfl, rfl, hm, hK1, hK2, HM⟩ := hrel
      by_cases hlt : m < n
      · have hKb : K + 4 ≤ 1099511627776 := by omega
        obtain ⟨cs, hcs, hsz⟩ := HM.raw b cs0 _ HB0.out
        have hsz2 : cs.size = cap * 4 := hsz.trans HS0.out
        have o0 : wr.cell? ⟨b, m * 4, none⟩ = some _ := (blk_cell hcs (m * 4)).trans (Array.getElem?_eq_getElem (show m * 4 < _ by rw [hsz2]; omega))
        have f0 := blk_free hcs (m * 4)
        have o1 : wr.cell? ⟨b, m * 4 + 1, none⟩ = some _ := (blk_cell hcs (m * 4 + 1)).trans (Array.getElem?_eq_getElem (show m * 4 + 1 < _ by rw [hsz2]; omega))
        have f1 := blk_free hcs (m * 4 + 1)
        have o2 : wr.cell? ⟨b, m * 4 + 2, none⟩ = some _ := (blk_cell hcs (m * 4 + 2)).trans (Array.getElem?_eq_getElem (show m * 4 + 2 < _ by rw [hsz2]; omega))
        have f2 := blk_free hcs (m * 4 + 2)
        have o3 : wr.cell? ⟨b, m * 4 + 3, none⟩ = some _ := (blk_cell hcs (m * 4 + 3)).trans (Array.getElem?_eq_getElem (show m * 4 + 3 < _ by rw [hsz2]; omega))
        have f3 := blk_free hcs (m * 4 + 3)
        have hmt := fun (W : World) => markText_calls (K + 1) W (by omega)
        have HCC := hide (blk_set hcs (m * 4) (.int .i64 K))
        have HMC : Mk B N w (wr.setCell ⟨b, m * 4, none⟩ (.int .i64 K)) := (HM.set (m * 4) _ hB hN)
        have HMT := hide hmt
        clear hmt
        go_wp2_with fail
        refine (HMT.out _).mono ?_
        rintro e w5 ⟨rfl, hb5⟩
        have hc5 := (hb5.block b (by have := (Array.getElem?_eq_some_iff.1 HCC.out).1; exact this)).trans HCC.out
        have HM5 := HMC.then (Mk.of_below (B := B) (N := N) hb5)
        clear o0 f0 o1 f1 o2 f2 o3 f3 HMC hb5
        have o0 : w5.cell? ⟨b, m * 4, none⟩ = some _ := (blk_cell hc5 (m * 4)).trans (Array.getElem?_eq_getElem (show m * 4 < _ by (try simp only [Array.size_setIfInBounds]); rw [hsz2]; omega))
        have f0 := blk_free hc5 (m * 4)
        have o1 : w5.cell? ⟨b, m * 4 + 1, none⟩ = some _ := (blk_cell hc5 (m * 4 + 1)).trans (Array.getElem?_eq_getElem (show m * 4 + 1 < _ by (try simp only [Array.size_setIfInBounds]); rw [hsz2]; omega))
        have f1 := blk_free hc5 (m * 4 + 1)
        have o2 : w5.cell? ⟨b, m * 4 + 2, none⟩ = some _ := (blk_cell hc5 (m * 4 + 2)).trans (Array.getElem?_eq_getElem (show m * 4 + 2 < _ by (try simp only [Array.size_setIfInBounds]); rw [hsz2]; omega))
        have f2 := blk_free hc5 (m * 4 + 2)
        have o3 : w5.cell? ⟨b, m * 4 + 3, none⟩ = some _ := (blk_cell hc5 (m * 4 + 3)).trans (Array.getElem?_eq_getElem (show m * 4 + 3 < _ by (try simp only [Array.size_setIfInBounds]); rw [hsz2]; omega))
        have f3 := blk_free hc5 (m * 4 + 3)
        go_wp2_with fail
        go_roundw
        case rel => exact ⟨m + 1, K + 4, by go_num, by first | rfl | go_num, by omega, by omega, by omega, (((HM5.set (m * 4 + 1) _ hB hN).set (m * 4 + 2) _ hB hN).set (m * 4 + 3) _ hB hN)⟩
        case measure => simp [intOf]; omega
      · obtain rfl : m = n := by omega
        go_wp2_with fail
        go_ret
        exact ⟨⟨K, by omega, rfl⟩, HM⟩

set_option maxRecDepth 100000 in
set_option maxHeartbeats 1000000 in
theorem rawInt_calls (B N k n : Nat) (v : Value) (w : World) (h : Raw w B N 3 1 v n) (hk : k + 1 * n ≤ 1099511627776) :
    Calls Tryd.prog 89 #[v, .int .i64 k] w fun e w' => (∃ k' : Nat, k' = k + 1 * n ∧ e = .returned (.int .i64 k')) ∧ Mk B N w w' := by
  rcases h with ⟨rfl, rfl⟩ | ⟨b, cap, cs0, rfl, hb0, hs0, hnc, hcm, hB, hN⟩
  · go_enter Tryd.func89, Tryd.ntmps89
    go_wp2_with fail
    go_loopw [1, 5] (fun j i wr => j = .int .i64 k ∧ i = .int .i64 0 ∧ w = wr) (fun _ _ _ => 0)
    case atStart => exact ⟨rfl, rfl, rfl⟩
    case round =>
      obtain ⟨rfl, rfl, rfl⟩ := hrel
      go_wp2_with fail
      go_ret
      exact ⟨⟨k, by omega, rfl⟩, Mk.refl _ _ _⟩
  · have HB0 := hide hb0
    have HS0 := hide hs0
    unfold maxLen at hcm
    clear hb0 hs0
    go_enter Tryd.func89, Tryd.ntmps89
    go_wp2_with fail
    go_loopw [1, 5] (fun j i wr => ∃ m K : Nat, i = .int .i64 m ∧ j = .int .i64 K ∧ m ≤ n ∧ K ≤ k + 1 * m ∧ k + 1 * m ≤ K ∧ Mk B N w wr) (fun _ i _ => n - (intOf i).toNat)
    case atStart => exact ⟨0, k, rfl, rfl, by omega, by omega, by omega, Mk.refl _ _ _⟩
    case round =>
      obtain ⟨m, K, rfl, rfl, hm, hK1, hK2, HM⟩ := hrel
      by_cases hlt : m < n
      · have hKb : K + 1 ≤ 1099511627776 := by omega
        obtain ⟨cs, hcs, hsz⟩ := HM.raw b cs0 _ HB0.out
        have hsz2 : cs.size = cap * 1 := hsz.trans HS0.out
        have o0 : wr.cell? ⟨b, m, none⟩ = some _ := (blk_cell hcs (m)).trans (Array.getElem?_eq_getElem (show m < _ by rw [hsz2]; omega))
        have f0 := blk_free hcs (m)
        go_wp2_with fail
        go_roundw
        case rel => exact ⟨m + 1, K + 1, by go_num, by first | rfl | go_num, by omega, by omega, by omega, (HM.set (m) _ hB hN)⟩
        case measure => simp [intOf]; omega
      · obtain rfl : m = n := by omega
        go_wp2_with fail
        go_ret
        exact ⟨⟨K, by omega, rfl⟩, HM⟩

set_option maxRecDepth 100000 in
set_option maxHeartbeats 1000000 in
theorem rawString_calls (B N k n : Nat) (v : Value) (w : World) (h : Raw w B N 9 1 v n) (hk : k + 1 * n ≤ 1099511627776) :
    Calls Tryd.prog 27 #[v, .int .i64 k] w fun e w' => (∃ k' : Nat, k' = k + 1 * n ∧ e = .returned (.int .i64 k')) ∧ Mk B N w w' := by
  rcases h with ⟨rfl, rfl⟩ | ⟨b, cap, cs0, rfl, hb0, hs0, hnc, hcm, hB, hN⟩
  · go_enter Tryd.func27, Tryd.ntmps27
    go_wp2_with fail
    go_loopw [1, 5] (fun j i wr => j = .int .i64 k ∧ i = .int .i64 0 ∧ w = wr) (fun _ _ _ => 0)
    case atStart => exact ⟨rfl, rfl, rfl⟩
    case round =>
      obtain ⟨rfl, rfl, rfl⟩ := hrel
      go_wp2_with fail
      go_ret
      exact ⟨⟨k, by omega, rfl⟩, Mk.refl _ _ _⟩
  · have HB0 := hide hb0
    have HS0 := hide hs0
    unfold maxLen at hcm
    clear hb0 hs0
    go_enter Tryd.func27, Tryd.ntmps27
    go_wp2_with fail
    go_loopw [1, 5] (fun j i wr => ∃ m K : Nat, i = .int .i64 m ∧ j = .int .i64 K ∧ m ≤ n ∧ K ≤ k + 1 * m ∧ k + 1 * m ≤ K ∧ Mk B N w wr) (fun _ i _ => n - (intOf i).toNat)
    case atStart => exact ⟨0, k, rfl, rfl, by omega, by omega, by omega, Mk.refl _ _ _⟩
    case round =>
      obtain ⟨m, K, rfl, rfl, hm, hK1, hK2, HM⟩ := hrel
      by_cases hlt : m < n
      · have hKb : K + 1 ≤ 1099511627776 := by omega
        obtain ⟨cs, hcs, hsz⟩ := HM.raw b cs0 _ HB0.out
        have hsz2 : cs.size = cap * 1 := hsz.trans HS0.out
        have o0 : wr.cell? ⟨b, m, none⟩ = some _ := (blk_cell hcs (m)).trans (Array.getElem?_eq_getElem (show m < _ by rw [hsz2]; omega))
        have f0 := blk_free hcs (m)
        have hmt := fun (W : World) => markText_calls (K + 0) W (by omega)
        have HCC := hide hcs
        have HMC : Mk B N w (wr) := HM
        have HMT := hide hmt
        clear hmt
        go_wp2_with fail
        refine (HMT.out _).mono ?_
        rintro e w5 ⟨rfl, hb5⟩
        have hc5 := (hb5.block b (by have := (Array.getElem?_eq_some_iff.1 HCC.out).1; exact this)).trans HCC.out
        have HM5 := HMC.then (Mk.of_below (B := B) (N := N) hb5)
        clear o0 f0  HMC hb5
        have o0 : w5.cell? ⟨b, m, none⟩ = some _ := (blk_cell hc5 (m)).trans (Array.getElem?_eq_getElem (show m < _ by (try simp only [Array.size_setIfInBounds]); rw [hsz2]; omega))
        have f0 := blk_free hc5 (m)
        go_wp2_with fail
        go_roundw
        case rel => exact ⟨m + 1, K + 1, by go_num, by first | rfl | go_num, by omega, by omega, by omega, (HM5.set (m) _ hB hN)⟩
        case measure => simp [intOf]; omega
      · obtain rfl : m = n := by omega
        go_wp2_with fail
        go_ret
        exact ⟨⟨K, by omega, rfl⟩, HM⟩
end Go.Proofs.YtkhlicmlnjccdaaDoor

namespace Go.Proofs.YtkhlicmlnjccdaaDoor
open Go.RowKit Mem
namespace Mem
theorem Mk.wide {B N B' N' : Nat} {w w' : World} (h : Mk B N w w') (hB : B' ≤ B) (hN : N ≤ N') : Mk B' N' w w' :=
  ⟨h.os, h.tape, h.output, h.size, fun b hb ho => h.block b hb (by omega), h.raw⟩
/-- a row's own block alone -/
theorem Raw.own {w : World} {B N sz n : Nat} {e : TypeId} {v : Value} (h : Raw w B N e sz v n) : ∃ p q, Raw w p q e sz v n ∧ B ≤ p ∧ q ≤ N ∧ ∀ (g : Nat) (cs : Array Value) (T : TypeId), w.heap[g]? = some (.cells cs T (0, 0)) → T ≠ e → (g < p ∨ q ≤ g) := by
  rcases h with h | ⟨b, cap, cs, hv, hb, hs, hn, hm, hB, hN⟩
  · exact ⟨B, 0, .inl h, Nat.le_refl _, Nat.zero_le _, fun g cs T _ _ => .inr (Nat.zero_le _)⟩
  · refine ⟨b, b + 1, .inr ⟨b, cap, cs, hv, hb, hs, hn, hm, Nat.le_refl _, Nat.lt_succ_self _⟩, hB, hN, fun g cs' T hg hne => ?_⟩
    by_cases he : g = b
    · subst he
      rw [hb] at hg
      injection hg with hg
      injection hg with _ hg _
      exact absurd hg.symm hne
    · omega
theorem Raw.below {w w' : World} {B N : Nat} {e : TypeId} {sz n : Nat} {v : Value} (h : Raw w B N e sz v n) (hb : Below w.heap.size w w') : Raw w' B N e sz v n := h.mk (Mk.of_below (B := B) (N := N) hb)
theorem Raw.sl {w : World} {B N : Nat} {e : TypeId} {sz n : Nat} {v : Value} (h : Raw w B N e sz v n) : ∃ A c, v = .slice A n c ∧ n ≤ maxLen := by
  rcases h with ⟨rfl, rfl⟩ | ⟨b, cap, cs, hv, hb, hs, hn, hm, hB, hN⟩
  · exact ⟨none, 0, rfl, by unfold maxLen; omega⟩
  · exact ⟨_, cap, hv, Nat.le_trans hn hm⟩
def RawMods (w : World) (B N : Nat) (v : Value) (xs : List ModD) : Prop :=
  ∃ g cs, v = .slice (some ⟨g, 0, none⟩) xs.length xs.length ∧ B ≤ g ∧ g < N ∧ w.heap[g]? = some (.cells cs 56 (0, 0)) ∧ cs.size = xs.length * 2 ∧ xs.length ≤ maxLen ∧
    ∀ q x, xs[q]? = some x → ∃ u, cs[q * 2 + 1]? = some u ∧ Raw w B N 99 4 u x.lines.length
theorem RawMods.below {w w' : World} {B N : Nat} {v : Value} {xs : List ModD} (h : RawMods w B N v xs) (hb : Below w.heap.size w w') : RawMods w' B N v xs := by
  obtain ⟨g, cs, hv, hg, hgN, hbk, hs, hm, hx⟩ := h
  have hlt : g < w.heap.size := (Array.getElem?_eq_some_iff.1 hbk).1
  refine ⟨g, cs, hv, hg, hgN, (hb.block _ hlt).trans hbk, hs, hm, fun q x hq => ?_⟩
  obtain ⟨u, hp, ho⟩ := hx q x hq
  exact ⟨u, hp, ho.below hb⟩
/-- marks at rows of another type leave the modules alone -/
theorem RawMods.mk {w w' : World} {B N p q : Nat} {v : Value} {xs : List ModD} (h : RawMods w B N v xs) (hb : Mk p q w w') (ho : ∀ (g : Nat) (cs : Array Value), w.heap[g]? = some (.cells cs 56 (0, 0)) → (g < p ∨ q ≤ g)) : RawMods w' B N v xs := by
  obtain ⟨g, cs, hv, hg, hgN, hbk, hs, hm, hx⟩ := h
  have hlt : g < w.heap.size := (Array.getElem?_eq_some_iff.1 hbk).1
  refine ⟨g, cs, hv, hg, hgN, (hb.block _ hlt (ho g cs hbk)).trans hbk, hs, hm, fun j x hq => ?_⟩
  obtain ⟨u, hp, ho⟩ := hx j x hq
  exact ⟨u, hp, ho.mk hb⟩
end Mem
theorem OwnMods.rawMods {w : World} {B N : Nat} {v : Value} {xs : List ModD} (h : OwnMods w B v xs) (hN : w.heap.size ≤ N) : RawMods w B N v xs := by
  obtain ⟨g, cs, hv, hg, hb, hs, hm, hx⟩ := h
  have hlt : g < w.heap.size := (Array.getElem?_eq_some_iff.1 hb).1
  refine ⟨g, cs, hv, hg, by omega, hb, hs, hm, fun q x hq => ?_⟩
  obtain ⟨u, hp, ho⟩ := hx q x hq
  exact ⟨u, hp 1 u rfl, Own.raw (k := fLine) ho (fun b e => Nat.lt_of_lt_of_le (ho.lt e) hN)⟩
structure RawWorld (w : World) (B N : Nat) (vR vM vF : Value) (D : WorldD) : Prop where
  R : Raw w B N 9 1 vR D.roots.length
  M : RawMods w B N vM D.mods
  F : Raw w B N 3 1 vF D.faults.length
theorem OwnWorld.raw {w : World} {B N : Nat} {vR vM vF : Value} {D : WorldD} (h : OwnWorld w B vR vM vF D) (hN : w.heap.size ≤ N) : RawWorld w B N vR vM vF D :=
  ⟨Own.raw (k := fStr) h.R (fun b e => Nat.lt_of_lt_of_le (h.R.lt e) hN), h.M.rawMods hN, Own.raw (k := fInt) h.F (fun b e => Nat.lt_of_lt_of_le (h.F.lt e) hN)⟩
theorem RawWorld.below {w w' : World} {B N : Nat} {vR vM vF : Value} {D : WorldD} (h : RawWorld w B N vR vM vF D) (hb : Below w.heap.size w w') : RawWorld w' B N vR vM vF D := ⟨h.R.below hb, h.M.below hb, h.F.below hb⟩

def mkOf (m : ModD) : Nat := 1 + 4 * m.lines.length
theorem mkOf_sum (ms : List ModD) : sumOf mkOf ms ≤ 4 * modsTot ms := by
  have h : ∀ xs : List ModD, sumOf mkOf xs ≤ 4 * xs.length + 4 * sumOf modTot xs := fun xs => by
    induction xs with
    | nil => simp [sumOf]
    | cons x r ih =>
      have h1 : mkOf x ≤ 4 + 4 * modTot x := by unfold mkOf modTot linesTot; omega
      simp only [sumOf, List.length_cons]
      omega
  have := h ms
  unfold modsTot
  omega

set_option maxRecDepth 100000 in
set_option maxHeartbeats 1000000 in
theorem rawMods_calls (B N k : Nat) (v : Value) (xs : List ModD) (w : World) (h : RawMods w B N v xs) (hk : k + sumOf mkOf xs ≤ 1099511627776) :
    Calls Tryd.prog 88 #[v, .int .i64 k] w fun e w' => (∃ k' : Nat, k' = k + sumOf mkOf xs ∧ e = .returned (.int .i64 k')) ∧ Mk B N w w' := by
  obtain ⟨g, cs0, rfl, hB, hN, hb0, hs0, hcm, hx0⟩ := h
  have HB0 := hide hb0
  have HS0 := hide hs0
  have HX0 := hide hx0
  unfold maxLen at hcm
  clear hb0 hs0 hx0
  go_enter Tryd.func88, Tryd.ntmps88
  go_wp2_with fail
  go_loopw [1, 5] (fun j i wr => ∃ (m K : Nat) (cs : Array Value), i = .int .i64 m ∧ j = .int .i64 K ∧ m ≤ xs.length ∧ Hid (K = k + sumOf mkOf (xs.take m)) ∧ Hid (wr.heap[g]? = some (.cells cs 56 (0, 0))) ∧ Hid (cs.size = xs.length * 2 ∧ ∀ q, cs[q * 2 + 1]? = cs0[q * 2 + 1]?) ∧ Mk B N w wr) (fun _ i _ => xs.length - (intOf i).toNat)
  case atStart => exact ⟨0, k, cs0, rfl, rfl, by omega, hide (by simp [sumOf]), HB0, hide ⟨HS0.out, fun q => rfl⟩, Mk.refl _ _ _⟩
  case round =>
    obtain ⟨m, K, cs, rfl, rfl, hm, HK, HC, HP, HM⟩ := hrel
    by_cases hlt : m < xs.length
    · have hst := sumOf_take mkOf xs m hlt
      have hle := sumOf_le mkOf xs (m + 1)
      have hmo : mkOf xs[m] = 1 + 4 * xs[m].lines.length := rfl
      have hKb : K + 1 + 4 * xs[m].lines.length ≤ 1099511627776 := by have := HK.out; omega
      have HST := hide (show sumOf mkOf (xs.take (m + 1)) = sumOf mkOf (xs.take m) + (1 + 4 * xs[m].lines.length) from hst)
      obtain ⟨u, hu, hraw⟩ := HX0.out m _ (List.getElem?_eq_getElem hlt)
      generalize xs[m].lines.length = ll at hKb HST hraw
      have hraw1 := hraw.mk HM
      obtain ⟨A4, c4, rfl, hlm⟩ := hraw1.sl
      clear hst hle hmo hraw
      have hcs := HC.out
      have hsz2 : cs.size = xs.length * 2 := HP.out.1
      have o0 : wr.cell? ⟨g, m * 2, none⟩ = some _ := (blk_cell hcs (m * 2)).trans (Array.getElem?_eq_getElem (show m * 2 < _ by rw [hsz2]; omega))
      have f0 := blk_free hcs (m * 2)
      have o1 : wr.cell? ⟨g, m * 2 + 1, none⟩ = some (.slice A4 ll c4) := (blk_cell hcs (m * 2 + 1)).trans ((HP.out.2 m).trans hu)
      have hmt := fun (W : World) => markText_calls K W (by omega)
      have HCC := hide hcs
      have HMT := hide hmt
      have HU := hide ((HP.out.2 m).trans hu)
      have HRAW := hide hraw1
      clear hmt hu hraw1 hcs
      go_wp2_with fail
      refine (HMT.out _).mono ?_
      rintro e w5 ⟨rfl, hb5⟩
      have hc5 := (hb5.block g (by have := (Array.getElem?_eq_some_iff.1 HCC.out).1; exact this)).trans HCC.out
      have HM5 := HM.then (Mk.of_below (B := B) (N := N) hb5)
      clear o0 f0 o1
      have o0 : w5.cell? ⟨g, m * 2, none⟩ = some _ := (blk_cell hc5 (m * 2)).trans (Array.getElem?_eq_getElem (show m * 2 < _ by rw [hsz2]; omega))
      have f0 := blk_free hc5 (m * 2)
      have HCN := hide (blk_set hc5 (m * 2) (.string (mtx K)))
      have HMN := HM5.set (m * 2) (.string (mtx K)) hB hN
      have hrawN := HRAW.out.mk ((Mk.of_below (B := B) (N := N) hb5).set (m * 2) (.string (mtx K)) hB hN)
      obtain ⟨p, q, hpq, hp1, hq1, hap⟩ := hrawN.own
      have hlc := rawLine_calls p q (K + 1) ll _ _ hpq (by omega)
      have HLC := hide hlc
      have hapg := hap g _ _ HCN.out (by decide)
      have HC5 := hide hc5
      clear hlc hap hpq hrawN hb5 hc5 HM HM5 HRAW
      have o1 : w5.cell? ⟨g, m * 2 + 1, none⟩ = some (.slice A4 ll c4) := (blk_cell (show w5.heap[g]? = _ from HC5.out) (m * 2 + 1)).trans HU.out
      go_wp2_with fail
      refine HLC.out.mono ?_
      rintro e w6 ⟨⟨K6, hK6, rfl⟩, hm6⟩
      have hc6 := (hm6.block g (by have := (Array.getElem?_eq_some_iff.1 HCN.out).1; exact this) hapg).trans HCN.out
      have HM6 := HMN.then (hm6.wide hp1 hq1)
      have HK6 := hide hK6
      have HPN := hide (show (cs.setIfInBounds (m * 2) (.string (mtx K))).size = xs.length * 2 ∧ ∀ q, (cs.setIfInBounds (m * 2) (.string (mtx K)))[q * 2 + 1]? = cs0[q * 2 + 1]? from ⟨by rw [Array.size_setIfInBounds]; exact hsz2, fun q => by rw [Array.getElem?_setIfInBounds_ne (by omega)]; exact HP.out.2 q⟩)
      have HC6 := hide hc6
      clear hK6 hm6 hc6 o0 f0 o1
      go_wp2_with fail
      go_roundw
      case rel => exact ⟨m + 1, K6, cs.setIfInBounds (m * 2) (.string (mtx K)), by go_num, rfl, by omega, hide (by rw [HK6.out, HST.out, HK.out]; omega), HC6, HPN, HM6⟩
      case measure => simp [intOf]; omega
    · obtain rfl : m = xs.length := by omega
      have HE := hide (show K = k + sumOf mkOf xs by have := HK.out; rwa [List.take_length] at this)
      go_wp2_with fail
      go_ret
      exact ⟨⟨K, HE.out, rfl⟩, HM⟩

set_option maxRecDepth 100000 in
set_option maxHeartbeats 1000000 in
theorem rawWorld_calls (B N k : Nat) (vR vM vF : Value) (D : WorldD) (w : World) (h : RawWorld w B N vR vM vF D) (hN : N ≤ w.heap.size) (hk : k + D.roots.length + sumOf mkOf D.mods + D.faults.length ≤ 1099511627776) :
    Calls Tryd.prog 50 #[.agg #[vR, vM, vF], .int .i64 k] w fun e w' => (∃ k' : Nat, e = .returned (.int .i64 k')) ∧ Mk B N w w' := by
  obtain ⟨hR, hM, hF⟩ := h
  obtain ⟨A1, c1, rfl, hl1⟩ := hR.sl
  obtain ⟨A3, c3, rfl, hl3⟩ := hF.sl
  have hM2 := hM
  obtain ⟨gM, _, rfl, _, hgN, _, _, hl2, _⟩ := hM2
  have hbA : Below w.heap.size w (w.alloc (Obj.cells #[.slice A1 D.roots.length c1, .slice (some ⟨gM, 0, none⟩) D.mods.length D.mods.length, .slice A3 D.faults.length c3] 46)) := by (repeat (first | with_reducible exact Below.refl _ _ | with_reducible assumption | with_reducible refine Below.alloc ?_ (by first | exact Nat.le_refl _ | exact Below.size (by assumption) | exact Nat.le_trans (Below.size (by assumption)) (by simp; done) | (simp; done) | (simp; omega) | omega) _ | with_reducible refine below_drewN ?_ _ | with_reducible refine Below.drew ?_ | with_reducible refine Below.setCell ?_ (by first | exact Nat.le_refl _ | (simp; done) | (simp; omega) | omega) _))
  have hnA := heap_alloc_new w (Obj.cells #[.slice A1 D.roots.length c1, .slice (some ⟨gM, 0, none⟩) D.mods.length D.mods.length, .slice A3 D.faults.length c3] 46)
  have hzA : w.heap.size < (w.alloc (Obj.cells #[.slice A1 D.roots.length c1, .slice (some ⟨gM, 0, none⟩) D.mods.length D.mods.length, .slice A3 D.faults.length c3] 46)).heap.size := by simp
  have HN := hide hN
  have HR := hide hR
  have HF := hide hF
  have HMM := hide hM
  unfold maxLen at hl1 hl2 hl3
  clear hN hR hM hF
  go_enter Tryd.func50, Tryd.ntmps50
  go_wp2_with fail
  generalize w.alloc (Obj.cells #[.slice A1 D.roots.length c1, .slice (some ⟨gM, 0, none⟩) D.mods.length D.mods.length, .slice A3 D.faults.length c3] 46) = W at hbA hnA hzA ⊢
  obtain ⟨p, q, hpq, hp1, hq1, hap⟩ := (HR.out.below hbA).own
  refine (rawString_calls p q k D.roots.length _ W hpq (by omega)).mono ?_
  rintro e w1 ⟨⟨k1, hk1, rfl⟩, hm1⟩
  have hM1 := (Mk.of_below (B := B) (N := N) hbA).then (hm1.wide hp1 hq1)
  have hb1 := (hm1.block _ hzA (by have := HN.out; omega)).trans hnA
  have hz1 : w.heap.size < w1.heap.size := Nat.lt_of_lt_of_le hzA hm1.size
  have hMM := (HMM.out.below hbA).mk hm1 (fun g cs hg => hap g cs _ hg (by decide))
  have hFF := HF.out.mk hM1
  have m1 : w1.cell? ⟨w.heap.size, 1, none⟩ = some (.slice (some ⟨gM, 0, none⟩) D.mods.length D.mods.length) := blk_cell hb1 1
  have m2 : w1.cell? ⟨w.heap.size, 2, none⟩ = some (.slice A3 D.faults.length c3) := blk_cell hb1 2
  have HB1 := hide hb1
  have HK1 := hide hk1
  clear hap hpq hm1 hnA hbA hb1 hzA hk1
  go_wp2_with fail
  have hkk : k1 + sumOf mkOf D.mods ≤ 1099511627776 := by have := HK1.out; omega
  have hcm := rawMods_calls B N k1 _ D.mods w1 hMM hkk
  refine hcm.mono ?_
  clear hcm hkk
  rintro e w2 ⟨⟨k2, hk2, rfl⟩, hm2⟩
  have hM2 := hM1.then hm2
  have hb2 := (hm2.block _ hz1 (by have := HN.out; omega)).trans HB1.out
  have hFF2 := hFF.mk hm2
  have HK2 := hide hk2
  have m2 : w2.cell? ⟨w.heap.size, 2, none⟩ = some (.slice A3 D.faults.length c3) := blk_cell hb2 2
  clear hm2 hb2 m1 hMM hFF hk2
  go_wp2_with fail
  refine (rawInt_calls B N k2 D.faults.length _ w2 hFF2 (by have := HK1.out; have := HK2.out; omega)).mono ?_
  rintro e w3 ⟨⟨k3, hk3, rfl⟩, hm3⟩
  have hM3 := hM2.then hm3
  clear hm3 hk3
  go_wp2_with fail
  go_ret
  exact ⟨⟨k3, rfl⟩, hM3⟩
end Go.Proofs.YtkhlicmlnjccdaaDoor

namespace Go.Proofs.YtkhlicmlnjccdaaDoor
open Go.RowKit Mem

set_option maxHeartbeats 400000 in
theorem eqLine_same (x : LineD) (w : World) :
    Calls Tryd.prog 144 #[.agg #[.int .i64 x.op, .string x.name, .int .i64 x.num, .int .i64 x.skip], .agg #[.int .i64 x.op, .string x.name, .int .i64 x.num, .int .i64 x.skip]] w fun e w' => e = .returned (.bool true) ∧ Below w.heap.size w w' := by
  go_enter Tryd.func144, Tryd.ntmps144
  go_wp2_with fail
  go_ret
  exact ⟨rfl, by (repeat (first | with_reducible exact Below.refl _ _ | with_reducible assumption | with_reducible refine Below.alloc ?_ (by first | exact Nat.le_refl _ | exact Below.size (by assumption) | exact Nat.le_trans (Below.size (by assumption)) (by simp; done) | (simp; done) | (simp; omega) | omega) _ | with_reducible refine below_drewN ?_ _ | with_reducible refine Below.drew ?_ | with_reducible refine Below.setCell ?_ (by first | exact Nat.le_refl _ | (simp; done) | (simp; omega) | omega) _))⟩

set_option maxRecDepth 100000 in
set_option maxHeartbeats 1000000 in
theorem eqLineS_same (A B : Option Addr) (c d n : Nat) (xs : List LineD) (w : World) (S T : Nat → Prop) (h1 : Sl kLine w S A xs) (h2 : Sl kLine w T B xs) (hn : xs.length = n) (hl : n ≤ maxLen) :
    Calls Tryd.prog 122 #[.slice A n c, .slice B n d] w fun e w' => e = .returned (.bool true) ∧ Below w.heap.size w w' := by
  subst hn
  replace hl := mem_maxLen _ hl
  go_enter Tryd.func122, Tryd.ntmps122
  go_wp2_with fail
  go_loopw [5] (fun i wr => ∃ k : Nat, i = .int .i64 k ∧ k ≤ xs.length ∧ Below w.heap.size w wr) (fun i _ => xs.length - (intOf i).toNat)
  case atStart => exact ⟨0, rfl, by omega, Below.refl _ _⟩
  case round =>
    obtain ⟨k, rfl, hk, HB⟩ := hrel
    by_cases hlt : k < xs.length
    · obtain ⟨ad, hA, l0, l1, l2, l3⟩ := (h1.below HB).get hlt
      subst hA
      obtain ⟨bd, hA, m0, m1, m2, m3⟩ := (h2.below HB).get hlt
      subst hA
      have e0 : wr.cell? (ad.add (k * 4)) = some (.int .i64 xs[k].op) := l0.2
      have e1 : wr.cell? ⟨(ad.add (k * 4)).block, (ad.add (k * 4)).off + 1, none⟩ = some (.string xs[k].name) := by have := l1.2; rwa [add_pos _ _ (by omega)] at this
      have e2 : wr.cell? ⟨(ad.add (k * 4)).block, (ad.add (k * 4)).off + 2, none⟩ = some (.int .i64 xs[k].num) := by have := l2.2; rwa [add_pos _ _ (by omega)] at this
      have e3 : wr.cell? ⟨(ad.add (k * 4)).block, (ad.add (k * 4)).off + 3, none⟩ = some (.int .i64 xs[k].skip) := by have := l3.2; rwa [add_pos _ _ (by omega)] at this
      have d0 : wr.cell? (bd.add (k * 4)) = some (.int .i64 xs[k].op) := m0.2
      have d1 : wr.cell? ⟨(bd.add (k * 4)).block, (bd.add (k * 4)).off + 1, none⟩ = some (.string xs[k].name) := by have := m1.2; rwa [add_pos _ _ (by omega)] at this
      have d2 : wr.cell? ⟨(bd.add (k * 4)).block, (bd.add (k * 4)).off + 2, none⟩ = some (.int .i64 xs[k].num) := by have := m2.2; rwa [add_pos _ _ (by omega)] at this
      have d3 : wr.cell? ⟨(bd.add (k * 4)).block, (bd.add (k * 4)).off + 3, none⟩ = some (.int .i64 xs[k].skip) := by have := m3.2; rwa [add_pos _ _ (by omega)] at this
      clear l0 l1 l2 l3 m0 m1 m2 m3 h1 h2
      generalize xs[k] = x at e0 e1 e2 e3 d0 d1 d2 d3
      go_wp2_with fail
      go_still_tail 8, (by kernel_rfl)
      change wpList _ _ _ _ _ wr.drew
      go_wp2_with fail
      refine (eqLine_same x _).mono ?_
      rintro e w1 ⟨rfl, hb1⟩
      have HB1 := below_then (Below.drew HB) (show w.heap.size ≤ wr.drew.heap.size from HB.size) hb1
      clear e0 e1 e2 e3 d0 d1 d2 d3 hb1
      go_wp2_with fail
      go_roundw
      case rel => exact ⟨k + 1, by go_num, by omega, HB1⟩
      case measure => simp [intOf]; omega
    · obtain rfl : k = xs.length := by omega
      go_wp2_with fail
      go_ret
      exact ⟨rfl, HB⟩

set_option maxRecDepth 100000 in
set_option maxHeartbeats 400000 in
theorem eqModule_same (A B : Option Addr) (c d : Nat) (x : ModD) (w : World) (S T : Nat → Prop) (h1 : Sl kLine w S A x.lines) (h2 : Sl kLine w T B x.lines) (hl : x.lines.length ≤ maxLen) :
    Calls Tryd.prog 103 #[.agg #[.string x.name, .slice A x.lines.length c], .agg #[.string x.name, .slice B x.lines.length d]] w fun e w' => e = .returned (.bool true) ∧ Below w.heap.size w w' := by
  obtain ⟨nm, ls⟩ := x
  have hb0 := nbeq_t (rfl : nm = nm)
  have hbW : Below w.heap.size w ((w.alloc (Obj.cells #[.string nm, .slice A ls.length c] 56)).alloc (Obj.cells #[.string nm, .slice B ls.length d] 56)) := by (repeat (first | with_reducible exact Below.refl _ _ | with_reducible assumption | with_reducible refine Below.alloc ?_ (by first | exact Nat.le_refl _ | exact Below.size (by assumption) | exact Nat.le_trans (Below.size (by assumption)) (by simp; done) | (simp; done) | (simp; omega) | omega) _ | with_reducible refine below_drewN ?_ _ | with_reducible refine Below.drew ?_ | with_reducible refine Below.setCell ?_ (by first | exact Nat.le_refl _ | (simp; done) | (simp; omega) | omega) _))
  go_enter Tryd.func103, Tryd.ntmps103
  go_wp2_with fail
  refine (eqLineS_same A B c d ls.length ls _ S T (h1.below hbW) (h2.below hbW) rfl hl).mono ?_
  rintro e w1 ⟨rfl, hb1⟩
  have HB := below_then hbW hbW.size hb1
  clear hb1
  go_wp2_with fail
  go_ret
  exact ⟨rfl, HB⟩

set_option maxRecDepth 100000 in
set_option maxHeartbeats 1000000 in
theorem eqModuleS_same (A B : Option Addr) (c d n : Nat) (xs : List ModD) (w : World) (S T : Nat → Prop) (h1 : Sl kMod w S A xs) (h2 : Sl kMod w T B xs) (hn : xs.length = n) (hl : n ≤ maxLen) :
    Calls Tryd.prog 79 #[.slice A n c, .slice B n d] w fun e w' => e = .returned (.bool true) ∧ Below w.heap.size w w' := by
  subst hn
  replace hl := mem_maxLen _ hl
  go_enter Tryd.func79, Tryd.ntmps79
  go_wp2_with fail
  go_loopw [5] (fun i wr => ∃ k : Nat, i = .int .i64 k ∧ k ≤ xs.length ∧ Below w.heap.size w wr) (fun i _ => xs.length - (intOf i).toNat)
  case atStart => exact ⟨0, rfl, by omega, Below.refl _ _⟩
  case round =>
    obtain ⟨k, rfl, hk, HB⟩ := hrel
    by_cases hlt : k < xs.length
    · obtain ⟨ad, hA, hc0, A4, c4, hc4, hl4, hm4, hs4⟩ := (h1.below HB).get hlt
      subst hA
      obtain ⟨bd, hA, hd0, A5, c5, hc5, hl5, hm5, hs5⟩ := (h2.below HB).get hlt
      subst hA
      have e0 : wr.cell? (ad.add (k * 2)) = some (.string xs[k].name) := hc0.2
      have e1 : wr.cell? ⟨(ad.add (k * 2)).block, (ad.add (k * 2)).off + 1, none⟩ = some (.slice A4 xs[k].lines.length c4) := by have := hc4.2; rwa [add_pos _ _ (by omega)] at this
      have d0 : wr.cell? (bd.add (k * 2)) = some (.string xs[k].name) := hd0.2
      have d1 : wr.cell? ⟨(bd.add (k * 2)).block, (bd.add (k * 2)).off + 1, none⟩ = some (.slice A5 xs[k].lines.length c5) := by have := hc5.2; rwa [add_pos _ _ (by omega)] at this
      clear hc0 hc4 hd0 hc5 h1 h2
      generalize xs[k] = x at e0 e1 d0 d1 hs4 hs5 hl4 hl5
      go_wp2_with fail
      go_still_tail 8, (by kernel_rfl)
      change wpList _ _ _ _ _ wr.drew
      go_wp2_with fail
      refine (eqModule_same A4 A5 c4 c5 x _ S T (hs4.below (Below.drew (Below.refl _ _))) (hs5.below (Below.drew (Below.refl _ _))) (by omega)).mono ?_
      rintro e w1 ⟨rfl, hb1⟩
      have HB1 := below_then (Below.drew HB) (show w.heap.size ≤ wr.drew.heap.size from HB.size) hb1
      clear e0 e1 d0 d1 hb1 hs4 hs5
      go_wp2_with fail
      go_roundw
      case rel => exact ⟨k + 1, by go_num, by omega, HB1⟩
      case measure => simp [intOf]; omega
    · obtain rfl : k = xs.length := by omega
      go_wp2_with fail
      go_ret
      exact ⟨rfl, HB⟩

set_option maxHeartbeats 400000 in
theorem eqIntS_same (A B : Option Addr) (c d n : Nat) (xs : List Int) (w : World) (S T : Nat → Prop) (h1 : Sl kInt w S A xs) (h2 : Sl kInt w T B xs) (hn : xs.length = n) (hl : n ≤ maxLen) :
    Calls Tryd.prog 80 #[.slice A n c, .slice B n d] w fun e w' => e = .returned (.bool true) ∧ Below w.heap.size w w' := by
  subst hn
  replace hl := mem_maxLen _ hl
  go_enter Tryd.func80, Tryd.ntmps80
  go_wp2_with fail
  go_loopw [5] (fun i wr => ∃ k m : Nat, i = .int .i64 k ∧ k ≤ xs.length ∧ wr = w.drewN m) (fun i _ => xs.length - (intOf i).toNat)
  case atStart => exact ⟨0, 0, rfl, by omega, rfl⟩
  case round =>
    obtain ⟨k, m, rfl, hk, rfl⟩ := hrel
    by_cases hlt : k < xs.length
    · obtain ⟨ad, hA, l0⟩ := h1.get hlt
      subst hA
      obtain ⟨bd, hA, m0⟩ := h2.get hlt
      subst hA
      have e0 : w.cell? (ad.add k) = some (.int .i64 xs[k]) := by simpa [kInt] using l0.2
      have d0 : w.cell? (bd.add k) = some (.int .i64 xs[k]) := by simpa [kInt] using m0.2
      clear l0 m0 h1 h2
      generalize xs[k] = x at e0 d0
      go_wp2_with fail
      go_quiet (fail)
      go_wp2_with fail
      go_roundw
      case rel => exact ⟨k + 1, _, by go_num, by omega, by first | rfl | exact World.drewN_drewN ..⟩
      case measure => simp [intOf]; omega
    · obtain rfl : k = xs.length := by omega
      go_wp2_with fail
      go_ret
      exact ⟨rfl, below_drewN (Below.refl _ _) _⟩

set_option maxRecDepth 100000 in
set_option maxHeartbeats 1000000 in
theorem eqWorld_same (D : WorldD) (vR vM vF uR uM uF : Value) (w : World) (S T : Nat → Prop) (h1 : WIn w S vR vM vF D) (h2 : WIn w T uR uM uF D) :
    Calls Tryd.prog 43 #[.agg #[vR, vM, vF], .agg #[uR, uM, uF]] w fun e w' => e = .returned (.bool true) ∧ Below w.heap.size w w' := by
  have hlen := hide h1.lens
  obtain ⟨⟨A1, c1, rfl, _, _, hR⟩, ⟨A2, c2, rfl, _, _, hM⟩, ⟨A3, c3, rfl, _, _, hF⟩⟩ := h1
  obtain ⟨⟨B1, d1, rfl, _, _, gR⟩, ⟨B2, d2, rfl, _, _, gM⟩, ⟨B3, d3, rfl, _, _, gF⟩⟩ := h2
  go_enter Tryd.func43, Tryd.ntmps43
  go_wp2_with fail
  generalize hW : (w.alloc (Obj.cells #[.slice A1 D.roots.length c1, .slice A2 D.mods.length c2, .slice A3 D.faults.length c3] 46)).alloc (Obj.cells #[.slice B1 D.roots.length d1, .slice B2 D.mods.length d2, .slice B3 D.faults.length d3] 46) = W
  have hbW : Below w.heap.size w W := by rw [← hW]; (repeat (first | with_reducible exact Below.refl _ _ | with_reducible assumption | with_reducible refine Below.alloc ?_ (by first | exact Nat.le_refl _ | exact Below.size (by assumption) | exact Nat.le_trans (Below.size (by assumption)) (by simp; done) | (simp; done) | (simp; omega) | omega) _ | with_reducible refine below_drewN ?_ _ | with_reducible refine Below.drew ?_ | with_reducible refine Below.setCell ?_ (by first | exact Nat.le_refl _ | (simp; done) | (simp; omega) | omega) _))
  have hb := alloc_two w (Obj.cells #[.slice A1 D.roots.length c1, .slice A2 D.mods.length c2, .slice A3 D.faults.length c3] 46) (Obj.cells #[.slice B1 D.roots.length d1, .slice B2 D.mods.length d2, .slice B3 D.faults.length d3] 46)
  rw [hW] at hb
  have HBK := hide hb
  have hz : w.heap.size + 2 = W.heap.size := hb.2.2
  clear hb hW
  refine (eqStringS_same A1 B1 c1 d1 D.roots.length D.roots W S T (hR.below hbW) (gR.below hbW) rfl hlen.out.1).mono ?_
  rintro e w1 ⟨rfl, n1, rfl⟩
  have k1 : W.cell? ⟨w.heap.size, 1, none⟩ = some _ := blk_cell HBK.out.1 1
  have k2 : W.cell? ⟨w.heap.size + 1, 1, none⟩ = some _ := blk_cell HBK.out.2.1 1
  have hbD := below_drewN hbW n1
  go_wp2_with fail
  refine (eqModuleS_same A2 B2 c2 d2 D.mods.length D.mods _ S T (hM.below hbD) (gM.below hbD) rfl hlen.out.2.1).mono ?_
  rintro e w2 ⟨rfl, hb2⟩
  have HB := below_then hbD hbD.size hb2
  have k3 : w2.cell? ⟨w.heap.size, 2, none⟩ = some _ := blk_cell ((hb2.block _ (by show w.heap.size < W.heap.size; omega)).trans HBK.out.1) 2
  have k4 : w2.cell? ⟨w.heap.size + 1, 2, none⟩ = some _ := blk_cell ((hb2.block _ (by show w.heap.size + 1 < W.heap.size; omega)).trans HBK.out.2.1) 2
  clear hb2 k1 k2 hbD
  go_wp2_with fail
  refine (eqIntS_same A3 B3 c3 d3 D.faults.length D.faults _ S T (hF.below HB) (gF.below HB) rfl hlen.out.2.2).mono ?_
  rintro e w3 ⟨rfl, hb3⟩
  have HB3 := below_then HB HB.size hb3
  clear hb3
  go_wp2_with fail
  go_ret
  exact ⟨rfl, HB3⟩
end Go.Proofs.YtkhlicmlnjccdaaDoor
