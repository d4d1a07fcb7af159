/-
  Plain words on the graph: how long an order and a ring are.
-/
import Derived.Test.YtkhlicmlnjccdaaDoorKexactOrder12
namespace Go.Proofs.YtkhlicmlnjccdaaDoor
namespace Gr
theorem order_len (D : WorldD) (name : Str) : (order D name).length ≤ 3600 := by
  unfold order
  split
  · simp
  · rename_i h
    have hw := Wd.wok_of (Classical.not_not.1 h)
    split
    · simp
    · rename_i k hk
      have hv := visit_to (E := edges D) (n := D.mods.length) (fun e he => edges_fit he) (D.mods.length + 1) k ⟨[], []⟩ (toOf_lt hk) ⟨List.nodup_nil, fun x hx => by simp at hx⟩
      have h1 := hv.bal
      have h2 := hv.ok.len
      have h3 := hw.mods
      simp only [List.length_nil, List.length_map] at h1 ⊢
      omega
theorem back_len (fr : Nat → Option Nat) (k : Nat) : ∀ f x, (back fr k f x).length ≤ f
  | 0, x => by simp [back]
  | f + 1, x => by
    unfold back
    split
    · simp
    · split
      · rename_i p _
        have := back_len fr k f p
        simp; omega
      · simp
theorem ringOf_len' (E : List EdgeD) (n k : Nat) : (ringOf E n k).length ≤ n + 1 := by
  unfold ringOf
  split
  · rename_i x s _
    have := back_len s.fr k n x
    simp; omega
  · simp
theorem better_len {b r : List Nat} {m : Nat} (hb : b.length ≤ m) (hr : r.length ≤ m) : (better b r).length ≤ m := by
  unfold better
  split
  · exact hr
  · exact hb
theorem bestUp_len (E : List EdgeD) (n : Nat) : ∀ k, (bestUp E n k).length ≤ n + 1
  | 0 => by simp [bestUp]
  | k + 1 => better_len (bestUp_len E n k) (ringOf_len' E n k)
theorem bfs_nil (k : Nat) : ∀ (f i : Nat) (s : BS), (bfs k [] f i s).1 = none
  | 0, _, _ => rfl
  | f + 1, i, s => by
    unfold bfs
    split
    · rfl
    · rw [if_neg (by simp [scan])]
      exact bfs_nil k f (i + 1) _
theorem ringOf_nil (n k : Nat) : ringOf [] n k = [] := by
  unfold ringOf
  have := bfs_nil k n 0 ⟨[k], fun _ => none⟩
  split
  · rename_i x s h
    rw [h] at this; simp at this
  · rfl
theorem bestUp_nil (n : Nat) : ∀ k, bestUp [] n k = []
  | 0 => rfl
  | k + 1 => by
    show better (bestUp [] n k) (ringOf [] n k) = _
    rw [bestUp_nil n k, ringOf_nil]; rfl
theorem shortest_bad {D : WorldD} (h : (Wd.worldOk D).1 ≠ 0) : shortest D = [] := by
  unfold shortest
  rw [edges_bad h, bestUp_nil]; rfl
theorem shortest_len (D : WorldD) : (shortest D).length ≤ 3600 := by
  by_cases h : (Wd.worldOk D).1 = 0
  · have hw := Wd.wok_of h
    have h1 := bestUp_len (edges D) D.mods.length D.mods.length
    have h2 := hw.mods
    unfold shortest
    rw [List.length_map]
    omega
  · rw [shortest_bad h]; simp
end Gr
end Go.Proofs.YtkhlicmlnjccdaaDoor
