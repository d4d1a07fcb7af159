/-
Plain words on the graph: how long an order and a ring are.
Plain words on the graph: a ring's places are modules.
-/
import Derived.Test.YtkhlicmlnjccdaaDoorKorder2
namespace Go.Proofs.YtkhlicmlnjccdaaDoor
namespace Gr
theorem order_len (D : WorldD) (name : Str) : (order D name).length ≤ 3600 := by
  unfold order
  split
  · simp
  · rename_i h
    have hw := Wd.wok_of (Classical.not_not.1 h)
    split
    · simp
    · rename_i k hk
      have hv := visit_to (E := edges D) (n := D.mods.length) (fun e he => edges_fit he) (D.mods.length + 1) k ⟨[], []⟩ (toOf_lt hk) ⟨List.nodup_nil, fun x hx => by simp at hx⟩
      have h1 := hv.bal
      have h2 := hv.ok.len
      have h3 := hw.mods
      simp only [List.length_nil, List.length_map] at h1 ⊢
      omega
theorem back_len (fr : Nat → Option Nat) (k : Nat) : ∀ f x, (back fr k f x).length ≤ f
  | 0, x => by simp [back]
  | f + 1, x => by
    unfold back
    split
    · simp
    · split
      · rename_i p _
        have := back_len fr k f p
        simp; omega
      · simp
theorem ringOf_len' (E : List EdgeD) (n k : Nat) : (ringOf E n k).length ≤ n + 1 := by
  unfold ringOf
  split
  · rename_i x s _
    have := back_len s.fr k n x
    simp; omega
  · simp
theorem better_len {b r : List Nat} {m : Nat} (hb : b.length ≤ m) (hr : r.length ≤ m) : (better b r).length ≤ m := by
  unfold better
  split
  · exact hr
  · exact hb
theorem bestUp_len (E : List EdgeD) (n : Nat) : ∀ k, (bestUp E n k).length ≤ n + 1
  | 0 => by simp [bestUp]
  | k + 1 => better_len (bestUp_len E n k) (ringOf_len' E n k)
theorem bfs_nil (k : Nat) : ∀ (f i : Nat) (s : BS), (bfs k [] f i s).1 = none
  | 0, _, _ => rfl
  | f + 1, i, s => by
    unfold bfs
    split
    · rfl
    · rw [if_neg (by simp [scan])]
      exact bfs_nil k f (i + 1) _
theorem ringOf_nil (n k : Nat) : ringOf [] n k = [] := by
  unfold ringOf
  have := bfs_nil k n 0 ⟨[k], fun _ => none⟩
  split
  · rename_i x s h
    rw [h] at this; simp at this
  · rfl
theorem bestUp_nil (n : Nat) : ∀ k, bestUp [] n k = []
  | 0 => rfl
  | k + 1 => by
    show better (bestUp [] n k) (ringOf [] n k) = _
    rw [bestUp_nil n k, ringOf_nil]; rfl
theorem shortest_bad {D : WorldD} (h : (Wd.worldOk D).1 ≠ 0) : shortest D = [] := by
  unfold shortest
  rw [edges_bad h, bestUp_nil]; rfl
theorem shortest_len (D : WorldD) : (shortest D).length ≤ 3600 := by
  by_cases h : (Wd.worldOk D).1 = 0
  · have hw := Wd.wok_of h
    have h1 := bestUp_len (edges D) D.mods.length D.mods.length
    have h2 := hw.mods
    unfold shortest
    rw [List.length_map]
    omega
  · rw [shortest_bad h]; simp
end Gr
end Go.Proofs.YtkhlicmlnjccdaaDoor

namespace Go.Proofs.YtkhlicmlnjccdaaDoor
namespace Gr
theorem scan_ok {n k x i : Nat} : ∀ (E : List EdgeD) (s : BS), (∀ e ∈ E, Fit n e) → BOk n k s → s.q[i]? = some x → BOk n k (scan k x E s).2 ∧ (scan k x E s).2.q[i]? = some x
  | [], s, _, h, hx => ⟨h, hx⟩
  | e :: r, s, hE, h, hx => by
    have hr : ∀ e ∈ r, Fit n e := fun e he => hE e (List.mem_cons_of_mem _ he)
    have hf := hE e (by simp)
    unfold scan
    split
    · rename_i hc
      split
      · exact ⟨h, hx⟩
      · rename_i hk
        refine scan_ok r _ hr ?_ ?_
        · split
          · exact h
          · rename_i hs
            have := hf.dst1
            exact h.met (by omega) (by omega) (by simpa using hs) hx
        · split
          · exact hx
          · exact met_q hx
    · exact scan_ok r s hr h hx
theorem bfs_ok {n k : Nat} {E : List EdgeD} (hE : ∀ e ∈ E, Fit n e) : ∀ (f i : Nat) (s : BS) (x : Nat) (s' : BS), BOk n k s → bfs k E f i s = (some x, s') → BOk n k s' ∧ ∃ j : Nat, s'.q[j]? = some x
  | 0, i, s, x, s', h, hb => by simp [bfs] at hb
  | f + 1, i, s, x, s', h, hb => by
    unfold bfs at hb
    split at hb
    · simp at hb
    · rename_i y hy
      obtain ⟨h1, h2⟩ := scan_ok (k := k) (x := y) (i := i) E s hE h hy
      split at hb
      · injection hb with hb1 hb2
        injection hb1 with hb1
        subst hb1 hb2
        exact ⟨h1, i, h2⟩
      · exact bfs_ok hE f (i + 1) _ x s' h1 hb
theorem ringOf_lt {n k : Nat} {E : List EdgeD} (hE : ∀ e ∈ E, Fit n e) (hk : k < n) : ∀ x ∈ ringOf E n k, x < n := by
  unfold ringOf
  split
  · rename_i x s hb
    obtain ⟨h1, j, hj⟩ := bfs_ok hE n 0 _ x s (BOk.start hk) hb
    obtain ⟨l, hl, hll, hln⟩ := h1.way j x hj
    have hjl : j < s.q.length := by
      rcases Nat.lt_or_ge j s.q.length with h | h
      · exact h
      · rw [List.getElem?_eq_none h] at hj; simp at hj
    have := h1.len
    rw [way_back hl n (by omega)]
    intro y hy
    rcases List.mem_cons.1 hy with rfl | hy
    · exact hk
    · exact hln y (by simpa using hy)
  · simp
theorem bestUp_lt {n : Nat} {E : List EdgeD} (hE : ∀ e ∈ E, Fit n e) : ∀ k, k ≤ n → ∀ x ∈ bestUp E n k, x < n
  | 0, _ => by simp [bestUp]
  | k + 1, h => by
    have ih := bestUp_lt hE k (by omega)
    have hr := ringOf_lt hE (k := k) (by omega)
    show ∀ x ∈ better (bestUp E n k) (ringOf E n k), x < n
    unfold better
    split
    · exact hr
    · exact ih
theorem bestUp_succ (E : List EdgeD) (n k : Nat) : bestUp E n (k + 1) = better (bestUp E n k) (ringOf E n k) := rfl
theorem better_no {b r : List Nat} (h : r = [] ∨ (b ≠ [] ∧ b.length ≤ r.length)) : better b r = b := by
  unfold better
  rw [if_neg]
  rintro ⟨h1, h2⟩
  rcases h with h | ⟨h3, h4⟩
  · exact h1 h
  · rcases h2 with h2 | h2
    · exact h3 h2
    · omega
theorem better_yes {b r : List Nat} (h : r ≠ []) (h2 : b = [] ∨ r.length < b.length) : better b r = r := if_pos ⟨h, h2⟩
end Gr
end Go.Proofs.YtkhlicmlnjccdaaDoor
