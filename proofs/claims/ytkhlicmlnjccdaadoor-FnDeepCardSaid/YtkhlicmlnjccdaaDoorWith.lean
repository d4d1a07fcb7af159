/-
  Within: plain laws on names in their one form, and the two walks.
-/
import Derived.Test.YtkhlicmlnjccdaaDoorInm3
namespace Go.Proofs.YtkhlicmlnjccdaaDoor
open Go.RowKit Mem
namespace Nm
theorem ok_ne {c : UInt8} (h : okByte c = true) : c ≠ 47 ∧ c ≠ 46 := by
  constructor
  · rintro rfl; revert h; decide
  · rintro rfl; revert h; decide
theorem plain_all {p : Bs} (h : plain p = true) : ∀ (j : Nat) (c : UInt8), p[j]? = some c → okByte c = true := fun j c hj => by
  unfold plain at h
  rw [Bool.and_eq_true] at h
  exact List.all_eq_true.1 h.2 c (List.mem_of_getElem? hj)
theorem plain_dots {p : Bs} (h : plain p = true) : p ≠ [46] ∧ p ≠ [46, 46] := by
  constructor
  · rintro rfl; exact (ok_ne (plain_all h 0 46 rfl)).2 rfl
  · rintro rfl; exact (ok_ne (plain_all h 0 46 rfl)).2 rfl
theorem parts_join : ∀ (ps : List Bs), ps ≠ [] → (∀ p ∈ ps, plain p = true) → parts (join ps) = ps
  | [], h, _ => absurd rfl h
  | [p], _, hp => by
    rw [join_one]
    exact parts_one p fun j hj e => (ok_ne (plain_all (hp p (by simp)) j 47 e)).1 rfl
  | p :: q :: r, _, hp => by
    have h1 : join (p :: q :: r) = p ++ [47] ++ join (q :: r) := by simp [join, Lib.join, List.intercalate, List.intersperse_cons_cons]
    have ih := parts_join (q :: r) (by simp) (fun x hx => hp x (List.mem_cons_of_mem _ hx))
    have h2 := parts_at p.length (join (p :: q :: r)) (fun j hj e => by
      rw [h1, List.append_assoc, List.getElem?_append_left hj] at e
      exact (ok_ne (plain_all (hp p (by simp)) j 47 e)).1 rfl) (by rw [h1, List.append_assoc, List.getElem?_append_right (Nat.le_refl _)]; simp)
    rw [h2, h1]
    congr 1
    · simp
    · rw [show p.length + 1 = (p ++ [47]).length by simp, List.drop_left, ih]
theorem walk_row : ∀ (ps row : List Bs), (∀ p ∈ ps, plain p = true) → walk row ps = (0, row ++ ps)
  | [], row, _ => by simp [walk]
  | p :: ps, row, hp => by
    have h := hp p (by simp)
    unfold walk
    rw [if_neg (plain_dots h).1, if_neg (plain_dots h).2, if_pos h, walk_row ps (row ++ [p]) (fun q hq => hp q (List.mem_cons_of_mem _ hq))]
    simp
theorem named_zero {row : List Bs} {name : Bs} (h : (named row name).1 = 0) (hp : ∀ p ∈ row, plain p = true) : ∃ r : List Bs, r ≠ [] ∧ (∀ p ∈ r, plain p = true) ∧ (named row name) = (0, join r) ∧ (join r).length ≤ 60 := by
  generalize hr : walk row (parts name) = r
  have hpl := walk_plain (parts name) row hp
  rw [hr] at hpl
  by_cases h60 : 60 < name.length
  · rw [named_long h60] at h; simp at h
  · by_cases hc : r.1 = 0
    · by_cases hj : join r.2 = []
      · rw [named_none h60 hr hc hj] at h; simp at h
      · by_cases hl : 60 < (join r.2).length
        · rw [named_over h60 hr hc hj hl] at h; simp at h
        · exact ⟨r.2, fun e => hj (by rw [e]; rfl), hpl, named_ok h60 hr hc hj hl, by omega⟩
    · rw [named_code h60 hr hc] at h; exact absurd h hc
theorem clean_zero {s : Str} (h : (clean s).1 = 0) : ∃ r : List Bs, r ≠ [] ∧ (∀ p ∈ r, plain p = true) ∧ bs (clean s).2 = join r ∧ parts (bs (clean s).2) = r ∧ (join r).length ≤ 60 := by
  obtain ⟨r, h1, h2, h3, h4⟩ := named_zero (row := []) (name := bs s) h (by simp)
  have h5 : bs (clean s).2 = join r := by unfold clean; rw [h3]; exact bs_mk _
  exact ⟨r, h1, h2, h5, by rw [h5]; exact parts_join r h1 h2, h4⟩
theorem clean_row {r : List Bs} (h1 : r ≠ []) (h2 : ∀ p ∈ r, plain p = true) (h4 : (join r).length ≤ 60) : clean (mk (join r)) = (0, mk (join r)) := by
  have hw : walk [] (parts (join r)) = (0, r) := by rw [parts_join r h1 h2, walk_row r [] h2]; simp
  unfold clean
  rw [bs_mk, named_ok (by omega) hw rfl (join_ne h1 h2) (by simpa using h4)]
theorem clean_clean {s : Str} (h : (clean s).1 = 0) : clean (clean s).2 = clean s := by
  obtain ⟨r, h1, h2, h3, h4, h5⟩ := clean_zero h
  have e : (clean s).2 = mk (join r) := by rw [← h3, mk_bs]
  have := clean_row h1 h2 h5
  rw [← e] at this
  rw [this]
  exact Prod.ext h.symm rfl
theorem named_size (row : List Bs) (name : Bs) : (named row name).2.length ≤ 60 := by
  unfold named
  split
  · simp
  · split
    · simp
    · split
      · simp
      · split
        · simp
        · show (join _).length ≤ 60; omega
theorem clean_size (s : Str) : (clean s).2.size ≤ 60 := by unfold clean; rw [mk_size]; exact named_size _ _
theorem within_size (f s : Str) : (within f s).2.size ≤ 60 := by
  unfold within
  split
  · simp [mk_size]
  · rw [mk_size]; exact named_size _ _
end Nm
namespace Mem
theorem Sl.take {α : Type} {k : Kind α} {w : World} {S : Nat → Prop} {A : Option Addr} {xs : List α} (h : Sl k w S A xs) (m : Nat) : Sl k w S A (xs.take m) := fun hn => by
  have hx : xs ≠ [] := fun e => hn (by rw [e]; simp)
  obtain ⟨ad, hA, hc⟩ := h hx
  exact ⟨ad, hA, fun i x hi => hc i x (by
    rw [List.getElem?_take] at hi
    split at hi
    · exact hi
    · simp at hi)⟩
end Mem
end Go.Proofs.YtkhlicmlnjccdaaDoor
