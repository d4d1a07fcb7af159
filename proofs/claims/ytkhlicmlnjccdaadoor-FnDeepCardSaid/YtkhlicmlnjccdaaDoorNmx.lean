/-
  Plain words on names: tries are in one form, none twice; when Within has code 4. No program in sight.
-/
import Derived.Test.YtkhlicmlnjccdaaDoorWith
namespace Go.Proofs.YtkhlicmlnjccdaaDoor
open Mem
namespace Nm
theorem rooted_clean {r n : Str} (h : (rooted r n).1 = 0) : clean (rooted r n).2 = (0, (rooted r n).2) := by
  obtain ⟨t, ht⟩ : ∃ t, rooted r n = clean t := by unfold rooted; split <;> exact ⟨_, rfl⟩
  rw [ht] at h ⊢
  rw [clean_clean h]
  exact Prod.ext h rfl
theorem within_clean {f s : Str} (h : (within f s).1 = 0) : clean (within f s).2 = (0, (within f s).2) := by
  unfold within at h ⊢
  by_cases hc : (clean f).1 ≠ 0
  · rw [if_pos hc] at h; simp at h
  · rw [if_neg hc] at h ⊢
    have hc : (clean f).1 = 0 := Classical.not_not.1 hc
    obtain ⟨r, h1, h2, h3, h4, h5⟩ := clean_zero hc
    rw [h4] at h ⊢
    obtain ⟨r', g1, g2, g3, g4⟩ := named_zero (row := r.dropLast) (name := bs s) h (fun p hp => h2 p (List.dropLast_subset _ hp))
    rw [g3]
    exact clean_row g1 g2 g4
theorem within_four (f s : Str) : (within f s).1 = 4 ↔ (clean f).1 ≠ 0 := by
  unfold within
  by_cases hc : (clean f).1 ≠ 0
  · rw [if_pos hc]; simp [hc]
  · rw [if_neg hc]
    refine ⟨fun h => ?_, fun h => absurd h hc⟩
    exfalso
    have hw : ∀ (ps row : List Bs), (walk row ps).1 = 0 ∨ (walk row ps).1 = 1 ∨ (walk row ps).1 = 2 := by
      intro ps
      induction ps with
      | nil => intro row; exact .inl rfl
      | cons p ps ih =>
        intro row
        unfold walk
        split
        · exact ih _
        · split
          · split
            · exact .inr (.inr rfl)
            · exact ih _
          · split
            · exact ih _
            · exact .inr (.inl rfl)
    have hn : ∀ (row : List Bs) (n : Bs), (named row n).1 ≠ 4 := by
      intro row n
      unfold named
      split
      · simp
      · split
        · rcases hw (parts n) row with e | e | e <;> rw [e] <;> simp
        · split
          · simp
          · split <;> simp
    exact hn _ _ h
def Fine (l : List Str) : Prop := (∀ x ∈ l, clean x = (0, x)) ∧ l.Nodup
theorem triesOf_fine (name : Str) : ∀ (rs out : List Str), Fine out → Fine (triesOf name out rs)
  | [], out, h => h
  | r :: rs, out, h => by
    unfold triesOf
    split
    · rename_i hc
      refine triesOf_fine name rs _ ⟨fun x hx => ?_, ?_⟩
      · rcases List.mem_append.1 hx with hx | hx
        · exact h.1 x hx
        · obtain rfl : x = (rooted r name).2 := by simpa using hx
          exact rooted_clean hc.1
      · rw [List.nodup_append]
        refine ⟨h.2, by simp, fun a ha b hb => ?_⟩
        obtain rfl : b = (rooted r name).2 := by simpa using hb
        intro e
        subst e
        have := hc.2
        unfold metIn at this
        rw [List.any_eq_false] at this
        exact this _ ha (by simp)
    · exact triesOf_fine name rs out h
theorem tries_fine (roots : List Str) (f s : Str) : Fine (tries roots f s) := by
  unfold tries
  split
  · exact ⟨by simp, by simp⟩
  · split
    · split
      · exact ⟨by simp, by simp⟩
      · rename_i h
        have h : (within f s).1 = 0 := Classical.not_not.1 h
        exact ⟨by simpa using within_clean h, by simp⟩
    · split
      · exact ⟨by simp, by simp⟩
      · exact triesOf_fine _ _ _ ⟨by simp, by simp⟩
theorem Fine.get {l : List Str} (h : Fine l) {i : Nat} (hi : i < l.length) : clean l[i] = (0, l[i]) := h.1 _ (List.getElem_mem _)
theorem Fine.ne {l : List Str} (h : Fine l) {i j : Nat} (hij : i < j) (hj : j < l.length) : l[i]'(by omega) ≠ l[j] := List.pairwise_iff_getElem.1 h.2 i j _ hj hij
end Nm
end Go.Proofs.YtkhlicmlnjccdaaDoor
