/-
  Plain words on worlds: what holds of a world that is one. No program in sight.
-/
import Derived.Test.YtkhlicmlnjccdaaDoorWd
import Derived.Test.YtkhlicmlnjccdaaDoorNmx
namespace Go.Proofs.YtkhlicmlnjccdaaDoor
def idxI (o : Option Nat) : Int := match o with
  | some i => i
  | none => -1
theorem idxI_nonneg (o : Option Nat) : 0 ≤ idxI o ↔ o.isSome = true := by cases o <;> simp [idxI]
namespace Nm
theorem clean_short {s : Str} (h : (clean s).1 = 0) : s.size ≤ 60 := by
  rw [← bs_length]
  rcases Nat.lt_or_ge 60 (bs s).length with h1 | h1
  · unfold clean at h; rw [named_long h1] at h; simp at h
  · exact h1
theorem clean_ne {s : Str} (h : clean s = (0, s)) : s ≠ ⟨#[]⟩ := fun e => by
  subst e
  have : (clean ⟨#[]⟩).1 = 1 := by decide +kernel
  rw [h] at this
  simp at this
theorem tries_ne {roots : List Str} {f s x : Str} (h : x ∈ tries roots f s) : x ≠ ⟨#[]⟩ := clean_ne ((tries_fine roots f s).1 x h)
end Nm
namespace Wd
structure WOk (D : WorldD) : Prop where
  mods : D.mods.length ≤ 60
  roots : D.roots.length ≤ 8
  nfaults : D.faults.length ≤ 400
  lines : ∀ m ∈ D.mods, m.lines.length ≤ 60
  ok : ∀ m ∈ D.mods, ∀ (i : Nat) (l : LineD), m.lines[i]? = some l → lineOk l ((m.lines.length : Int) - i - 1) = true
  clean : ∀ m ∈ D.mods, Nm.clean m.name = (0, m.name)
  faults : ∀ f ∈ D.faults, 0 ≤ f ∧ f < 400
  uniq : ∀ (i j : Nat) (m m' : ModD), D.mods[i]? = some m → D.mods[j]? = some m' → m.name = m'.name → i = j
theorem wok_of {D : WorldD} (h : (worldOk D).1 = 0) : WOk D := by
  unfold worldOk at h
  by_cases h0 : 60 < D.mods.length ∨ 8 < D.roots.length ∨ 400 < D.faults.length
  · rw [if_pos h0] at h; simp at h
  rw [if_neg h0] at h
  by_cases h1 : (first (badRoot D.roots) D.roots.length).isSome = true
  · rw [if_pos h1] at h; simp at h
  rw [if_neg h1] at h
  by_cases h2 : (first (badFault D.faults) D.faults.length).isSome = true
  · rw [if_pos h2] at h; simp at h
  rw [if_neg h2] at h
  cases h3 : first (badMod D.mods) D.mods.length with
  | some i => rw [h3] at h; simp at h
  | none =>
    rw [h3] at h
    replace h : (wrongLine D.mods).1 = 0 := h
    unfold wrongLine at h
    cases h4 : first (fun i => (badLineOf D.mods i).isSome) D.mods.length with
    | some i => rw [h4] at h; simp at h
    | none =>
      have hm := first_none_inv h3
      have hl := first_none_inv h4
      have hlt : ∀ {i : Nat} {m : ModD}, D.mods[i]? = some m → i < D.mods.length := fun {i m} hi => by
        rcases Nat.lt_or_ge i D.mods.length with h | h
        · exact h
        · rw [List.getElem?_eq_none h] at hi; simp at hi
      have hbad : ∀ {i : Nat} {m : ModD}, D.mods[i]? = some m → Nm.clean m.name = (0, m.name) ∧ metMod D.mods i m.name = false ∧ m.lines.length ≤ 60 := fun {i m} hi => by
        have := hm i (hlt hi)
        unfold badMod at this
        rw [hi] at this
        simp only [Bool.or_eq_false_iff, Bool.not_eq_false', Bool.and_eq_true, decide_eq_true_eq, decide_eq_false_iff_not] at this
        exact ⟨Prod.ext this.1.1.1 this.1.1.2, this.1.2, by omega⟩
      have huniq : ∀ (i j : Nat) (m m' : ModD), D.mods[i]? = some m → D.mods[j]? = some m' → m.name = m'.name → j ≤ i := fun i j m m' hi hj he => by
        rcases Nat.lt_or_ge i j with hij | hij
        · exfalso
          have := (hbad hj).2.1
          unfold metMod at this
          rw [List.any_eq_false] at this
          refine this m (List.mem_of_getElem? (i := i) ?_) (by simpa using he)
          rw [List.getElem?_take, if_pos hij]; exact hi
        · exact hij
      refine ⟨by omega, by omega, by omega, fun m hmm => ?_, fun m hmm i l hi => ?_, fun m hmm => ?_, fun f hf => ?_, fun i j m m' hi hj he => Nat.le_antisymm (huniq j i m' m hj hi he.symm) (huniq i j m m' hi hj he)⟩
      · obtain ⟨i, hi⟩ := List.getElem?_of_mem hmm
        exact (hbad hi).2.2
      · obtain ⟨j, hj⟩ := List.getElem?_of_mem hmm
        have h5 := hl j (hlt hj)
        have h6 : badLineOf D.mods j = none := by
          cases hb : badLineOf D.mods j with
          | none => rfl
          | some x => rw [hb] at h5; simp at h5
        unfold badLineOf at h6
        rw [hj] at h6
        have hil : i < m.lines.length := by
          rcases Nat.lt_or_ge i m.lines.length with h | h
          · exact h
          · rw [List.getElem?_eq_none h] at hi; simp at hi
        have h7 := first_none_inv h6 i hil
        unfold badLineAt at h7
        rw [hi] at h7
        simpa using h7
      · obtain ⟨i, hi⟩ := List.getElem?_of_mem hmm
        exact (hbad hi).1
      · obtain ⟨i, hi⟩ := List.getElem?_of_mem hf
        have hil : i < D.faults.length := by
          rcases Nat.lt_or_ge i D.faults.length with h | h
          · exact h
          · rw [List.getElem?_eq_none h] at hi; simp at hi
        have h2' : first (badFault D.faults) D.faults.length = none := by
          cases hb : first (badFault D.faults) D.faults.length with
          | none => rfl
          | some x => rw [hb] at h2; simp at h2
        have h5 := first_none_inv h2' i hil
        unfold badFault at h5
        rw [hi] at h5
        simp only [Bool.or_eq_false_iff, decide_eq_false_iff_not] at h5
        omega
theorem worldOk_zero_of {D : WorldD} (h : (worldOk D).1 = 0) : worldOk D = (0, 0, 0) := by
  unfold worldOk at h ⊢
  by_cases h0 : 60 < D.mods.length ∨ 8 < D.roots.length ∨ 400 < D.faults.length
  · rw [if_pos h0] at h; simp at h
  rw [if_neg h0] at h ⊢
  by_cases h1 : (first (badRoot D.roots) D.roots.length).isSome = true
  · rw [if_pos h1] at h; simp at h
  rw [if_neg h1] at h ⊢
  by_cases h2 : (first (badFault D.faults) D.faults.length).isSome = true
  · rw [if_pos h2] at h; simp at h
  rw [if_neg h2] at h ⊢
  cases h3 : first (badMod D.mods) D.mods.length with
  | some i => rw [h3] at h; simp at h
  | none =>
    rw [h3] at h
    replace h : (wrongLine D.mods).1 = 0 := h
    show wrongLine D.mods = _
    unfold wrongLine at h ⊢
    cases h4 : first (fun i => (badLineOf D.mods i).isSome) D.mods.length with
    | some i => rw [h4] at h; simp at h
    | none => rfl
end Wd
end Go.Proofs.YtkhlicmlnjccdaaDoor
