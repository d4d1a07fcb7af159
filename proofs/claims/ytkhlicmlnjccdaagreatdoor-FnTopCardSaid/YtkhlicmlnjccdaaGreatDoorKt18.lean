/-
  Rows of rows of texts, each of its own: how one reads and turns. No program in sight.
-/
import Derived.Test.YtkhlicmlnjccdaaGreatDoorKt17
namespace Go.Proofs.YtkhlicmlnjccdaaGreatDoor
open Go.RowKit Mem
namespace Mem
theorem OwnR.at_ {w : World} {B : Nat} {K : Nat → Prop} {v : Value} {xs : List (List Str)} {m : Nat} {x : List Str} (h : OwnR w B K v xs) (hm : xs[m]? = some x) :
    ∃ (g cap : Nat) (A : Option Addr) (c : Nat), v = .slice (some ⟨g, 0, none⟩) xs.length cap ∧ w.cell? ⟨g, m, none⟩ = some (.slice A x.length c) ∧ Own fStr w B 9 (.slice A x.length c) x ∧
      ∀ (w' : World) (y : List Str), y.length = x.length → Own fStr w' B 9 (.slice A x.length c) y → w.grownBy w' (Value.slice A x.length c).ownBlock → OwnR w' B K v (xs.set m y) := by
  obtain ⟨hs, h1, h2, h3⟩ := h
  obtain ⟨u, hu, ho, hk⟩ := h2 m x hm
  obtain ⟨A, c, hv, _, _, _⟩ := ho.slV
  subst hv
  have hr := h1.2
  rcases hr with ⟨_, h0⟩ | ⟨g, cap, cur, hv, hb, hh, hnc, hcm, hsz, ht⟩
  · rw [List.eq_nil_of_length_eq_zero h0] at hm; simp at hm
  · refine ⟨g, cap, A, c, hv, ?_, ho, fun w' y hy hoy hg => ?_⟩
    · have := World.ownsRow.cells h1 (g := g) (by rw [hv]; rfl) m _ hu
      rwa [add_plain, Nat.zero_add] at this
    · refine ⟨hs, ?_, fun i z hi => ?_, h3⟩
      · rw [List.length_set]; exact h1.kept hg (apart_ty h1 ho (by decide))
      · by_cases he : m = i
        · subst he
          rw [List.getElem?_set_self (by
            rcases Nat.lt_or_ge m xs.length with h | h
            · exact h
            · rw [List.getElem?_eq_none h] at hm; simp at hm)] at hi
          obtain rfl := Option.some.inj hi
          exact ⟨_, hu, hoy, hk⟩
        · rw [List.getElem?_set_ne he] at hi
          obtain ⟨u2, hu2, ho2, hk2⟩ := h2 i z hi
          refine ⟨u2, hu2, ho2.kept hg ?_, hk2⟩
          cases hb2 : u2.ownBlock with
          | none => exact .inl rfl
          | some b => exact .inr fun e => he (h3 m i _ u2 b hu hu2 e.symm hb2)
theorem OwnR.slV {w : World} {B : Nat} {K : Nat → Prop} {v : Value} {xs : List (List Str)} (h : OwnR w B K v xs) : SlV (kSl kStr) w (fun _ => True) v xs := by
  obtain ⟨hs, h1, h2, h3⟩ := h
  have hr := h1.2
  rcases hr with ⟨hv, h0⟩ | ⟨g, cap, cur, hv, hb, hh, hnc, hcm, hsz, ht⟩
  · obtain rfl := List.eq_nil_of_length_eq_zero h0
    exact ⟨none, 0, hv, Nat.le_refl _, Nat.zero_le _, Sl.nil⟩
  · refine ⟨_, cap, hv, hnc, hcm, fun _ => ⟨_, rfl, fun i x hi => ?_⟩⟩
    obtain ⟨u, hu, ho, hk⟩ := h2 i x hi
    obtain ⟨A4, c4, hv4, hl4, hc4, hs4⟩ := ho.slV
    subst hv4
    have := World.ownsRow.cells h1 (g := g) (by rw [hv]; rfl) i _ hu
    refine ⟨A4, c4, ⟨trivial, ?_⟩, hl4, hc4, hs4.more (fun _ _ => trivial)⟩
    rw [show i * (kSl kStr).size = i from Nat.mul_one i]
    exact this
end Mem
end Go.Proofs.YtkhlicmlnjccdaaGreatDoor
