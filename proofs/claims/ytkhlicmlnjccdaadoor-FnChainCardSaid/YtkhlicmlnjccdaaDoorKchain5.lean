/-
  A law's argument that is a slice of bytes, opened.
-/
import Derived.Test.YtkhlicmlnjccdaaDoorKchain3
import Derived.Test.YtkhlicmlnjccdaaDoorKchain4
namespace Go.Proofs.YtkhlicmlnjccdaaDoor
open Go.ChangeShapes Go.WideShapes Go.ChangeAt Go.RowKit
open Mem in
/-- an argument that is a slice of bytes -/
theorem bytes_open {H : Type} {enc : TypeId × Value → H} {W : World} {d : DataW H} {p : List MemPlace} {a : Option Addr} {len cap : Nat} {spare : Nat → Bool} (h : DataW.Trod enc Tryd.prog W 0 spare true 35 (.slice a len cap) d p) :
    ∃ zs : List Int, Sl kU8 W (fun _ => True) a zs ∧ zs.length = len ∧ (∀ z ∈ zs, 0 ≤ z ∧ z ≤ 255) ∧ len ≤ maxLen := by
  obtain ⟨fuel, hf⟩ := h
  rcases open_ints Tryd.underlying35 Tryd.underlying5 (by kernel_rfl) hf with ⟨hcs, hx⟩ | ⟨a', len', cap', ss, hcs, _, hl, hm, hlen, hx, hcell, hws⟩
  · have hcs' : [Value.slice a len cap] = [.slice none 0 0] := hcs
    injection hcs' with hcs' _
    injection hcs' with h1 h2 h3
    subst h1 h2 h3
    exact ⟨[], Sl.nil, rfl, fun s hs => by simp at hs, Nat.zero_le _⟩
  · have hcs' : [Value.slice a len cap] = [.slice (some a') len' cap'] := hcs
    injection hcs' with hcs' _
    injection hcs' with h1 h2 h3
    subst h1 h2 h3
    have hle : len ≤ ss.length := by rw [hlen]; split <;> omega
    refine ⟨ss.take len, fun hne => ⟨a', rfl, fun i x hi => ?_⟩, by rw [List.length_take]; omega, fun s hs => ?_, by omega⟩
    · have hil : i < len := by
        rcases Nat.lt_or_ge i len with h | h
        · exact h
        · rw [List.getElem?_eq_none (by rw [List.length_take]; omega)] at hi; simp at hi
      have hc := hcell i (by omega)
      rw [List.getElem?_take, if_pos hil] at hi
      refine ⟨trivial, ?_⟩
      rw [show i * kU8.size = i from Nat.mul_one i, hc, List.getD_eq_getElem?_getD, hi]; rfl
    · have := hws s (List.mem_of_mem_take hs)
      simp [Lit.wf] at this
      have h1 : IntKind.u8.min = 0 := by decide
      have h2 : IntKind.u8.max = 255 := by decide
      omega
end Go.Proofs.YtkhlicmlnjccdaaDoor
