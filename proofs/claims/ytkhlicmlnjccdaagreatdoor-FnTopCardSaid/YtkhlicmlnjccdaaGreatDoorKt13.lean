/-
  The reference's drawing: the cursor over the choices, exactly.
-/
import Derived.Test.YtkhlicmlnjccdaaGreatDoorKt11
namespace Go.Proofs.YtkhlicmlnjccdaaGreatDoor
open Go.RowKit Mem

/-- some cursor over the choices, not beyond k -/
def CurIn (w : World) (g : Nat) (A : Option Addr) (n cp : Nat) (code : Cur) (k : Nat) : Prop := ∃ c : Cur, CurAt w g A n cp c ∧ c = code ∧ c.pos ≤ k
def RetStr (w : World) (g : Nat) (A : Option Addr) (n cp : Nat) (p : Str × Cur) (k B : Nat) (e : Ending) (w' : World) : Prop := ∃ s : Str, e = .returned (.string s) ∧ s.size ≤ B ∧ CurIn w' g A n cp p.2 k ∧ w.grownBy w' (some g) ∧ Hid (s = p.1)
def RetNum (w : World) (g : Nat) (A : Option Addr) (n cp : Nat) (p : Nat × Cur) (k B : Nat) (e : Ending) (w' : World) : Prop := ∃ r : Nat, e = .returned (.int .i64 r) ∧ r < B ∧ CurIn w' g A n cp p.2 k ∧ w.grownBy w' (some g) ∧ Hid (r = p.1)
section
variable {w : World} {g n cp k : Nat} {A : Option Addr} {code : Cur}
theorem CurIn.below {w' : World} (h : CurIn w g A n cp code k) (hb : Below w.heap.size w w') : CurIn w' g A n cp code k := by
  obtain ⟨c, h1, h2, h3⟩ := h; exact ⟨c, h1.below hb, h2, h3⟩
theorem CurIn.more {k' : Nat} (h : CurIn w g A n cp code k) (hk : k ≤ k') : CurIn w g A n cp code k' := by
  obtain ⟨c, h1, h2, h3⟩ := h; exact ⟨c, h1, h2, by omega⟩
theorem pick_in (m : Nat) (h : CurIn w g A n cp code k) (hk : k ≤ 1073741000) (hm : 0 < m) (hm2 : m ≤ 1048576) : Calls Tryz.prog 54 #[.pointer (some ⟨g, 0, none⟩), .int .i64 m] w (RetNum w g A n cp (code.pick m) (k + 2) m) := by
  obtain ⟨c, h1, rfl, h3⟩ := h
  refine (pick_calls w g n cp m A c h1 (by omega) hm2).mono ?_
  rintro e w' ⟨rfl, t⟩
  have o := pick_ok c m h1.small
  exact ⟨_, rfl, pick_lt c m h1.small hm, ⟨_, t.1, rfl, by have := o.pos; omega⟩, t.2, rfl⟩
theorem part_in (h : CurIn w g A n cp code k) (hk : k ≤ 1073741000) : Calls Tryz.prog 65 #[.pointer (some ⟨g, 0, none⟩)] w (RetStr w g A n cp code.part (k + 2) 3) := by
  obtain ⟨c, h1, rfl, h3⟩ := h
  refine (part_calls w g n cp A c h1 (by omega)).mono ?_
  rintro e w' ⟨rfl, t⟩
  have o := part_ok c h1.small
  exact ⟨_, rfl, o.2, ⟨_, t.1, rfl, by have := o.1.pos; omega⟩, t.2, rfl⟩
theorem name_in (h : CurIn w g A n cp code k) (hk : k ≤ 1073741000) : Calls Tryz.prog 63 #[.pointer (some ⟨g, 0, none⟩)] w (RetStr w g A n cp code.name (k + 8) 11) := by
  obtain ⟨c, h1, rfl, h3⟩ := h
  refine (name_calls w g n cp A c h1 (by omega)).mono ?_
  rintro e w' ⟨rfl, t⟩
  have o := name_ok c h1.small
  exact ⟨_, rfl, o.2, ⟨_, t.1, rfl, by have := o.1.pos; omega⟩, t.2, rfl⟩
theorem ask_in (h : CurIn w g A n cp code k) (hk : k ≤ 1073741000) : Calls Tryz.prog 66 #[.pointer (some ⟨g, 0, none⟩), .slice none 0 0] w (RetStr w g A n cp (code.ask []) (k + 18) 25) := by
  obtain ⟨c, h1, rfl, h3⟩ := h
  refine (ask_calls w g n cp 0 0 A none c [] h1 Sl.nil rfl (by omega) (fun x hx => by simp at hx) (by omega)).mono ?_
  rintro e w' ⟨rfl, t⟩
  have o := ask_ok c [] h1.small (fun x hx => by simp at hx)
  exact ⟨_, rfl, o.2, ⟨_, t.1, rfl, by have := o.1.pos; omega⟩, t.2, rfl⟩
/-- a new cursor -/
theorem CurIn.new {w : World} {n cp : Nat} {A : Option Addr} {code : List Int} {S : Nat → Prop} (h : Sl kU8 w S A code) (hn : code.length = n) (hs : ∀ x ∈ code, 0 ≤ x ∧ x ≤ 255) (hf : n ≤ 1048576) :
    CurIn (w.alloc (Obj.cells #[.slice A n cp, .int .i64 0, .int .u64 0] 60)) w.heap.size A n cp ⟨code, 0, 0⟩ 0 :=
  ⟨⟨code, 0, 0⟩, ⟨heap_alloc_new w _, hn, (h.old.below (Below.alloc (Below.refl _ w) (Nat.le_refl _) _)).more (fun b hb => by have := hb.2; omega), hs, hf⟩, rfl, Nat.le_refl _⟩
end
theorem CurIn.lt {w : World} {g n cp k : Nat} {A : Option Addr} {code : Cur} (h : CurIn w g A n cp code k) : g < w.heap.size := by
  obtain ⟨c, h1, _⟩ := h; exact h1.lt

theorem Own.ne_blk {α : Type} {k : Flat α} {w : World} {base g : Nat} {e t : TypeId} {v : Value} {xs : List α} {cs : Array Value} {f : Nat × Nat} (h : Own k w base e v xs) (hg : w.heap[g]? = some (.cells cs t f)) (hne : e ≠ t) : v.ownBlock ≠ some g := by
  rcases h.2 with ⟨rfl, _⟩ | ⟨g', cap, cur, rfl, _, hh, _⟩
  · simp [Value.ownBlock]
  · intro he
    have : g' = g := by simpa [Value.ownBlock] using he
    subst this
    rw [hh] at hg
    injection hg with hg
    injection hg with _ ht _
    exact hne ht
theorem CurIn.ne {α : Type} {k : Flat α} {w : World} {g n cp m base : Nat} {A : Option Addr} {code : Cur} {e : TypeId} {v : Value} {xs : List α} (h : CurIn w g A n cp code m) (ho : Own k w base e v xs) (he : e ≠ 60) : v.ownBlock = none ∨ v.ownBlock ≠ some g := by
  obtain ⟨c, h1, _⟩ := h
  exact .inr (Own.ne_blk ho h1.blk he)
/-- the choices lie below B -/
def CodeBelow (A : Option Addr) (n : Nat) (B : Nat) : Prop := n ≠ 0 → ∀ ad, A = some ad → ad.block < B
theorem CurIn.other {α : Type} {k : Flat α} {w w' : World} {g n cp m base : Nat} {A : Option Addr} {code : Cur} {e : TypeId} {v : Value} {xs : List α} (h : CurIn w g A n cp code m) (ho : Own k w base e v xs) (he : e ≠ 60) (hg : w.grownBy w' v.ownBlock) (hc : CodeBelow A n base) : CurIn w' g A n cp code m := by
  have hne := h.ne ho he
  obtain ⟨c, h1, h2, h3⟩ := h
  refine ⟨c, h1.grown hg (fun b hb => ⟨fun e => ?_, fun hcn ad hA e => ?_⟩), h2, h3⟩
  · subst e
    rcases hne with hn | hn
    · rw [hn] at hb; simp at hb
    · exact hn hb.symm
  · have hlt := hc (fun e => hcn (List.eq_nil_of_length_eq_zero (h1.len.trans e))) ad hA
    have := ho.le hb.symm
    omega
end Go.Proofs.YtkhlicmlnjccdaaGreatDoor
