/-
  The reference's drawing: DrawClean, DrawTries (that they answer, and how great).
-/
import Derived.Test.YtkhlicmlnjccdaaDoorKd35
namespace Go.Proofs.YtkhlicmlnjccdaaDoor
open Go.RowKit Mem

/-- some cursor over the choices, not beyond k -/
def CurIn (w : World) (g : Nat) (A : Option Addr) (n cp : Nat) (code : List Int) (k : Nat) : Prop := ∃ c : Cur, CurAt w g A n cp c ∧ c.code = code ∧ c.pos ≤ k
def RetStr (w : World) (g : Nat) (A : Option Addr) (n cp : Nat) (code : List Int) (k B : Nat) (e : Ending) (w' : World) : Prop := ∃ s : Str, e = .returned (.string s) ∧ s.size ≤ B ∧ CurIn w' g A n cp code k ∧ w.grownBy w' (some g)
def RetNum (w : World) (g : Nat) (A : Option Addr) (n cp : Nat) (code : List Int) (k B : Nat) (e : Ending) (w' : World) : Prop := ∃ r : Nat, e = .returned (.int .i64 r) ∧ r < B ∧ CurIn w' g A n cp code k ∧ w.grownBy w' (some g)
section
variable {w : World} {g n cp k : Nat} {A : Option Addr} {code : List Int}
theorem CurIn.below {w' : World} (h : CurIn w g A n cp code k) (hb : Below w.heap.size w w') : CurIn w' g A n cp code k := by
  obtain ⟨c, h1, h2, h3⟩ := h; exact ⟨c, h1.below hb, h2, h3⟩
theorem CurIn.more {k' : Nat} (h : CurIn w g A n cp code k) (hk : k ≤ k') : CurIn w g A n cp code k' := by
  obtain ⟨c, h1, h2, h3⟩ := h; exact ⟨c, h1, h2, by omega⟩
theorem pick_in (m : Nat) (h : CurIn w g A n cp code k) (hk : k ≤ 1073741000) (hm : 0 < m) (hm2 : m ≤ 1048576) : Calls Tryd.prog 65 #[.pointer (some ⟨g, 0, none⟩), .int .i64 m] w (RetNum w g A n cp code (k + 2) m) := by
  obtain ⟨c, h1, h2, h3⟩ := h
  refine (pick_calls w g n cp m A c h1 (by omega) hm2).mono ?_
  rintro e w' ⟨rfl, t⟩
  have o := pick_ok c m h1.small
  exact ⟨_, rfl, pick_lt c m h1.small hm, ⟨_, t.1, o.code.trans h2, by have := o.pos; omega⟩, t.2⟩
theorem part_in (h : CurIn w g A n cp code k) (hk : k ≤ 1073741000) : Calls Tryd.prog 70 #[.pointer (some ⟨g, 0, none⟩)] w (RetStr w g A n cp code (k + 2) 3) := by
  obtain ⟨c, h1, h2, h3⟩ := h
  refine (part_calls w g n cp A c h1 (by omega)).mono ?_
  rintro e w' ⟨rfl, t⟩
  have o := part_ok c h1.small
  exact ⟨_, rfl, o.2, ⟨_, t.1, o.1.code.trans h2, by have := o.1.pos; omega⟩, t.2⟩
theorem name_in (h : CurIn w g A n cp code k) (hk : k ≤ 1073741000) : Calls Tryd.prog 68 #[.pointer (some ⟨g, 0, none⟩)] w (RetStr w g A n cp code (k + 8) 11) := by
  obtain ⟨c, h1, h2, h3⟩ := h
  refine (name_calls w g n cp A c h1 (by omega)).mono ?_
  rintro e w' ⟨rfl, t⟩
  have o := name_ok c h1.small
  exact ⟨_, rfl, o.2, ⟨_, t.1, o.1.code.trans h2, by have := o.1.pos; omega⟩, t.2⟩
theorem long_in (h : CurIn w g A n cp code k) (hk : k ≤ 1073741000) : Calls Tryd.prog 66 #[.pointer (some ⟨g, 0, none⟩)] w (RetStr w g A n cp code (k + 200) 61) := by
  obtain ⟨c, h1, h2, h3⟩ := h
  refine (long_calls w g n cp A c h1 (by omega)).mono ?_
  rintro e w' ⟨rfl, t⟩
  have o := long_ok c h1.small
  exact ⟨_, rfl, o.2, ⟨_, t.1, o.1.code.trans h2, by have := o.1.pos; omega⟩, t.2⟩
theorem deep_in (h : CurIn w g A n cp code k) (hk : k ≤ 1073741000) : Calls Tryd.prog 69 #[.pointer (some ⟨g, 0, none⟩)] w (RetStr w g A n cp code (k + 200) 60) := by
  obtain ⟨c, h1, h2, h3⟩ := h
  refine (curDeep_calls w g n cp A c h1 (by omega)).mono ?_
  rintro e w' ⟨rfl, t⟩
  have o := deep_ok c h1.small
  exact ⟨_, rfl, o.2, ⟨_, t.1, o.1.code.trans h2, by have := o.1.pos; omega⟩, t.2⟩
theorem ask_in (h : CurIn w g A n cp code k) (hk : k ≤ 1073741000) : Calls Tryd.prog 67 #[.pointer (some ⟨g, 0, none⟩), .slice none 0 0] w (RetStr w g A n cp code (k + 18) 25) := by
  obtain ⟨c, h1, h2, h3⟩ := h
  refine (ask_calls w g n cp 0 0 A none c [] h1 Sl.nil rfl (by omega) (fun x hx => by simp at hx) (by omega)).mono ?_
  rintro e w' ⟨rfl, t⟩
  have o := ask_ok c [] h1.small (fun x hx => by simp at hx)
  exact ⟨_, rfl, o.2, ⟨_, t.1, o.1.code.trans h2, by have := o.1.pos; omega⟩, t.2⟩
/-- a new cursor -/
theorem CurIn.new {w : World} {n cp : Nat} {A : Option Addr} {code : List Int} {S : Nat → Prop} (h : Sl kU8 w S A code) (hn : code.length = n) (hs : ∀ x ∈ code, 0 ≤ x ∧ x ≤ 255) (hf : n ≤ 1048576) :
    CurIn (w.alloc (Obj.cells #[.slice A n cp, .int .i64 0, .int .u64 0] 103)) w.heap.size A n cp code 0 :=
  ⟨⟨code, 0, 0⟩, ⟨heap_alloc_new w _, hn, (h.old.below (Below.alloc (Below.refl _ w) (Nat.le_refl _) _)).more (fun b hb => by have := hb.2; omega), hs, hf⟩, rfl, Nat.le_refl _⟩
end
theorem CurIn.lt {w : World} {g n cp k : Nat} {A : Option Addr} {code : List Int} (h : CurIn w g A n cp code k) : g < w.heap.size := by
  obtain ⟨c, h1, _⟩ := h; exact h1.lt

set_option maxHeartbeats 400000 in
theorem drawClean_calls (w : World) (A : Option Addr) (n cp : Nat) (code : List Int) (S : Nat → Prop) (h : Sl kU8 w S A code) (hn : code.length = n) (hs : ∀ x ∈ code, 0 ≤ x ∧ x ≤ 255) (hf : n ≤ 1048576) :
    Calls Tryd.prog 33 #[.slice A n cp] w fun e w' => ∃ s : Str, e = .returned (.string s) ∧ s.size ≤ 61 ∧ Below w.heap.size w w' := by
  have hb0 : Below w.heap.size w (w.alloc (Obj.cells #[.slice A n cp, .int .i64 0, .int .u64 0] 103)) := by (repeat (first | with_reducible exact Below.refl _ _ | with_reducible assumption | with_reducible refine Below.alloc ?_ (by first | exact Nat.le_refl _ | exact Below.size (by assumption) | exact Nat.le_trans (Below.size (by assumption)) (by simp; done) | (simp; done) | (simp; omega) | omega) _ | with_reducible refine below_drewN ?_ _ | with_reducible refine Below.drew ?_ | with_reducible refine Below.setCell ?_ (by first | exact Nat.le_refl _ | (simp; done) | (simp; omega) | omega) _))
  have hc := CurIn.new (cp := cp) h hn hs hf
  clear h
  go_enter Tryd.func33, Tryd.ntmps33
  go_wp2_with fail
  refine (pick_in 12 hc (by omega) (by omega) (by omega)).mono ?_
  rintro e w1 ⟨r, rfl, hr, hc1, hg⟩
  have hb1 := hb0.grown hg (by simp) (fun k hk => by have := Option.some.inj hk; omega)
  by_cases h0 : r = 0
  · subst h0
    go_wp2_with fail
    refine (long_in hc1 (by omega)).mono ?_
    rintro e w2 ⟨s, rfl, hs2, hc2, hg2⟩
    have hb2 := hb1.grown hg2 hb1.size (fun k hk => by have := Option.some.inj hk; omega)
    go_wp2_with fail
    go_ret
    exact ⟨_, rfl, hs2, hb2⟩
  · have hrb : ((r : Int) == 0) = false := by simp; omega
    clear h0
    go_wp2_with fail
    refine (ask_in hc1 (by omega)).mono ?_
    rintro e w2 ⟨s, rfl, hs2, hc2, hg2⟩
    have hb2 := hb1.grown hg2 hb1.size (fun k hk => by have := Option.some.inj hk; omega)
    go_wp2_with fail
    go_ret
    exact ⟨_, rfl, by omega, hb2⟩
end Go.Proofs.YtkhlicmlnjccdaaDoor
