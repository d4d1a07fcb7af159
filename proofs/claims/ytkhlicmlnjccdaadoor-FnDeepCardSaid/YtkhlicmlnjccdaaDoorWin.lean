/-
  A world by value, as both WorldOk read it.
-/
import Derived.Test.YtkhlicmlnjccdaaDoorWok0
import Derived.Test.YtkhlicmlnjccdaaDoorApp
import Derived.Test.YtkhlicmlnjccdaaDoorMp
import Derived.Test.YtkhlicmlnjccdaaDoorStEq
namespace Go.Proofs.YtkhlicmlnjccdaaDoor
open Go.RowKit Mem

theorem alloc_old (w : World) (o : Obj) {i : Nat} (h : i < w.heap.size) : (w.alloc o).heap[i]? = w.heap[i]? := ((Below.refl w.heap.size w).alloc (Nat.le_refl _) o).block i h
theorem alloc_two (w : World) (o p : Obj) : ((w.alloc o).alloc p).heap[w.heap.size]? = some o ∧ ((w.alloc o).alloc p).heap[w.heap.size + 1]? = some p ∧ w.heap.size + 2 = ((w.alloc o).alloc p).heap.size :=
  ⟨(alloc_old _ _ (by simp)).trans (heap_alloc_new w o), by have := heap_alloc_new (w.alloc o) p; simpa using this, by simp⟩
theorem add_pos (a : Addr) (n : Nat) (h : n ≠ 0) : a.add n = ⟨a.block, a.off + n, none⟩ := by unfold Addr.add; rw [if_neg h]
structure WIn (w : World) (S : Nat → Prop) (vR vM vF : Value) (D : WorldD) : Prop where
  R : SlV kStr w S vR D.roots
  M : SlV kMod w S vM D.mods
  F : SlV kInt w S vF D.faults
structure WSz (D : WorldD) : Prop where
  r : ∀ x ∈ D.roots, x.size ≤ 1048576
  m : ∀ x ∈ D.mods, x.name.size ≤ 1048576
  l : ∀ x ∈ D.mods, ∀ y ∈ x.lines, y.name.size ≤ 1048576
theorem WIn.below {w w' : World} {S : Nat → Prop} {vR vM vF : Value} {D : WorldD} (h : WIn w S vR vM vF D) (hb : Below w.heap.size w w') : WIn w' S vR vM vF D := ⟨h.R.below hb, h.M.below hb, h.F.below hb⟩
theorem WIn.same {w w' : World} {S : Nat → Prop} {vR vM vF : Value} {D : WorldD} (h : WIn w S vR vM vF D) (hs : Same S w w') : WIn w' S vR vM vF D := ⟨h.R.same hs, h.M.same hs, h.F.same hs⟩
theorem WIn.more {w : World} {S T : Nat → Prop} {vR vM vF : Value} {D : WorldD} (h : WIn w S vR vM vF D) (hs : ∀ b, S b → T b) : WIn w T vR vM vF D := ⟨h.R.more hs, h.M.more hs, h.F.more hs⟩
def RetWrong (w : World) (r : Int × Int × Int) (e : Ending) (w' : World) : Prop := e = .returned (.agg #[.int .i64 r.1, .int .i64 r.2.1, .int .i64 r.2.2]) ∧ Below w.heap.size w w'

namespace Wd
theorem badRoot_at {roots : List Str} {k : Nat} {r : Str} (h : roots[k]? = some r) : badRoot roots k = (decide (r ≠ ⟨#[]⟩) && !(decide ((Nm.clean r).1 = 0) && decide ((Nm.clean r).2 = r))) := by unfold badRoot; rw [h]
theorem badFault_at {faults : List Int} {k : Nat} {f : Int} (h : faults[k]? = some f) : badFault faults k = (decide (f < 0) || decide (400 ≤ f) || (decide (0 < k) && match faults[k - 1]? with
    | none => false
    | some e => decide (f ≤ e))) := by unfold badFault; rw [h]; rfl
theorem badMod_at {mods : List ModD} {i : Nat} {m : ModD} (h : mods[i]? = some m) : badMod mods i = (!(decide ((Nm.clean m.name).1 = 0) && decide ((Nm.clean m.name).2 = m.name)) || metMod mods i m.name || decide (60 < m.lines.length)) := by unfold badMod; rw [h]
theorem badLineAt_at {m : ModD} {k : Nat} {l : LineD} (h : m.lines[k]? = some l) : badLineAt m k = !lineOk l ((m.lines.length : Int) - k - 1) := by unfold badLineAt; rw [h]
end Wd
end Go.Proofs.YtkhlicmlnjccdaaDoor
