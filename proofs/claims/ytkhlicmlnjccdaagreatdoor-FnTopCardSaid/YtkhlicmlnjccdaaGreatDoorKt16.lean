/-
A world by value, as both WorldOk read it.
Rows of structs that a call makes and fills: blocks known cell by cell. No program in sight.
Plain words on an answer: what loading tells is small. No program in sight.
-/
import Derived.Test.YtkhlicmlnjccdaaGreatDoorKt15
import Derived.Test.YtkhlicmlnjccdaaGreatDoorKt2
import Derived.Test.YtkhlicmlnjccdaaGreatDoorKt1
import Derived.Laws.MakeOwn
import Derived.Test.YtkhlicmlnjccdaaGreatDoorKt10
import Derived.Test.YtkhlicmlnjccdaaGreatDoorKt7
namespace Go.Proofs.YtkhlicmlnjccdaaGreatDoor
open Go.RowKit Mem

theorem alloc_old (w : World) (o : Obj) {i : Nat} (h : i < w.heap.size) : (w.alloc o).heap[i]? = w.heap[i]? := ((Below.refl w.heap.size w).alloc (Nat.le_refl _) o).block i h
theorem alloc_two (w : World) (o p : Obj) : ((w.alloc o).alloc p).heap[w.heap.size]? = some o ∧ ((w.alloc o).alloc p).heap[w.heap.size + 1]? = some p ∧ w.heap.size + 2 = ((w.alloc o).alloc p).heap.size :=
  ⟨(alloc_old _ _ (by simp)).trans (heap_alloc_new w o), by have := heap_alloc_new (w.alloc o) p; simpa using this, by simp⟩
theorem add_pos (a : Addr) (n : Nat) (h : n ≠ 0) : a.add n = ⟨a.block, a.off + n, none⟩ := by unfold Addr.add; rw [if_neg h]
structure WIn (w : World) (S : Nat → Prop) (vR vM vF : Value) (D : WorldD) : Prop where
  R : SlV kStr w S vR D.roots
  M : SlV kMod w S vM D.mods
  F : SlV kInt w S vF D.faults
structure WSz (D : WorldD) : Prop where
  r : ∀ x ∈ D.roots, x.size ≤ 1048576
  m : ∀ x ∈ D.mods, x.name.size ≤ 1048576
  l : ∀ x ∈ D.mods, ∀ y ∈ x.lines, y.name.size ≤ 1048576
theorem WIn.below {w w' : World} {S : Nat → Prop} {vR vM vF : Value} {D : WorldD} (h : WIn w S vR vM vF D) (hb : Below w.heap.size w w') : WIn w' S vR vM vF D := ⟨h.R.below hb, h.M.below hb, h.F.below hb⟩
theorem WIn.same {w w' : World} {S : Nat → Prop} {vR vM vF : Value} {D : WorldD} (h : WIn w S vR vM vF D) (hs : Same S w w') : WIn w' S vR vM vF D := ⟨h.R.same hs, h.M.same hs, h.F.same hs⟩
theorem WIn.more {w : World} {S T : Nat → Prop} {vR vM vF : Value} {D : WorldD} (h : WIn w S vR vM vF D) (hs : ∀ b, S b → T b) : WIn w T vR vM vF D := ⟨h.R.more hs, h.M.more hs, h.F.more hs⟩
def RetWrong (w : World) (r : Int × Int × Int) (e : Ending) (w' : World) : Prop := e = .returned (.agg #[.int .i64 r.1, .int .i64 r.2.1, .int .i64 r.2.2]) ∧ Below w.heap.size w w'

namespace Wd
theorem badRoot_at {roots : List Str} {k : Nat} {r : Str} (h : roots[k]? = some r) : badRoot roots k = (decide (r ≠ ⟨#[]⟩) && !(decide ((Nm.clean r).1 = 0) && decide ((Nm.clean r).2 = r))) := by unfold badRoot; rw [h]
theorem badFault_at {faults : List Int} {k : Nat} {f : Int} (h : faults[k]? = some f) : badFault faults k = (decide (f < 0) || decide (400 ≤ f) || (decide (0 < k) && match faults[k - 1]? with
    | none => false
    | some e => decide (f ≤ e))) := by unfold badFault; rw [h]; rfl
theorem badMod_at {mods : List ModD} {i : Nat} {m : ModD} (h : mods[i]? = some m) : badMod mods i = (!(decide ((Nm.clean m.name).1 = 0) && decide ((Nm.clean m.name).2 = m.name)) || metMod mods i m.name || decide (60 < m.lines.length)) := by unfold badMod; rw [h]
theorem badLineAt_at {m : ModD} {k : Nat} {l : LineD} (h : m.lines[k]? = some l) : badLineAt m k = !lineOk l ((m.lines.length : Int) - k - 1) := by unfold badLineAt; rw [h]
end Wd
end Go.Proofs.YtkhlicmlnjccdaaGreatDoor

namespace Go.Proofs.YtkhlicmlnjccdaaGreatDoor
open Go.RowKit Mem
namespace Mem
/-- the cells of element q, of size sz, are l -/
def Part (cs : Array Value) (sz q : Nat) (l : List Value) : Prop := ∀ j u, l[j]? = some u → cs[q * sz + j]? = some u
theorem Own.of_block {α : Type} (k : Flat α) {w : World} {base g n c : Nat} {cs : Array Value} {T : TypeId} {xs : List α} (hb : w.heap[g]? = some (.cells cs T (0, 0))) (hg : base ≤ g) (hs : cs.size = c * k.kind.size) (hn : xs.length = n) (hc : n ≤ c) (hm : c ≤ maxLen)
    (hp : ∀ q x, xs[q]? = some x → Part cs k.kind.size q (k.enc x)) : Own k w base T (.slice (some ⟨g, 0, none⟩) n c) xs := by
  refine ⟨k.all_length xs, .inr ⟨g, c, cs, by rw [hn], hg, hb, by omega, hm, hs, ?_⟩⟩
  refine List.ext_getElem? fun i => ?_
  have hpos := k.pos
  rcases Nat.lt_or_ge i (xs.length * k.kind.size) with h | h
  · have hq : i / k.kind.size < xs.length := Nat.div_lt_of_lt_mul (by rw [Nat.mul_comm]; exact h)
    have hj : i % k.kind.size < k.kind.size := Nat.mod_lt _ hpos
    have he : i = i / k.kind.size * k.kind.size + i % k.kind.size := by
      have := Nat.div_add_mod i k.kind.size
      rw [Nat.mul_comm] at this
      exact this.symm
    have hx : xs[i / k.kind.size]? = some (xs[i / k.kind.size]'hq) := List.getElem?_eq_getElem hq
    have h1 := k.all_get xs _ _ _ hx hj
    rw [← he] at h1
    have h2 := hp _ _ hx (i % k.kind.size) ((k.enc (xs[i / k.kind.size]'hq))[i % k.kind.size]'(by rw [k.len]; exact hj)) (List.getElem?_eq_getElem _)
    rw [← he] at h2
    rw [h1, List.getElem?_take, if_pos h, Array.getElem?_toList, h2]
    exact (List.getElem?_eq_getElem _).symm
  · rw [List.getElem?_eq_none (by rw [List.length_take]; omega), List.getElem?_eq_none (by rw [k.all_length]; omega)]
theorem Own.block_of {α : Type} {k : Flat α} {w : World} {base g n c : Nat} {T : TypeId} {xs : List α} (h : Own k w base T (.slice (some ⟨g, 0, none⟩) n c) xs) :
    ∃ cs, w.heap[g]? = some (.cells cs T (0, 0)) ∧ base ≤ g ∧ cs.size = c * k.kind.size ∧ xs.length = n ∧ n ≤ c ∧ c ≤ maxLen ∧ ∀ q x, xs[q]? = some x → Part cs k.kind.size q (k.enc x) := by
  have hcell := fun (i : Nat) (x : α) (j : Nat) (u : Value) (hi : xs[i]? = some x) (hj : (k.enc x)[j]? = some u) => Own.cellAt h hi hj
  rcases h.2 with ⟨h', _⟩ | ⟨g', cap', cur, h', hg, hh, hnc, hcm, hs, _⟩
  · cases h'
  · injection h' with h1 h2 h3
    injection h1 with h1
    injection h1 with h1
    subst h1 h2 h3
    refine ⟨cur, hh, hg, hs, rfl, hnc, hcm, fun q x hx j u hj => ?_⟩
    have := hcell q x j u hx hj
    rwa [cell_of_row w g _ cur T (0, 0) hh] at this

def set2 (cs : Array Value) (q : Nat) (a b : Value) : Array Value := (cs.setIfInBounds (q * 2) a).setIfInBounds (q * 2 + 1) b
def set3 (cs : Array Value) (q : Nat) (a b c : Value) : Array Value := ((cs.setIfInBounds (q * 3) a).setIfInBounds (q * 3 + 1) b).setIfInBounds (q * 3 + 2) c
def set4 (cs : Array Value) (q : Nat) (a b c d : Value) : Array Value := (((cs.setIfInBounds (q * 4) a).setIfInBounds (q * 4 + 1) b).setIfInBounds (q * 4 + 2) c).setIfInBounds (q * 4 + 3) d
theorem set2_size {cs : Array Value} {q : Nat} {a b : Value} : (set2 cs q a b).size = cs.size := by simp [set2]
theorem set3_size {cs : Array Value} {q : Nat} {a b c : Value} : (set3 cs q a b c).size = cs.size := by simp [set3]
theorem set4_size {cs : Array Value} {q : Nat} {a b c d : Value} : (set4 cs q a b c d).size = cs.size := by simp [set4]
theorem set2_at {cs : Array Value} {q m : Nat} {a b : Value} (hs : q * 2 + 1 < cs.size) {l : List Value} (hl : l.length ≤ 2) : (Part (set2 cs q a b) 2 q [a, b]) ∧ (m ≠ q → Part cs 2 m l → Part (set2 cs q a b) 2 m l) := by
  refine ⟨fun j u hj => ?_, fun hne h j u hj => ?_⟩
  · rcases j with _ | _ | j
    · obtain rfl : a = u := by simpa using hj
      simp [set2, Array.getElem?_setIfInBounds]; omega
    · obtain rfl : b = u := by simpa using hj
      simp [set2, Array.getElem?_setIfInBounds]; omega
    · simp at hj
  · have hjl : j < 2 := by
      rcases Nat.lt_or_ge j l.length with h | h
      · omega
      · rw [List.getElem?_eq_none h] at hj; simp at hj
    rw [← h j u hj]
    simp only [set2, Array.getElem?_setIfInBounds]
    rw [if_neg (by omega), if_neg (by omega)]
theorem set3_at {cs : Array Value} {q m : Nat} {a b c : Value} (hs : q * 3 + 2 < cs.size) {l : List Value} (hl : l.length ≤ 3) : (Part (set3 cs q a b c) 3 q [a, b, c]) ∧ (m ≠ q → Part cs 3 m l → Part (set3 cs q a b c) 3 m l) := by
  refine ⟨fun j u hj => ?_, fun hne h j u hj => ?_⟩
  · rcases j with _ | _ | _ | j
    · obtain rfl : a = u := by simpa using hj
      simp [set3, Array.getElem?_setIfInBounds]; omega
    · obtain rfl : b = u := by simpa using hj
      simp [set3, Array.getElem?_setIfInBounds]; omega
    · obtain rfl : c = u := by simpa using hj
      simp [set3, Array.getElem?_setIfInBounds]; omega
    · simp at hj
  · have hjl : j < 3 := by
      rcases Nat.lt_or_ge j l.length with h | h
      · omega
      · rw [List.getElem?_eq_none h] at hj; simp at hj
    rw [← h j u hj]
    simp only [set3, Array.getElem?_setIfInBounds]
    rw [if_neg (by omega), if_neg (by omega), if_neg (by omega)]
theorem set4_at {cs : Array Value} {q m : Nat} {a b c d : Value} (hs : q * 4 + 3 < cs.size) {l : List Value} (hl : l.length ≤ 4) : (Part (set4 cs q a b c d) 4 q [a, b, c, d]) ∧ (m ≠ q → Part cs 4 m l → Part (set4 cs q a b c d) 4 m l) := by
  refine ⟨fun j u hj => ?_, fun hne h j u hj => ?_⟩
  · rcases j with _ | _ | _ | _ | j
    · obtain rfl : a = u := by simpa using hj
      simp [set4, Array.getElem?_setIfInBounds]; omega
    · obtain rfl : b = u := by simpa using hj
      simp [set4, Array.getElem?_setIfInBounds]; omega
    · obtain rfl : c = u := by simpa using hj
      simp [set4, Array.getElem?_setIfInBounds]; omega
    · obtain rfl : d = u := by simpa using hj
      simp [set4, Array.getElem?_setIfInBounds]; omega
    · simp at hj
  · have hjl : j < 4 := by
      rcases Nat.lt_or_ge j l.length with h | h
      · omega
      · rw [List.getElem?_eq_none h] at hj; simp at hj
    rw [← h j u hj]
    simp only [set4, Array.getElem?_setIfInBounds]
    rw [if_neg (by omega), if_neg (by omega), if_neg (by omega), if_neg (by omega)]
theorem Part.get {cs : Array Value} {sz q j : Nat} {l : List Value} {u : Value} (h : Part cs sz q l) (hj : l[j]? = some u) : cs[q * sz + j]? = some u := h j u hj
section
variable {P : Program}
theorem run_make_st (t e : TypeId) (z : Value) (size bytes : Nat) (ht : P.underlying t = some (.slice e)) (hinfo : (P.info? e).map (fun i => (i.zero, i.size, i.bytes)) = some (some z, size, bytes)) (n : Nat) (hb : bytes * n ≤ 281474976710656) (h63 : n ≤ 9223372036854775807) (w : World) :
    (Instr.makeSlice t (.int .i64 (n : Int)) (.int .i64 (n : Int))).run P w = .ok (.slice (some ⟨w.heap.size, 0, none⟩) n n) (w.alloc (.cells (madeCells z.cells (n * size)) e)) := by
  obtain ⟨i, hi, hzz⟩ := Option.map_eq_some_iff.1 hinfo
  simp only [Prod.mk.injEq] at hzz
  obtain ⟨hz0, hz1, hz2⟩ := hzz
  have hbb : (i.bytes : Int) * (n : Int) ≤ 281474976710656 := by
    rw [hz2]
    have h : ((bytes * n : Nat) : Int) ≤ 281474976710656 := by omega
    rwa [Int.natCast_mul] at h
  have := run_make (P := P) w t e i z ht hi hz0 .i64 .i64 n n (by omega) (Int.le_refl _) hbb (by omega)
  rw [hz1] at this
  simpa using this
end
end Mem
end Go.Proofs.YtkhlicmlnjccdaaGreatDoor

namespace Go.Proofs.YtkhlicmlnjccdaaGreatDoor
namespace Ans
structure Fine (r : Int × Ld.St) : Prop where
  recs : ∀ x ∈ r.2.recs, (1 ≤ x.kind ∧ x.kind ≤ 6) ∧ (0 ≤ x.code ∧ x.code ≤ 7) ∧ x.name.size ≤ 60 ∧ In64 x.num
  rings : ∀ g ∈ r.2.rings, g ≠ [] ∧ g.length ≤ 40 ∧ ∀ x ∈ g, x.size ≤ 60
  nr : r.2.recs.length ≤ 9000
  ng : r.2.rings.length ≤ 9000
  code : -1 ≤ r.1 ∧ r.1 ≤ 7
theorem fine_of (D : WorldD) (name : Str) (hD : ∀ m ∈ D.mods, ∀ l ∈ m.lines, In64 l.num) : Fine (Ld.load D name) := by
  have hm : (Wd.worldOk D).1 = 0 → D.mods.length ≤ 60 ∧ ∀ m ∈ D.mods, m.lines.length ≤ 60 := fun h0 => ⟨(Wd.wok_of h0).mods, (Wd.wok_of h0).lines⟩
  obtain ⟨h1, h2, h3⟩ := Ld.load_rz (P := In64) (by unfold In64; omega) D hD name
  obtain ⟨s1, _, s3, s4⟩ := Ld.load_small D name hm
  have hn := Ld.load_rn D name hm
  exact ⟨h1.recs, fun g hg => ⟨hn g hg, s4 g hg, h1.rings g hg⟩, s1, s3, h2, h3⟩
theorem fine_bad (D : WorldD) (name : Str) (h : (Wd.worldOk D).1 ≠ 0) : Fine (Ld.load D name) := by
  have : Ld.load D name = (-1, Ld.St.start) := by unfold Ld.load; rw [if_pos h]
  rw [this]
  exact ⟨fun x hx => by simp [Ld.St.start] at hx, fun x hx => by simp [Ld.St.start] at hx, by simp [Ld.St.start], by simp [Ld.St.start], by simp, by simp⟩
theorem Fine.small {r : Int × Ld.St} (h : Fine r) (k : Nat) : (recsText (r.2.recs.take k)).length ≤ 909000 ∧ (recsText r.2.recs).length ≤ 909000 ∧ (ringsText (r.2.rings.take k)).length ≤ 22005000 := by
  have h1 := recsText_len (l := r.2.recs.take k) (fun x hx => ⟨(h.recs x (List.mem_of_mem_take hx)).2.2.1, (h.recs x (List.mem_of_mem_take hx)).2.2.2⟩)
  have h2 := recsText_len (l := r.2.recs) (fun x hx => ⟨(h.recs x hx).2.2.1, (h.recs x hx).2.2.2⟩)
  have h3 := ringsText_len (l := r.2.rings.take k) (fun x hx => (h.rings x (List.mem_of_mem_take hx)).2)
  have h4 := List.length_take_le k r.2.recs
  have h5 := List.length_take_le' k r.2.recs
  have h6 := List.length_take_le' k r.2.rings
  have h7 := h.nr
  have h8 := h.ng
  omega
end Ans
end Go.Proofs.YtkhlicmlnjccdaaGreatDoor
