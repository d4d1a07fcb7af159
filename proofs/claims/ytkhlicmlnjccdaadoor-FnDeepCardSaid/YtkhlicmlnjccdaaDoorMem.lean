/-
  How slices of strings, numbers and structs read in memory (no program in sight): 'Sl', the kinds, and what keeps them.
-/
import Derived.Below
import Derived.Laws.OwnMore
import Derived.Deep.AppendLies
import Derived.Deep.Draws
import Derived.Laws.Rows
import Derived.WalkKit
import Derived.Lib.IndexBytes
namespace Go.Proofs.YtkhlicmlnjccdaaDoor
open Go.RowKit

abbrev Str := ByteArray
structure LineD where
  op : Int
  name : Str
  num : Int
  skip : Int
structure ModD where
  name : Str
  lines : List LineD
structure WorldD where
  roots : List Str
  mods : List ModD
  faults : List Int
structure RecD where
  kind : Int
  name : Str
  code : Int
  num : Int
structure StateD where
  name : Str
  now : Int
  give : Int
  code : Int
structure EdgeD where
  src : Int
  line : Int
  dst : Int

namespace Mem
theorem hide {p : Prop} (h : p) : Hid p := h
theorem unhide {p : Prop} (h : Hid p) : p := h
theorem toList_data' (s : ByteArray) : s.toList = s.data.toList := Lib.toList_data s
theorem toList_inj {a b : ByteArray} : a.toList = b.toList ↔ a = b := by
  rw [toList_data', toList_data']
  exact ⟨fun h => by cases a; cases b; simp_all [Array.toList_inj], fun h => by rw [h]⟩
theorem beq_t {a b : ByteArray} (h : a = b) : (a.toList == b.toList) = true := by rw [h]; simp
theorem beq_f {a b : ByteArray} (h : a ≠ b) : (a.toList == b.toList) = false := by simpa [toList_inj] using h
theorem nbeq_t {a b : ByteArray} (h : a = b) : (!a.toList == b.toList) = false := by rw [h]; simp
theorem nbeq_f {a b : ByteArray} (h : a ≠ b) : (!a.toList == b.toList) = true := by simpa [toList_inj] using h
theorem tl_t {s : ByteArray} {l : List UInt8} (h : s = ⟨l.toArray⟩) : (s.toList == l) = true := by rw [toList_data', h]; simp
theorem tl_f {s : ByteArray} {l : List UInt8} (h : s ≠ ⟨l.toArray⟩) : (s.toList == l) = false := by
  rw [toList_data']
  have : ¬ s.data.toList = l := fun e => h (by cases s; subst e; simp)
  simpa using this
theorem tl_e {s : ByteArray} (h : s = ⟨#[]⟩) : s.toList.isEmpty = true := by rw [toList_data', h]; rfl
theorem tl_n {s : ByteArray} (h : s ≠ ⟨#[]⟩) : s.toList.isEmpty = false := by
  rw [toList_data', List.isEmpty_eq_false_iff]
  exact fun e => h (by cases s; simp_all)
theorem ret_bool {a b : Bool} (h : a = b) : Ending.returned (.bool a) = .returned (.bool b) := by rw [h]
theorem ret_int {k : IntKind} {a b : Int} (h : a = b) : Ending.returned (.int k a) = .returned (.int k b) := by rw [h]
theorem ret_str {a b : Str} (h : a = b) : Ending.returned (.string a) = .returned (.string b) := by rw [h]
theorem block_add (a : Addr) (n : Nat) : (a.add n).block = a.block := by unfold Addr.add; split <;> rfl
theorem add_add (a : Addr) (i j : Nat) : (a.add i).add j = a.add (i + j) := by
  unfold Addr.add
  by_cases hi : i = 0 <;> by_cases hj : j = 0 <;> simp [hi, hj, Nat.add_assoc]
theorem add_plain (g o j : Nat) : (⟨g, o, none⟩ : Addr).add j = ⟨g, o + j, none⟩ := by unfold Addr.add; split <;> simp_all

/-- the blocks of S are as they were -/
def Same (S : Nat → Prop) (w w' : World) : Prop := ∀ b, S b → w'.heap[b]? = w.heap[b]?
def Old (w : World) : Nat → Prop := fun b => b < w.heap.size
theorem Same.below {w w' : World} (h : Below w.heap.size w w') : Same (Old w) w w' := fun b hb => h.block b hb

def Has (w : World) (S : Nat → Prop) (a : Addr) (v : Value) : Prop := S a.block ∧ w.cell? a = some v
theorem Has.same {w w' : World} {S : Nat → Prop} {a : Addr} {v : Value} (h : Has w S a v) (k : Same S w w') : Has w' S a v :=
  ⟨h.1, (World.cell?_of_block (k _ h.1)).trans h.2⟩
theorem Has.more {w : World} {S T : Nat → Prop} {a : Addr} {v : Value} (h : Has w S a v) (k : ∀ b, S b → T b) : Has w T a v := ⟨k _ h.1, h.2⟩
theorem Has.lt {w : World} {S : Nat → Prop} {a : Addr} {v : Value} (h : Has w S a v) : a.block < w.heap.size := World.block_lt_of_cell? w a h.2
theorem Has.below {w w' : World} {S : Nat → Prop} {a : Addr} {v : Value} (h : Has w S a v) (k : Below w.heap.size w w') : Has w' S a v :=
  ⟨h.1, (World.cell?_of_block (k.block _ h.lt)).trans h.2⟩

theorem Has.old {w : World} {S : Nat → Prop} {a : Addr} {v : Value} (h : Has w S a v) : Has w (fun b => S b ∧ b < w.heap.size) a v := ⟨⟨h.1, h.lt⟩, h.2⟩
/-- how one element reads -/
structure Kind (α : Type) where
  size : Nat
  at_ : World → (Nat → Prop) → Addr → α → Prop
  same : ∀ {w w' : World} {S : Nat → Prop} {a : Addr} {x : α}, at_ w S a x → Same S w w' → at_ w' S a x
  more : ∀ {w : World} {S T : Nat → Prop} {a : Addr} {x : α}, at_ w S a x → (∀ b, S b → T b) → at_ w T a x
  below : ∀ {w w' : World} {S : Nat → Prop} {a : Addr} {x : α}, at_ w S a x → Below w.heap.size w w' → at_ w' S a x
  old : ∀ {w : World} {S : Nat → Prop} {a : Addr} {x : α}, at_ w S a x → at_ w (fun b => S b ∧ b < w.heap.size) a x

/-- the slice at A reads as xs -/
def Sl {α : Type} (k : Kind α) (w : World) (S : Nat → Prop) (A : Option Addr) (xs : List α) : Prop :=
  xs ≠ [] → ∃ ad, A = some ad ∧ ∀ i x, xs[i]? = some x → k.at_ w S (ad.add (i * k.size)) x
section
variable {α : Type} {k : Kind α} {w w' : World} {S T : Nat → Prop} {A : Option Addr} {xs : List α}
theorem Sl.same (h : Sl k w S A xs) (e : Same S w w') : Sl k w' S A xs := fun hn => by
  obtain ⟨ad, hA, hx⟩ := h hn
  exact ⟨ad, hA, fun i x hi => k.same (hx i x hi) e⟩
theorem Sl.more (h : Sl k w S A xs) (e : ∀ b, S b → T b) : Sl k w T A xs := fun hn => by
  obtain ⟨ad, hA, hx⟩ := h hn
  exact ⟨ad, hA, fun i x hi => k.more (hx i x hi) e⟩
theorem Sl.below (h : Sl k w S A xs) (e : Below w.heap.size w w') : Sl k w' S A xs := fun hn => by
  obtain ⟨ad, hA, hx⟩ := h hn
  exact ⟨ad, hA, fun i x hi => k.below (hx i x hi) e⟩
theorem Sl.old (h : Sl k w S A xs) : Sl k w (fun b => S b ∧ b < w.heap.size) A xs := fun hn => by
  obtain ⟨ad, hA, hx⟩ := h hn
  exact ⟨ad, hA, fun i x hi => k.old (hx i x hi)⟩
theorem Sl.grown {row : Option Nat} (h : Sl k w S A xs) (hg : w.grownBy w' row) (hne : ∀ b, S b → b < w.heap.size → some b ≠ row) : Sl k w' S A xs :=
  (h.old.same (fun b hb => hg.block b hb.2 (hne b hb.1 hb.2))).more (fun _ hb => hb.1)
theorem Sl.get (h : Sl k w S A xs) {i : Nat} (hi : i < xs.length) : ∃ ad, A = some ad ∧ k.at_ w S (ad.add (i * k.size)) xs[i] := by
  obtain ⟨ad, hA, hx⟩ := h (fun e => by rw [e] at hi; simp at hi)
  exact ⟨ad, hA, hx i _ (List.getElem?_eq_getElem hi)⟩
theorem Sl.nil : Sl k w S A [] := fun h => absurd rfl h
end

def kStr : Kind Str := { size := 1, at_ := fun w S a s => Has w S a (.string s), same := fun h e => h.same e, more := fun h e => h.more e, below := fun h e => h.below e, old := fun h => h.old }
def kInt : Kind Int := { size := 1, at_ := fun w S a s => Has w S a (.int .i64 s), same := fun h e => h.same e, more := fun h e => h.more e, below := fun h e => h.below e, old := fun h => h.old }
def kLine : Kind LineD :=
  { size := 4
    at_ := fun w S a l => Has w S a (.int .i64 l.op) ∧ Has w S (a.add 1) (.string l.name) ∧ Has w S (a.add 2) (.int .i64 l.num) ∧ Has w S (a.add 3) (.int .i64 l.skip)
    same := fun h e => ⟨h.1.same e, h.2.1.same e, h.2.2.1.same e, h.2.2.2.same e⟩
    more := fun h e => ⟨h.1.more e, h.2.1.more e, h.2.2.1.more e, h.2.2.2.more e⟩
    below := fun h e => ⟨h.1.below e, h.2.1.below e, h.2.2.1.below e, h.2.2.2.below e⟩
    old := fun h => ⟨h.1.old, h.2.1.old, h.2.2.1.old, h.2.2.2.old⟩ }
def kRec : Kind RecD :=
  { size := 4
    at_ := fun w S a l => Has w S a (.int .i64 l.kind) ∧ Has w S (a.add 1) (.string l.name) ∧ Has w S (a.add 2) (.int .i64 l.code) ∧ Has w S (a.add 3) (.int .i64 l.num)
    same := fun h e => ⟨h.1.same e, h.2.1.same e, h.2.2.1.same e, h.2.2.2.same e⟩
    more := fun h e => ⟨h.1.more e, h.2.1.more e, h.2.2.1.more e, h.2.2.2.more e⟩
    below := fun h e => ⟨h.1.below e, h.2.1.below e, h.2.2.1.below e, h.2.2.2.below e⟩
    old := fun h => ⟨h.1.old, h.2.1.old, h.2.2.1.old, h.2.2.2.old⟩ }
def kState : Kind StateD :=
  { size := 4
    at_ := fun w S a l => Has w S a (.string l.name) ∧ Has w S (a.add 1) (.int .i64 l.now) ∧ Has w S (a.add 2) (.int .i64 l.give) ∧ Has w S (a.add 3) (.int .i64 l.code)
    same := fun h e => ⟨h.1.same e, h.2.1.same e, h.2.2.1.same e, h.2.2.2.same e⟩
    more := fun h e => ⟨h.1.more e, h.2.1.more e, h.2.2.1.more e, h.2.2.2.more e⟩
    below := fun h e => ⟨h.1.below e, h.2.1.below e, h.2.2.1.below e, h.2.2.2.below e⟩
    old := fun h => ⟨h.1.old, h.2.1.old, h.2.2.1.old, h.2.2.2.old⟩ }
def kEdge : Kind EdgeD :=
  { size := 3
    at_ := fun w S a l => Has w S a (.int .i64 l.src) ∧ Has w S (a.add 1) (.int .i64 l.line) ∧ Has w S (a.add 2) (.int .i64 l.dst)
    same := fun h e => ⟨h.1.same e, h.2.1.same e, h.2.2.same e⟩
    more := fun h e => ⟨h.1.more e, h.2.1.more e, h.2.2.more e⟩
    below := fun h e => ⟨h.1.below e, h.2.1.below e, h.2.2.below e⟩
    old := fun h => ⟨h.1.old, h.2.1.old, h.2.2.old⟩ }
/-- an element that is a slice itself -/
def kSl {α : Type} (k : Kind α) : Kind (List α) :=
  { size := 1
    at_ := fun w S a xs => ∃ A c, Has w S a (.slice A xs.length c) ∧ xs.length ≤ c ∧ c ≤ maxLen ∧ Sl k w S A xs
    same := fun ⟨A, c, h, hl, hc, hs⟩ e => ⟨A, c, h.same e, hl, hc, hs.same e⟩
    more := fun ⟨A, c, h, hl, hc, hs⟩ e => ⟨A, c, h.more e, hl, hc, hs.more e⟩
    below := fun ⟨A, c, h, hl, hc, hs⟩ e => ⟨A, c, h.below e, hl, hc, hs.below e⟩
    old := fun ⟨A, c, h, hl, hc, hs⟩ => ⟨A, c, h.old, hl, hc, hs.old⟩ }
def kMod : Kind ModD :=
  { size := 2
    at_ := fun w S a m => Has w S a (.string m.name) ∧ (kSl kLine).at_ w S (a.add 1) m.lines
    same := fun h e => ⟨h.1.same e, (kSl kLine).same h.2 e⟩
    more := fun h e => ⟨h.1.more e, (kSl kLine).more h.2 e⟩
    below := fun h e => ⟨h.1.below e, (kSl kLine).below h.2 e⟩
    old := fun h => ⟨h.1.old, (kSl kLine).old h.2⟩ }

/-- a slice value that reads as xs -/
def SlV {α : Type} (k : Kind α) (w : World) (S : Nat → Prop) (v : Value) (xs : List α) : Prop :=
  ∃ A c, v = .slice A xs.length c ∧ xs.length ≤ c ∧ c ≤ maxLen ∧ Sl k w S A xs
section
variable {α : Type} {k : Kind α} {w w' : World} {S T : Nat → Prop} {v : Value} {xs : List α}
theorem SlV.same (h : SlV k w S v xs) (e : Same S w w') : SlV k w' S v xs := by
  obtain ⟨A, c, hv, hl, hc, hs⟩ := h; exact ⟨A, c, hv, hl, hc, hs.same e⟩
theorem SlV.more (h : SlV k w S v xs) (e : ∀ b, S b → T b) : SlV k w T v xs := by
  obtain ⟨A, c, hv, hl, hc, hs⟩ := h; exact ⟨A, c, hv, hl, hc, hs.more e⟩
theorem SlV.below (h : SlV k w S v xs) (e : Below w.heap.size w w') : SlV k w' S v xs := by
  obtain ⟨A, c, hv, hl, hc, hs⟩ := h; exact ⟨A, c, hv, hl, hc, hs.below e⟩
end

theorem blk_cell {w : World} {b : Nat} {cs : Array Value} {t : TypeId} (h : w.heap[b]? = some (.cells cs t (0, 0))) (i : Nat) : w.cell? ⟨b, i, none⟩ = cs[i]? := cell_of_row w b i cs t (0, 0) h
theorem blk_free {w : World} {b : Nat} {cs : Array Value} {t : TypeId} (h : w.heap[b]? = some (.cells cs t (0, 0))) (i : Nat) : w.frozen? ⟨b, i, none⟩ = false := by simp [World.frozen?, h]
theorem blk_set {w : World} {b : Nat} {cs : Array Value} {t : TypeId} {f : Nat × Nat} (h : w.heap[b]? = some (.cells cs t f)) (i : Nat) (u : Value) : (w.setCell ⟨b, i, none⟩ u).heap[b]? = some (.cells (cs.setIfInBounds i u) t f) := by
  simp [World.setCell, Array.getElem?_modify, h]
theorem blk_new {w w1 : World} {cs : Array Value} {t : TypeId} (h : Below (w.alloc (.cells cs t)).heap.size (w.alloc (.cells cs t)) w1) : w1.heap[w.heap.size]? = some (.cells cs t (0, 0)) :=
  (h.block _ (by simp)).trans (heap_alloc_new w _)
theorem held_step {w0 W w1 : World} {a : Addr} {v : Value} (h : Below w0.heap.size w0 W ∧ W.cell? a = some v) (hb : Below W.heap.size W w1) : Below w0.heap.size w0 w1 ∧ w1.cell? a = some v :=
  ⟨h.1.trans (hb.mono h.1.size), (hb.cell (World.block_lt_of_cell? W _ h.2)).trans h.2⟩
theorem held_step2 {w0 W w1 : World} {a b : Addr} {v u : Value} (h : Below w0.heap.size w0 W ∧ W.cell? a = some v ∧ W.cell? b = some u) (hb : Below W.heap.size W w1) : Below w0.heap.size w0 w1 ∧ w1.cell? a = some v ∧ w1.cell? b = some u :=
  ⟨h.1.trans (hb.mono h.1.size), (hb.cell (World.block_lt_of_cell? W _ h.2.1)).trans h.2.1, (hb.cell (World.block_lt_of_cell? W _ h.2.2)).trans h.2.2⟩
theorem below_size {B : Nat} {w w' : World} {o : Obj} (h : Below B (w.alloc o) w') : w.heap.size + 1 ≤ w'.heap.size := by have := h.size; simpa using this
/-- behind a call that keeps what was -/
theorem below_then {B : Nat} {w w1 w2 : World} (h : Below B w w1) (hB : B ≤ w1.heap.size) (k : Below w1.heap.size w1 w2) : Below B w w2 :=
  h.trans ⟨k.os, k.tape, k.output, k.size, fun i hi => k.block i (Nat.lt_of_lt_of_le hi hB)⟩
theorem below_drewN {B : Nat} {a w : World} (h : Below B a w) (n : Nat) : Below B a (w.drewN n) := ⟨h.os, h.tape, h.output, h.size, h.block⟩
end Mem
end Go.Proofs.YtkhlicmlnjccdaaDoor
