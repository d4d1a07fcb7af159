/-
How slices of strings, numbers and structs read in memory (no program in sight): 'Sl', the kinds, and what keeps them.
Plain words on names: parts, walking, joining; no program in sight.
Walks: the laws' helpers over strings: eqStringS.
Maps that a call makes itself, by a plain function from keys to values; whatever the values are. No program in sight.
'==' of two Named, as one Bool.
Walk: the laws' comparison of two lists of texts (wTexts).
-/
import Derived.Below
import Derived.Laws.OwnMore
import Derived.Deep.AppendLies
import Derived.Deep.Draws
import Derived.Laws.Rows
import Derived.WalkKit
import Derived.Lib.IndexBytes
import Derived.Lib.Split
import Derived.Lib.SplitLaws
import Derived.Lib.Join
import Derived.Lib.SlTrimSet
import Derived.Test.YtkhlicmlnjccdaaGreatDoorProg
import Derived.WalkSpells
import Derived.WalkLawsBesides
import Derived.Outline
import Derived.Deep.QuietTactic
import Derived.BigQuiet
import Derived.Maps.OwnSet
import Derived.Maps.Views
import Derived.Maps.OwnOps
import Derived.Laws.StructEq
namespace Go.Proofs.YtkhlicmlnjccdaaGreatDoor
open Go.RowKit

abbrev Str := ByteArray
structure LineD where
  op : Int
  name : Str
  num : Int
  skip : Int
structure ModD where
  name : Str
  lines : List LineD
structure WorldD where
  roots : List Str
  mods : List ModD
  faults : List Int
structure RecD where
  kind : Int
  name : Str
  code : Int
  num : Int
structure StateD where
  name : Str
  now : Int
  give : Int
  code : Int
structure EdgeD where
  src : Int
  line : Int
  dst : Int

namespace Mem
theorem hide {p : Prop} (h : p) : Hid p := h
theorem unhide {p : Prop} (h : Hid p) : p := h
theorem toList_data' (s : ByteArray) : s.toList = s.data.toList := Lib.toList_data s
theorem toList_inj {a b : ByteArray} : a.toList = b.toList ↔ a = b := by
  rw [toList_data', toList_data']
  exact ⟨fun h => by cases a; cases b; simp_all [Array.toList_inj], fun h => by rw [h]⟩
theorem beq_t {a b : ByteArray} (h : a = b) : (a.toList == b.toList) = true := by rw [h]; simp
theorem beq_f {a b : ByteArray} (h : a ≠ b) : (a.toList == b.toList) = false := by simpa [toList_inj] using h
theorem nbeq_t {a b : ByteArray} (h : a = b) : (!a.toList == b.toList) = false := by rw [h]; simp
theorem nbeq_f {a b : ByteArray} (h : a ≠ b) : (!a.toList == b.toList) = true := by simpa [toList_inj] using h
theorem tl_t {s : ByteArray} {l : List UInt8} (h : s = ⟨l.toArray⟩) : (s.toList == l) = true := by rw [toList_data', h]; simp
theorem tl_f {s : ByteArray} {l : List UInt8} (h : s ≠ ⟨l.toArray⟩) : (s.toList == l) = false := by
  rw [toList_data']
  have : ¬ s.data.toList = l := fun e => h (by cases s; subst e; simp)
  simpa using this
theorem tl_e {s : ByteArray} (h : s = ⟨#[]⟩) : s.toList.isEmpty = true := by rw [toList_data', h]; rfl
theorem tl_n {s : ByteArray} (h : s ≠ ⟨#[]⟩) : s.toList.isEmpty = false := by
  rw [toList_data', List.isEmpty_eq_false_iff]
  exact fun e => h (by cases s; simp_all)
theorem ret_bool {a b : Bool} (h : a = b) : Ending.returned (.bool a) = .returned (.bool b) := by rw [h]
theorem ret_int {k : IntKind} {a b : Int} (h : a = b) : Ending.returned (.int k a) = .returned (.int k b) := by rw [h]
theorem ret_str {a b : Str} (h : a = b) : Ending.returned (.string a) = .returned (.string b) := by rw [h]
theorem block_add (a : Addr) (n : Nat) : (a.add n).block = a.block := by unfold Addr.add; split <;> rfl
theorem add_add (a : Addr) (i j : Nat) : (a.add i).add j = a.add (i + j) := by
  unfold Addr.add
  by_cases hi : i = 0 <;> by_cases hj : j = 0 <;> simp [hi, hj, Nat.add_assoc]
theorem add_plain (g o j : Nat) : (⟨g, o, none⟩ : Addr).add j = ⟨g, o + j, none⟩ := by unfold Addr.add; split <;> simp_all

/-- the blocks of S are as they were -/
def Same (S : Nat → Prop) (w w' : World) : Prop := ∀ b, S b → w'.heap[b]? = w.heap[b]?
def Old (w : World) : Nat → Prop := fun b => b < w.heap.size
theorem Same.below {w w' : World} (h : Below w.heap.size w w') : Same (Old w) w w' := fun b hb => h.block b hb

def Has (w : World) (S : Nat → Prop) (a : Addr) (v : Value) : Prop := S a.block ∧ w.cell? a = some v
theorem Has.same {w w' : World} {S : Nat → Prop} {a : Addr} {v : Value} (h : Has w S a v) (k : Same S w w') : Has w' S a v :=
  ⟨h.1, (World.cell?_of_block (k _ h.1)).trans h.2⟩
theorem Has.more {w : World} {S T : Nat → Prop} {a : Addr} {v : Value} (h : Has w S a v) (k : ∀ b, S b → T b) : Has w T a v := ⟨k _ h.1, h.2⟩
theorem Has.lt {w : World} {S : Nat → Prop} {a : Addr} {v : Value} (h : Has w S a v) : a.block < w.heap.size := World.block_lt_of_cell? w a h.2
theorem Has.below {w w' : World} {S : Nat → Prop} {a : Addr} {v : Value} (h : Has w S a v) (k : Below w.heap.size w w') : Has w' S a v :=
  ⟨h.1, (World.cell?_of_block (k.block _ h.lt)).trans h.2⟩

theorem Has.old {w : World} {S : Nat → Prop} {a : Addr} {v : Value} (h : Has w S a v) : Has w (fun b => S b ∧ b < w.heap.size) a v := ⟨⟨h.1, h.lt⟩, h.2⟩
/-- how one element reads -/
structure Kind (α : Type) where
  size : Nat
  at_ : World → (Nat → Prop) → Addr → α → Prop
  same : ∀ {w w' : World} {S : Nat → Prop} {a : Addr} {x : α}, at_ w S a x → Same S w w' → at_ w' S a x
  more : ∀ {w : World} {S T : Nat → Prop} {a : Addr} {x : α}, at_ w S a x → (∀ b, S b → T b) → at_ w T a x
  below : ∀ {w w' : World} {S : Nat → Prop} {a : Addr} {x : α}, at_ w S a x → Below w.heap.size w w' → at_ w' S a x
  old : ∀ {w : World} {S : Nat → Prop} {a : Addr} {x : α}, at_ w S a x → at_ w (fun b => S b ∧ b < w.heap.size) a x

/-- the slice at A reads as xs -/
def Sl {α : Type} (k : Kind α) (w : World) (S : Nat → Prop) (A : Option Addr) (xs : List α) : Prop :=
  xs ≠ [] → ∃ ad, A = some ad ∧ ∀ i x, xs[i]? = some x → k.at_ w S (ad.add (i * k.size)) x
section
variable {α : Type} {k : Kind α} {w w' : World} {S T : Nat → Prop} {A : Option Addr} {xs : List α}
theorem Sl.same (h : Sl k w S A xs) (e : Same S w w') : Sl k w' S A xs := fun hn => by
  obtain ⟨ad, hA, hx⟩ := h hn
  exact ⟨ad, hA, fun i x hi => k.same (hx i x hi) e⟩
theorem Sl.more (h : Sl k w S A xs) (e : ∀ b, S b → T b) : Sl k w T A xs := fun hn => by
  obtain ⟨ad, hA, hx⟩ := h hn
  exact ⟨ad, hA, fun i x hi => k.more (hx i x hi) e⟩
theorem Sl.below (h : Sl k w S A xs) (e : Below w.heap.size w w') : Sl k w' S A xs := fun hn => by
  obtain ⟨ad, hA, hx⟩ := h hn
  exact ⟨ad, hA, fun i x hi => k.below (hx i x hi) e⟩
theorem Sl.old (h : Sl k w S A xs) : Sl k w (fun b => S b ∧ b < w.heap.size) A xs := fun hn => by
  obtain ⟨ad, hA, hx⟩ := h hn
  exact ⟨ad, hA, fun i x hi => k.old (hx i x hi)⟩
theorem Sl.grown {row : Option Nat} (h : Sl k w S A xs) (hg : w.grownBy w' row) (hne : ∀ b, S b → b < w.heap.size → some b ≠ row) : Sl k w' S A xs :=
  (h.old.same (fun b hb => hg.block b hb.2 (hne b hb.1 hb.2))).more (fun _ hb => hb.1)
theorem Sl.get (h : Sl k w S A xs) {i : Nat} (hi : i < xs.length) : ∃ ad, A = some ad ∧ k.at_ w S (ad.add (i * k.size)) xs[i] := by
  obtain ⟨ad, hA, hx⟩ := h (fun e => by rw [e] at hi; simp at hi)
  exact ⟨ad, hA, hx i _ (List.getElem?_eq_getElem hi)⟩
theorem Sl.nil : Sl k w S A [] := fun h => absurd rfl h
end

def kStr : Kind Str := { size := 1, at_ := fun w S a s => Has w S a (.string s), same := fun h e => h.same e, more := fun h e => h.more e, below := fun h e => h.below e, old := fun h => h.old }
def kInt : Kind Int := { size := 1, at_ := fun w S a s => Has w S a (.int .i64 s), same := fun h e => h.same e, more := fun h e => h.more e, below := fun h e => h.below e, old := fun h => h.old }
def kLine : Kind LineD :=
  { size := 4
    at_ := fun w S a l => Has w S a (.int .i64 l.op) ∧ Has w S (a.add 1) (.string l.name) ∧ Has w S (a.add 2) (.int .i64 l.num) ∧ Has w S (a.add 3) (.int .i64 l.skip)
    same := fun h e => ⟨h.1.same e, h.2.1.same e, h.2.2.1.same e, h.2.2.2.same e⟩
    more := fun h e => ⟨h.1.more e, h.2.1.more e, h.2.2.1.more e, h.2.2.2.more e⟩
    below := fun h e => ⟨h.1.below e, h.2.1.below e, h.2.2.1.below e, h.2.2.2.below e⟩
    old := fun h => ⟨h.1.old, h.2.1.old, h.2.2.1.old, h.2.2.2.old⟩ }
def kRec : Kind RecD :=
  { size := 4
    at_ := fun w S a l => Has w S a (.int .i64 l.kind) ∧ Has w S (a.add 1) (.string l.name) ∧ Has w S (a.add 2) (.int .i64 l.code) ∧ Has w S (a.add 3) (.int .i64 l.num)
    same := fun h e => ⟨h.1.same e, h.2.1.same e, h.2.2.1.same e, h.2.2.2.same e⟩
    more := fun h e => ⟨h.1.more e, h.2.1.more e, h.2.2.1.more e, h.2.2.2.more e⟩
    below := fun h e => ⟨h.1.below e, h.2.1.below e, h.2.2.1.below e, h.2.2.2.below e⟩
    old := fun h => ⟨h.1.old, h.2.1.old, h.2.2.1.old, h.2.2.2.old⟩ }
def kState : Kind StateD :=
  { size := 4
    at_ := fun w S a l => Has w S a (.string l.name) ∧ Has w S (a.add 1) (.int .i64 l.now) ∧ Has w S (a.add 2) (.int .i64 l.give) ∧ Has w S (a.add 3) (.int .i64 l.code)
    same := fun h e => ⟨h.1.same e, h.2.1.same e, h.2.2.1.same e, h.2.2.2.same e⟩
    more := fun h e => ⟨h.1.more e, h.2.1.more e, h.2.2.1.more e, h.2.2.2.more e⟩
    below := fun h e => ⟨h.1.below e, h.2.1.below e, h.2.2.1.below e, h.2.2.2.below e⟩
    old := fun h => ⟨h.1.old, h.2.1.old, h.2.2.1.old, h.2.2.2.old⟩ }
def kEdge : Kind EdgeD :=
  { size := 3
    at_ := fun w S a l => Has w S a (.int .i64 l.src) ∧ Has w S (a.add 1) (.int .i64 l.line) ∧ Has w S (a.add 2) (.int .i64 l.dst)
    same := fun h e => ⟨h.1.same e, h.2.1.same e, h.2.2.same e⟩
    more := fun h e => ⟨h.1.more e, h.2.1.more e, h.2.2.more e⟩
    below := fun h e => ⟨h.1.below e, h.2.1.below e, h.2.2.below e⟩
    old := fun h => ⟨h.1.old, h.2.1.old, h.2.2.old⟩ }
/-- an element that is a slice itself -/
def kSl {α : Type} (k : Kind α) : Kind (List α) :=
  { size := 1
    at_ := fun w S a xs => ∃ A c, Has w S a (.slice A xs.length c) ∧ xs.length ≤ c ∧ c ≤ maxLen ∧ Sl k w S A xs
    same := fun ⟨A, c, h, hl, hc, hs⟩ e => ⟨A, c, h.same e, hl, hc, hs.same e⟩
    more := fun ⟨A, c, h, hl, hc, hs⟩ e => ⟨A, c, h.more e, hl, hc, hs.more e⟩
    below := fun ⟨A, c, h, hl, hc, hs⟩ e => ⟨A, c, h.below e, hl, hc, hs.below e⟩
    old := fun ⟨A, c, h, hl, hc, hs⟩ => ⟨A, c, h.old, hl, hc, hs.old⟩ }
def kMod : Kind ModD :=
  { size := 2
    at_ := fun w S a m => Has w S a (.string m.name) ∧ (kSl kLine).at_ w S (a.add 1) m.lines
    same := fun h e => ⟨h.1.same e, (kSl kLine).same h.2 e⟩
    more := fun h e => ⟨h.1.more e, (kSl kLine).more h.2 e⟩
    below := fun h e => ⟨h.1.below e, (kSl kLine).below h.2 e⟩
    old := fun h => ⟨h.1.old, (kSl kLine).old h.2⟩ }

/-- a slice value that reads as xs -/
def SlV {α : Type} (k : Kind α) (w : World) (S : Nat → Prop) (v : Value) (xs : List α) : Prop :=
  ∃ A c, v = .slice A xs.length c ∧ xs.length ≤ c ∧ c ≤ maxLen ∧ Sl k w S A xs
section
variable {α : Type} {k : Kind α} {w w' : World} {S T : Nat → Prop} {v : Value} {xs : List α}
theorem SlV.same (h : SlV k w S v xs) (e : Same S w w') : SlV k w' S v xs := by
  obtain ⟨A, c, hv, hl, hc, hs⟩ := h; exact ⟨A, c, hv, hl, hc, hs.same e⟩
theorem SlV.more (h : SlV k w S v xs) (e : ∀ b, S b → T b) : SlV k w T v xs := by
  obtain ⟨A, c, hv, hl, hc, hs⟩ := h; exact ⟨A, c, hv, hl, hc, hs.more e⟩
theorem SlV.below (h : SlV k w S v xs) (e : Below w.heap.size w w') : SlV k w' S v xs := by
  obtain ⟨A, c, hv, hl, hc, hs⟩ := h; exact ⟨A, c, hv, hl, hc, hs.below e⟩
end

theorem blk_cell {w : World} {b : Nat} {cs : Array Value} {t : TypeId} (h : w.heap[b]? = some (.cells cs t (0, 0))) (i : Nat) : w.cell? ⟨b, i, none⟩ = cs[i]? := cell_of_row w b i cs t (0, 0) h
theorem blk_free {w : World} {b : Nat} {cs : Array Value} {t : TypeId} (h : w.heap[b]? = some (.cells cs t (0, 0))) (i : Nat) : w.frozen? ⟨b, i, none⟩ = false := by simp [World.frozen?, h]
theorem blk_set {w : World} {b : Nat} {cs : Array Value} {t : TypeId} {f : Nat × Nat} (h : w.heap[b]? = some (.cells cs t f)) (i : Nat) (u : Value) : (w.setCell ⟨b, i, none⟩ u).heap[b]? = some (.cells (cs.setIfInBounds i u) t f) := by
  simp [World.setCell, Array.getElem?_modify, h]
theorem blk_new {w w1 : World} {cs : Array Value} {t : TypeId} (h : Below (w.alloc (.cells cs t)).heap.size (w.alloc (.cells cs t)) w1) : w1.heap[w.heap.size]? = some (.cells cs t (0, 0)) :=
  (h.block _ (by simp)).trans (heap_alloc_new w _)
theorem held_step {w0 W w1 : World} {a : Addr} {v : Value} (h : Below w0.heap.size w0 W ∧ W.cell? a = some v) (hb : Below W.heap.size W w1) : Below w0.heap.size w0 w1 ∧ w1.cell? a = some v :=
  ⟨h.1.trans (hb.mono h.1.size), (hb.cell (World.block_lt_of_cell? W _ h.2)).trans h.2⟩
theorem held_step2 {w0 W w1 : World} {a b : Addr} {v u : Value} (h : Below w0.heap.size w0 W ∧ W.cell? a = some v ∧ W.cell? b = some u) (hb : Below W.heap.size W w1) : Below w0.heap.size w0 w1 ∧ w1.cell? a = some v ∧ w1.cell? b = some u :=
  ⟨h.1.trans (hb.mono h.1.size), (hb.cell (World.block_lt_of_cell? W _ h.2.1)).trans h.2.1, (hb.cell (World.block_lt_of_cell? W _ h.2.2)).trans h.2.2⟩
theorem below_size {B : Nat} {w w' : World} {o : Obj} (h : Below B (w.alloc o) w') : w.heap.size + 1 ≤ w'.heap.size := by have := h.size; simpa using this
/-- behind a call that keeps what was -/
theorem below_then {B : Nat} {w w1 w2 : World} (h : Below B w w1) (hB : B ≤ w1.heap.size) (k : Below w1.heap.size w1 w2) : Below B w w2 :=
  h.trans ⟨k.os, k.tape, k.output, k.size, fun i hi => k.block i (Nat.lt_of_lt_of_le hi hB)⟩
theorem below_drewN {B : Nat} {a w : World} (h : Below B a w) (n : Nat) : Below B a (w.drewN n) := ⟨h.os, h.tape, h.output, h.size, h.block⟩
end Mem
end Go.Proofs.YtkhlicmlnjccdaaGreatDoor

namespace Go.Proofs.YtkhlicmlnjccdaaGreatDoor
namespace Nm
abbrev Bs := List UInt8
def bs (s : Str) : Bs := s.data.toList
def mk (l : Bs) : Str := ⟨l.toArray⟩
theorem bs_mk (l : Bs) : bs (mk l) = l := by simp [bs, mk]
theorem mk_bs (s : Str) : mk (bs s) = s := by cases s; simp [bs, mk]
theorem bs_inj {a b : Str} (h : bs a = bs b) : a = b := by rw [← mk_bs a, ← mk_bs b, h]
theorem mk_inj {a b : Bs} (h : mk a = mk b) : a = b := by rw [← bs_mk a, ← bs_mk b, h]
theorem bs_length (s : Str) : (bs s).length = s.size := by cases s; simp [bs, ByteArray.size]
theorem mk_size (l : Bs) : (mk l).size = l.length := by simp [mk, ByteArray.size]

theorem map_bs_mk (r : List Bs) : (r.map mk).map bs = r := by
  induction r with
  | nil => rfl
  | cons x r ih => rw [List.map_cons, List.map_cons, ih, bs_mk]
theorem map_mk_bs (r : List Str) : (r.map bs).map mk = r := by
  induction r with
  | nil => rfl
  | cons x r ih => rw [List.map_cons, List.map_cons, ih, mk_bs]
def parts : Bs → List Bs
  | [] => [[]]
  | c :: r => if c = 47 then [] :: parts r else match parts r with
    | [] => [[c]]
    | p :: ps => (c :: p) :: ps
theorem parts_ne (l : Bs) : parts l ≠ [] := by
  induction l with
  | nil => simp [parts]
  | cons c r ih =>
    unfold parts
    split
    · simp
    · split <;> simp
theorem parts_slash (r : Bs) : parts (47 :: r) = [] :: parts r := by simp [parts]
theorem parts_cons {c : UInt8} {r p : Bs} {ps : List Bs} (hc : c ≠ 47) (h : parts r = p :: ps) : parts (c :: r) = (c :: p) :: ps := by
  unfold parts; rw [if_neg hc, h]
/-- no slash ahead of i -/
def clear (l : Bs) (i : Nat) : Prop := ∀ j, j < i → l[j]? ≠ some 47
theorem parts_at : ∀ (i : Nat) (l : Bs), clear l i → l[i]? = some 47 → parts l = l.take i :: parts (l.drop (i + 1))
  | 0, [], _, h => by simp at h
  | 0, c :: r, _, h => by
    have : c = 47 := by simpa using h
    subst this; rw [parts_slash]; rfl
  | i + 1, [], _, h => by simp at h
  | i + 1, c :: r, hn, h => by
    have hc : c ≠ 47 := fun e => hn 0 (by omega) (by simp [e])
    have ih := parts_at i r (fun j hj => by have := hn (j + 1) (by omega); simpa using this) (by simpa using h)
    rw [parts_cons hc ih]; rfl
theorem parts_one : ∀ (l : Bs), clear l l.length → parts l = [l]
  | [], _ => rfl
  | c :: r, hn => by
    have hc : c ≠ 47 := fun e => hn 0 (by simp) (by simp [e])
    have ih := parts_one r (fun j hj => by have := hn (j + 1) (by simpa using hj); simpa using this)
    rw [parts_cons hc ih]

theorem index_nil : Lib.index [] [47] = -1 := by decide
theorem index_slash (r : Bs) : Lib.index (47 :: r) [47] = 0 :=
  Lib.index_first (i := 0) (by simp) (by simp [Lib.occAt]) (fun j hj => absurd hj (by omega))
theorem occ (l : Bs) (i : Nat) : Lib.occAt l [47] i = true ↔ l[i]? = some 47 := by
  unfold Lib.occAt
  rcases Nat.lt_or_ge i l.length with h | h
  · rw [List.drop_eq_getElem_cons h, List.getElem?_eq_getElem h]
    constructor
    · intro e
      have : 47 = l[i] := by simpa [List.isPrefixOf] using e
      rw [← this]
    · intro e
      have : l[i] = 47 := by simpa using e
      rw [this]; rfl
  · rw [List.drop_eq_nil_of_le h, List.getElem?_eq_none h]; simp
theorem index_cases (l : Bs) : (Lib.index l [47] = -1 ∧ clear l l.length) ∨ ∃ i : Nat, Lib.index l [47] = i ∧ clear l i ∧ l[i]? = some 47 := by
  rcases Lib.index_spec l [47] with ⟨h, hn⟩ | ⟨i, h, hi, ho, hn⟩
  · refine .inl ⟨h, fun j hj e => ?_⟩
    have := hn j (by omega)
    rw [(occ l j).2 e] at this; simp at this
  · refine .inr ⟨i, h, fun j hj e => ?_, (occ l i).1 ho⟩
    have := hn j hj
    rw [(occ l j).2 e] at this; simp at this
theorem split_parts : ∀ (n : Nat) (l : Bs), l.length ≤ n → Lib.splitK [47] 0 (Lib.count l [47]) l = parts l := by
  intro n
  induction n with
  | zero =>
    intro l hl
    obtain rfl : l = [] := List.eq_nil_of_length_eq_zero (by omega)
    rw [Lib.count_miss index_nil]; rfl
  | succ n ih =>
    intro l hl
    rcases index_cases l with ⟨h, hc⟩ | ⟨i, h, hc, hi⟩
    · rw [Lib.count_miss h, parts_one l hc]; rfl
    · have hil : i < l.length := by
        rcases Nat.lt_or_ge i l.length with h | h
        · exact h
        · rw [List.getElem?_eq_none h] at hi; simp at hi
      rw [Lib.count_hit (by simp) h, parts_at i l hc hi, Nat.add_comm 1]
      show (if Lib.index l [47] == -1 then [l] else _) = _
      rw [if_neg (by rw [h]; simp), h]
      have e : (i : Int).toNat = i := by omega
      rw [e, Nat.add_zero]
      simp only [List.length_singleton]
      rw [ih _ (by simp; omega)]
theorem splitB_parts (s : Str) : (Lib.splitB ⟨#[47]⟩ 0 (Lib.countB s ⟨#[47]⟩) s).map bs = parts (bs s) := by
  have h := Lib.splitB_data ⟨#[47]⟩ 0 (Lib.countB s ⟨#[47]⟩) s
  exact h.trans (split_parts _ (bs s) (Nat.le_refl _))
theorem splitB_eq (s : Str) : Lib.splitB ⟨#[47]⟩ 0 (Lib.countB s ⟨#[47]⟩) s = (parts (bs s)).map mk := by
  rw [← splitB_parts, List.map_map]
  conv => lhs; rw [← List.map_id (Lib.splitB ⟨#[47]⟩ 0 (Lib.countB s ⟨#[47]⟩) s)]
  exact List.map_congr_left fun x _ => (mk_bs x).symm
theorem countB_parts (s : Str) : Lib.countB s ⟨#[47]⟩ + 1 = (parts (bs s)).length := by
  have h := congrArg List.length (splitB_parts s)
  rw [List.length_map, Lib.splitB_all ⟨#[47]⟩ (by decide) 0 _ s rfl] at h
  exact h
/-- the first part -/
theorem cut_first (s : Str) : (Lib.cut (bs s) [47]).1 = (parts (bs s)).head (parts_ne _) := by
  rcases index_cases (bs s) with ⟨h, hc⟩ | ⟨i, h, hc, hi⟩
  · unfold Lib.cut; rw [if_neg (by omega)]; simp only [parts_one _ hc, List.head_cons]
  · unfold Lib.cut; rw [if_pos (by omega)]; simp only [parts_at i _ hc hi, List.head_cons, h]; rfl

theorem parts_length : ∀ (l : Bs), (parts l).length ≤ l.length + 1
  | [] => by simp [parts]
  | c :: r => by
    have ih := parts_length r
    unfold parts
    split
    · simpa using ih
    · split
      · simp
      · rename_i h; rw [h] at ih; simp at ih ⊢; omega
theorem parts_le : ∀ (l : Bs) (p : Bs), p ∈ parts l → p.length ≤ l.length
  | [], p, h => by simp [parts] at h; simp [h]
  | c :: r, p, h => by
    have ih := parts_le r
    unfold parts at h
    split at h
    · rcases List.mem_cons.1 h with h | h
      · simp [h]
      · have := ih p h; simp; omega
    · split at h
      · simp at h; simp [h]
      · rename_i q qs hq
        rcases List.mem_cons.1 h with h | h
        · have := ih q (by rw [hq]; simp); simp [h]; omega
        · have := ih p (by rw [hq]; simp [h]); simp; omega
/-- the loop of l1parts: done so far -/
def PInv (l : Bs) (k a : Nat) (done : List Bs) : Prop :=
  (k ≤ l.length ∧ a ≤ k ∧ parts l = done ++ parts (l.drop a) ∧ ∀ j, a ≤ j → j < k → l[j]? ≠ some 47) ∨ (k = l.length + 1 ∧ a ≤ k ∧ parts l = done)
theorem PInv.start (l : Bs) : PInv l 0 0 [] := .inl ⟨by omega, by omega, rfl, fun j _ h => absurd h (by omega)⟩
theorem PInv.le {l : Bs} {k a : Nat} {done : List Bs} (h : PInv l k a done) : k ≤ l.length + 1 ∧ a ≤ k := by
  rcases h with ⟨h, h1, _⟩ | ⟨h, h1, _⟩ <;> omega
theorem PInv.count {l : Bs} {k a : Nat} {done : List Bs} (h : PInv l k a done) : done.length ≤ l.length + 1 := by
  have hp := parts_length l
  rcases h with ⟨_, _, h, _⟩ | ⟨_, _, h⟩
  · rw [h] at hp; simp at hp; omega
  · rw [h] at hp; exact hp
theorem PInv.skip {l : Bs} {k a : Nat} {done : List Bs} (h : PInv l k a done) (hk : k < l.length) (hc : l[k]? ≠ some 47) : PInv l (k + 1) a done := by
  rcases h with ⟨h, h1, h2, h3⟩ | ⟨h, _⟩
  · refine .inl ⟨by omega, by omega, h2, fun j hj hj2 => ?_⟩
    rcases Nat.lt_or_ge j k with h | h
    · exact h3 j hj h
    · obtain rfl : j = k := by omega
      exact hc
  · omega
theorem PInv.cut {l : Bs} {k a : Nat} {done : List Bs} (h : PInv l k a done) (hc : l[k]? = some 47) : PInv l (k + 1) (k + 1) (done ++ [(l.drop a).take (k - a)]) := by
  have hk : k < l.length := by
    rcases Nat.lt_or_ge k l.length with h | h
    · exact h
    · rw [List.getElem?_eq_none h] at hc; simp at hc
  rcases h with ⟨h, h1, h2, h3⟩ | ⟨h, _⟩
  · refine .inl ⟨by omega, by omega, ?_, fun j hj hj2 => by omega⟩
    have hp := parts_at (k - a) (l.drop a) (fun j hj => by rw [List.getElem?_drop]; exact h3 (a + j) (by omega) (by omega)) (by rw [List.getElem?_drop, ← hc]; congr 1; omega)
    rw [h2, hp, List.drop_drop]
    have e : a + (k - a + 1) = k + 1 := by omega
    rw [e]; simp
  · omega
theorem PInv.last {l : Bs} {k a : Nat} {done : List Bs} (h : PInv l k a done) (hk : k = l.length) : PInv l (k + 1) (k + 1) (done ++ [(l.drop a).take (k - a)]) := by
  rcases h with ⟨h, h1, h2, h3⟩ | ⟨h, _⟩
  · refine .inr ⟨by omega, by omega, ?_⟩
    have hp := parts_one (l.drop a) (fun j hj => by rw [List.getElem?_drop]; rw [List.length_drop] at hj; exact h3 (a + j) (by omega) (by omega))
    rw [h2, hp, List.take_of_length_le (by simp; omega)]
  · omega
theorem PInv.done {l : Bs} {k a : Nat} {done : List Bs} (h : PInv l k a done) (hk : l.length < k) : parts l = done := by
  rcases h with ⟨h, _⟩ | ⟨_, _, h⟩
  · omega
  · exact h
theorem extract_mk (s : Str) (a k : Nat) : s.extract a k = mk (((bs s).drop a).take (k - a)) := by
  apply bs_inj
  rw [bs_mk]
  exact Lib.extract_data s a k

def okByte (b : UInt8) : Bool := (decide (97 ≤ b.toNat) && decide (b.toNat ≤ 122)) || (decide (48 ≤ b.toNat) && decide (b.toNat ≤ 57)) || decide (b.toNat = 95) || decide (b.toNat = 45)
def plain (p : Bs) : Bool := !p.isEmpty && p.all okByte
def walk : List Bs → List Bs → Int × List Bs
  | row, [] => (0, row)
  | row, p :: ps => if p = [46] then walk row ps else if p = [46, 46] then (if row = [] then (2, []) else walk row.dropLast ps) else if plain p = true then walk (row ++ [p]) ps else (1, [])
theorem walk_drop (row : List Bs) (ps : List Bs) (k : Nat) (hk : k < ps.length) : walk row (ps.drop k) = if ps[k] = [46] then walk row (ps.drop (k + 1)) else if ps[k] = [46, 46] then (if row = [] then (2, []) else walk row.dropLast (ps.drop (k + 1))) else if plain ps[k] = true then walk (row ++ [ps[k]]) (ps.drop (k + 1)) else (1, []) := by
  rw [List.drop_eq_getElem_cons hk]; rfl
theorem plain_ne {p : Bs} (h : p ≠ []) (ha : ∀ (j : Nat) (c : UInt8), p[j]? = some c → okByte c = true) : plain p = true := by
  unfold plain
  rw [Bool.and_eq_true]
  refine ⟨by cases p <;> simp_all, List.all_eq_true.2 fun c hc => ?_⟩
  obtain ⟨j, hj⟩ := List.mem_iff_getElem?.1 hc
  exact ha j c hj
theorem plain_no {p : Bs} {j : Nat} {c : UInt8} (h : p[j]? = some c) (hc : okByte c = false) : plain p = false := by
  unfold plain
  rw [Bool.and_eq_false_iff]
  refine .inr (Bool.eq_false_iff.2 fun ha => ?_)
  have := List.all_eq_true.1 ha c (List.mem_of_getElem? h)
  rw [hc] at this; simp at this
theorem plain_nil : plain [] = false := rfl
def join (ps : List Bs) : Bs := Lib.join ps [47]
theorem join_snoc (ps : List Bs) (p : Bs) (h : ps ≠ []) : join (ps ++ [p]) = join ps ++ [47] ++ p := by
  unfold join Lib.join
  induction ps with
  | nil => exact absurd rfl h
  | cons a r ih =>
    cases r with
    | nil => simp [List.intercalate, List.intersperse]
    | cons b t =>
      have := ih (by simp)
      simp only [List.intercalate, List.cons_append, List.intersperse_cons_cons, List.flatten_cons] at this ⊢
      rw [this]; simp
theorem join_nil : join [] = [] := rfl
theorem join_one (p : Bs) : join [p] = p := Lib.join_one p [47]
/-- the form of a name walked from a place on -/
def named (at_ : List Bs) (name : Bs) : Int × Bs :=
  if 60 < name.length then (3, []) else
    if (walk at_ (parts name)).1 ≠ 0 then ((walk at_ (parts name)).1, []) else
      if join (walk at_ (parts name)).2 = [] then (1, []) else
        if 60 < (join (walk at_ (parts name)).2).length then (3, []) else (0, join (walk at_ (parts name)).2)
theorem named_long {at_ : List Bs} {name : Bs} (h : 60 < name.length) : named at_ name = (3, []) := by unfold named; rw [if_pos h]
theorem named_code {at_ : List Bs} {name : Bs} {r : Int × List Bs} (h : ¬ 60 < name.length) (hr : walk at_ (parts name) = r) (hc : r.1 ≠ 0) : named at_ name = (r.1, []) := by
  unfold named; rw [if_neg h, hr, if_pos hc]
theorem named_none {at_ : List Bs} {name : Bs} {r : Int × List Bs} (h : ¬ 60 < name.length) (hr : walk at_ (parts name) = r) (hc : r.1 = 0) (hj : join r.2 = []) : named at_ name = (1, []) := by
  unfold named; rw [if_neg h, hr, if_neg (fun e => e hc), if_pos hj]
theorem named_over {at_ : List Bs} {name : Bs} {r : Int × List Bs} (h : ¬ 60 < name.length) (hr : walk at_ (parts name) = r) (hc : r.1 = 0) (hj : join r.2 ≠ []) (hl : 60 < (join r.2).length) : named at_ name = (3, []) := by
  unfold named; rw [if_neg h, hr, if_neg (fun e => e hc), if_neg hj, if_pos hl]
theorem named_ok {at_ : List Bs} {name : Bs} {r : Int × List Bs} (h : ¬ 60 < name.length) (hr : walk at_ (parts name) = r) (hc : r.1 = 0) (hj : join r.2 ≠ []) (hl : ¬ 60 < (join r.2).length) : named at_ name = (0, join r.2) := by
  unfold named; rw [if_neg h, hr, if_neg (fun e => e hc), if_neg hj, if_neg hl]
def clean (s : Str) : Int × Str := ((named [] (bs s)).1, mk (named [] (bs s)).2)
def within (frm s : Str) : Int × Str :=
  if (clean frm).1 ≠ 0 then (4, mk []) else ((named (parts (bs (clean frm).2)).dropLast (bs s)).1, mk (named (parts (bs (clean frm).2)).dropLast (bs s)).2)
def near (s : Str) : Bool := decide ((parts (bs s)).head (parts_ne _) = [46]) || decide ((parts (bs s)).head (parts_ne _) = [46, 46])
def rooted (root name : Str) : Int × Str := if root = mk [] then clean name else clean (root ++ mk [47] ++ name)
def metIn (out : List Str) (x : Str) : Bool := out.any fun y => decide (y = x)
/-- what the roots add to the tries -/
def triesOf (name : Str) : List Str → List Str → List Str
  | out, [] => out
  | out, r :: rs => if (rooted r name).1 = 0 ∧ metIn out (rooted r name).2 = false then triesOf name (out ++ [(rooted r name).2]) rs else triesOf name out rs
def tries (roots : List Str) (frm name : Str) : List Str :=
  if 8 < roots.length then [] else
    if near name = true then (if (within frm name).1 ≠ 0 then [] else [(within frm name).2]) else
      if (clean name).1 ≠ 0 then [] else triesOf (clean name).2 [] roots
end Nm
end Go.Proofs.YtkhlicmlnjccdaaGreatDoor

namespace Go.Proofs.YtkhlicmlnjccdaaGreatDoor
open Go.RowKit Mem

set_option maxHeartbeats 400000 in
theorem eqStringS_calls (A B : Option Addr) (c d : Nat) (xs ys : List Str) (w : World) (S T : Nat → Prop) (h1 : Sl kStr w S A xs) (h2 : Sl kStr w T B ys) (hl : xs.length ≤ maxLen) (hl2 : ys.length ≤ maxLen) :
    Calls Tryz.prog 42 #[.slice A xs.length c, .slice B ys.length d] w fun e w' => e = .returned (.bool (decide (xs = ys))) ∧ ∃ n, w' = w.drewN n := by
  unfold maxLen at hl hl2
  by_cases hn : xs.length = ys.length
  · have hn' : ((xs.length : Int) != (ys.length : Int)) = false := by rw [hn]; simp
    have HN := hide hn
    clear hn
    go_enter Tryz.func42, Tryz.ntmps42
    go_wp2
    go_loopw [5] (fun i wr => ∃ k : Nat, i = .int .i64 k ∧ k ≤ xs.length ∧ (∀ j, j < k → xs[j]? = ys[j]?) ∧ ∃ n, wr = w.drewN n) (fun i _ => xs.length - (intOf i).toNat)
    case atStart => exact ⟨0, rfl, by omega, fun j hj => absurd hj (by omega), 0, rfl⟩
    case round =>
      obtain ⟨k, rfl, hk, hE, n, rfl⟩ := hrel
      have HE := hide hE
      clear hE
      by_cases hlt : k < xs.length
      · have hlt2 : k < ys.length := by have := HN.out; omega
        obtain ⟨ad, rfl, hc1⟩ := h1.get hlt
        obtain ⟨bd, rfl, hc2⟩ := h2.get hlt2
        have e1 : w.cell? (ad.add k) = some (.string xs[k]) := by simpa [kStr] using hc1.2
        have e2 : w.cell? (bd.add k) = some (.string ys[k]) := by simpa [kStr] using hc2.2
        clear hc1 hc2 h1 h2
        by_cases he : xs[k] = ys[k]
        · have hb := nbeq_t he
          have HX := hide he
          clear he
          go_wp2
          go_quiet (fail)
          go_wp2
          go_roundw
          case rel =>
            refine ⟨k + 1, by go_num, by omega, fun j hj => ?_, by (first | exact ⟨_, rfl⟩ | exact ⟨_, World.drewN_drewN ..⟩ | exact ⟨0, rfl⟩)⟩
            rcases Nat.lt_or_ge j k with h | h
            · exact HE.out j h
            · obtain rfl : j = k := by omega
              rw [List.getElem?_eq_getElem hlt, List.getElem?_eq_getElem hlt2, HX.out]
          case measure => simp [intOf]; omega
        · have hb := nbeq_f he
          have HX := hide he
          clear he
          go_wp2
          go_quiet (fail)
          go_wp2
          go_ret
          refine ⟨?_, by (first | exact ⟨_, rfl⟩ | exact ⟨_, World.drewN_drewN ..⟩ | exact ⟨0, rfl⟩)⟩
          simp
          intro e; exact HX.out (by subst e; rfl)
      · go_wp2
        go_ret
        refine ⟨?_, _, rfl⟩
        simp
        refine List.ext_getElem? fun j => ?_
        rcases Nat.lt_or_ge j k with h | h
        · exact HE.out j h
        · rw [List.getElem?_eq_none (by omega), List.getElem?_eq_none (by have := HN.out; omega)]
  · have hn' : ((xs.length : Int) != (ys.length : Int)) = true := by simp; omega
    have HN := hide hn
    clear hn
    go_enter Tryz.func42, Tryz.ntmps42
    go_wp2
    go_ret
    refine ⟨?_, by (first | exact ⟨_, rfl⟩ | exact ⟨_, World.drewN_drewN ..⟩ | exact ⟨0, rfl⟩)⟩
    simp
    intro e; exact HN.out (by rw [e])

theorem eqStringS_same (A B : Option Addr) (c d n : Nat) (xs : List Str) (w : World) (S T : Nat → Prop) (h1 : Sl kStr w S A xs) (h2 : Sl kStr w T B xs) (hn : xs.length = n) (hl : n ≤ maxLen) :
    Calls Tryz.prog 42 #[.slice A n c, .slice B n d] w fun e w' => e = .returned (.bool true) ∧ ∃ n, w' = w.drewN n := by
  subst hn
  exact (eqStringS_calls A B c d xs xs w S T h1 h2 hl hl).mono fun e w' h => ⟨by simpa using h.1, h.2⟩
end Go.Proofs.YtkhlicmlnjccdaaGreatDoor

namespace Go.Proofs.YtkhlicmlnjccdaaGreatDoor
open Go.RowKit Mem Go.ChangeMaps Go.Maps
namespace Mem
def rAny (v : Value) : Option (DataW Value × List MemPlace) := some (.held v, [])
/-- block b is a map of at most n entries that holds f -/
def MapIs (w : World) (P : Program) (k : TypeId) (b n : Nat) (f : Lit → Option Value) : Prop :=
  ∃ D : DataW Value, w.ownsMap P k rAny b n D ∧ Maps.IsMap D ∧ ∀ kl, WideAt.IsKeyLit kl → Maps.has D kl = (f kl).isSome ∧ ∀ z, D.atKey kl (.held z) = .held ((f kl).getD z)
def put (f : Lit → Option Value) (kl : Lit) (v : Value) : Lit → Option Value := fun x => if x.sameKey kl = true then some v else f x
theorem MapIs.made (w : World) (P : Program) (k : TypeId) : MapIs (w.alloc (.map #[] 0)) P k w.heap.size 0 (fun _ => none) :=
  ⟨.map [], World.ownsMap_made w P k rAny, Maps.isMap_empty, fun _ _ => ⟨rfl, fun _ => rfl⟩⟩
theorem put_same (f : Lit → Option Value) {kl : Lit} (hl : WideAt.IsKeyLit kl) (v : Value) : put f kl v kl = some v := if_pos (WideAt.sameKey_self hl)
theorem put_other (f : Lit → Option Value) {kl x : Lit} (v : Value) (h : x ≠ kl) : put f kl v x = f x := if_neg (fun e => h (WideAt.sameKey_eq e))
section
variable {P : Program} {k : TypeId} {w w' : World} {b n : Nat} {f : Lit → Option Value}
theorem MapIs.more (h : MapIs w P k b n f) {m : Nat} (hn : n ≤ m) : MapIs w P k b m f := by
  obtain ⟨D, h1, h2, h3⟩ := h
  exact ⟨D, h1.mono hn, h2, h3⟩
theorem MapIs.lt (h : MapIs w P k b n f) : b < w.heap.size := by obtain ⟨D, h1, _⟩ := h; exact h1.lt
theorem MapIs.same (h : MapIs w P k b n f) (hs : w'.heap[b]? = w.heap[b]?) : MapIs w' P k b n f := by
  obtain ⟨D, ⟨es, c, hb, F, hz, hD⟩, h2, h3⟩ := h
  exact ⟨D, ⟨es, c, hs.trans hb, F, hz, hD⟩, h2, h3⟩
theorem MapIs.below (h : MapIs w P k b n f) (hb : Below w.heap.size w w') : MapIs w' P k b n f := h.same (hb.block b h.lt)
theorem MapIs.alloc (h : MapIs w P k b n f) (o : Obj) : MapIs (w.alloc o) P k b n f := h.below ((Below.refl _ _).alloc (Nat.le_refl _) o)
theorem MapIs.drewN (h : MapIs w P k b n f) (m : Nat) : MapIs (w.drewN m) P k b n f := h
theorem MapIs.look (h : MapIs w P k b n f) (K : Keyed P k) {t e : TypeId} (ht : P.underlying t = some (.map k e)) {z : Value} (hz : (zeroValue e).run P w = .ok z w) {key : Value} {kl : Lit} (hkey : keyOf P k key = some kl) (hl : WideAt.IsKeyLit kl) :
    (Instr.lookup t (.map (some b)) key false).run P w = .ok ((f kl).getD z) w := by
  obtain ⟨D, h1, _, h3⟩ := h
  obtain ⟨v, ps, hrun, hv⟩ := h1.lookup K ht hz (zd := .held z) (zp := []) rfl hkey
  rw [(h3 kl hl).2 z] at hv
  injection hv with hv
  injection hv with hv _
  injection hv with hv
  rw [hrun, hv]
theorem MapIs.look_ok (h : MapIs w P k b n f) (K : Keyed P k) {t e : TypeId} (ht : P.underlying t = some (.map k e)) {z : Value} (hz : (zeroValue e).run P w = .ok z w) {key : Value} {kl : Lit} (hkey : keyOf P k key = some kl) (hl : WideAt.IsKeyLit kl) :
    (Instr.lookup t (.map (some b)) key true).run P w = .ok (.tuple #[(f kl).getD z, .bool (f kl).isSome]) w := by
  obtain ⟨D, h1, _, h3⟩ := h
  obtain ⟨v, ps, hrun, hv⟩ := h1.look_ok K ht hz (zd := .held z) (zp := []) rfl hkey
  rw [(h3 kl hl).2 z] at hv
  injection hv with hv
  injection hv with hv _
  injection hv with hv
  rw [hrun, hv, (h3 kl hl).1]
theorem MapIs.update (h : MapIs w P k b n f) (K : Keyed P k) {t e : TypeId} (ht : P.underlying t = some (.map k e)) (hn : n < maxLen) {key val : Value} {kl : Lit} (hkey : keyOf P k key = some kl) (hl : WideAt.IsKeyLit kl) :
    ∃ w', (Instr.mapUpdate t (.map (some b)) key val).run P w = .ok () w' ∧ MapIs w' P k b (n + 1) (put f kl val) ∧ w.grownBy w' (some b) := by
  obtain ⟨D, h1, h2, h3⟩ := h
  obtain ⟨w', hrun, h4, hg⟩ := h1.update K ht hn hkey (val := val) (d := .held val) (ps := []) rfl
  refine ⟨w', hrun, ⟨_, h4, h2.put _ _, fun x hx => ?_⟩, hg⟩
  unfold put
  by_cases hk : x = kl
  · subst hk
    rw [if_pos (WideAt.sameKey_self hx)]
    exact ⟨Maps.has_put_same h2 hx _, fun z => Maps.atKey_put_same h2 hx _ _⟩
  · rw [if_neg (fun e => hk (WideAt.sameKey_eq e))]
    exact ⟨(Maps.has_put_other hk _).trans (h3 x hx).1, fun z => (Maps.atKey_put_other hk _ _).trans ((h3 x hx).2 z)⟩
/-- at the operation: m[k] = v -/
theorem wpList_put {ops : Array Oper} {rest : List Oper} {o : Oper} {a : Act} {Q : Exit → Act → World → Prop} (hg : o.guard = none) (m x v : Operand) (t : TypeId) (hop : o.op = Op.mapUpdate t m x v) (K : Keyed P k) {e : TypeId} (ht : P.underlying t = some (.map k e))
    (hm : a.eval m = .map (some b)) (h : MapIs w P k b n f) (hn : n < maxLen) (key val : Value) (kl : Lit) (hx : a.eval x = key) (hv : a.eval v = val) (hkey : keyOf P k key = some kl) (hl : WideAt.IsKeyLit kl)
    (hK : ∀ w', MapIs w' P k b (n + 1) (put f kl val) → w.grownBy w' (some b) → wpList P ops Q rest (a.put o.dst undef) w') :
    wpList P ops Q (o :: rest) a w := by
  refine wpList_plain hg fun K' hK' => ?_
  obtain ⟨w', hrun, r1, r2⟩ := h.update K ht hn hkey hl (val := val)
  unfold Oper.wp
  simp [execOp, hop, hm, hx, hv, hrun, Result.andThen]
  exact hK' _ _ (hK w' r1 r2)
/-- at the operation: m[k] -/
theorem wpList_look {ops : Array Oper} {rest : List Oper} {o : Oper} {a : Act} {Q : Exit → Act → World → Prop} (hg : o.guard = none) (m x : Operand) (t : TypeId) (hop : o.op = Op.lookup t m x false) (K : Keyed P k) {e : TypeId} (ht : P.underlying t = some (.map k e)) {z : Value} (hz : (zeroValue e).run P w = .ok z w)
    (hm : a.eval m = .map (some b)) (h : MapIs w P k b n f) (key : Value) (kl : Lit) (hx : a.eval x = key) (hkey : keyOf P k key = some kl) (hl : WideAt.IsKeyLit kl)
    (hK : wpList P ops Q rest (a.put o.dst ((f kl).getD z)) w) : wpList P ops Q (o :: rest) a w := by
  refine wpList_plain hg fun K' hK' => ?_
  have hrun := h.look K ht hz hkey hl
  unfold Oper.wp
  simp [execOp, hop, hm, hx, hrun, Result.andThen]
  exact hK' _ _ hK
theorem wpList_look_ok {ops : Array Oper} {rest : List Oper} {o : Oper} {a : Act} {Q : Exit → Act → World → Prop} (hg : o.guard = none) (m x : Operand) (t : TypeId) (hop : o.op = Op.lookup t m x true) (K : Keyed P k) {e : TypeId} (ht : P.underlying t = some (.map k e)) {z : Value} (hz : (zeroValue e).run P w = .ok z w)
    (hm : a.eval m = .map (some b)) (h : MapIs w P k b n f) (key : Value) (kl : Lit) (hx : a.eval x = key) (hkey : keyOf P k key = some kl) (hl : WideAt.IsKeyLit kl)
    (hK : wpList P ops Q rest (a.put o.dst (.tuple #[(f kl).getD z, .bool (f kl).isSome])) w) : wpList P ops Q (o :: rest) a w := by
  refine wpList_plain hg fun K' hK' => ?_
  have hrun := h.look_ok K ht hz hkey hl
  unfold Oper.wp
  simp [execOp, hop, hm, hx, hrun, Result.andThen]
  exact hK' _ _ hK
end
end Mem
end Go.Proofs.YtkhlicmlnjccdaaGreatDoor

namespace Go.Proofs.YtkhlicmlnjccdaaGreatDoor
open Go.RowKit Mem
theorem named_guard : Tryz.prog.eqGuardType Tryz.prog.depth 102 = false := by kernel_rfl
theorem named_stood : Tryz.prog.stoodInHeld 102 = false := by kernel_rfl
theorem named_under : Tryz.prog.underlying 102 = some (.struct (Tryz.prog.fieldsOf 102)) := by kernel_rfl
theorem named_neq (a b : Int) (s t : Str) (w : World) : (binOp .neq 102 (.agg #[.int .i64 a, .string s]) (.agg #[.int .i64 b, .string t])).run Tryz.prog w = .ok (.bool (!((a == b) && (s.toList == t.toList)))) w := by
  rw [run_neq_struct, run_equalIn_agg _ _ _ _ _ named_under named_stood]
  simp only [Program.fieldsOf, Tryz.underlying102]
  simp [Op.eqFields, part, go_sem, Tryz.underlying3, Tryz.underlying9]
  by_cases h1 : a = b <;> by_cases h2 : s.toList = t.toList <;> simp [h1, h2]
theorem named_eql (a b : Int) (s t : Str) (w : World) : (binOp .eql 102 (.agg #[.int .i64 a, .string s]) (.agg #[.int .i64 b, .string t])).run Tryz.prog w = .ok (.bool ((a == b) && (s.toList == t.toList))) w := by
  rw [run_eql_struct, run_equalIn_agg _ _ _ _ _ named_under named_stood]
  simp only [Program.fieldsOf, Tryz.underlying102]
  simp [Op.eqFields, part, go_sem, Tryz.underlying3, Tryz.underlying9]
  by_cases h1 : a = b <;> by_cases h2 : s.toList = t.toList <;> simp [h1, h2]
theorem named_neq_same (a : Int) (s : Str) (w : World) : (binOp .neq 102 (.agg #[.int .i64 a, .string s]) (.agg #[.int .i64 a, .string s])).run Tryz.prog w = .ok (.bool false) w := by
  rw [named_neq]; simp
theorem named_eql_same (a : Int) (s : Str) (w : World) : (binOp .eql 102 (.agg #[.int .i64 a, .string s]) (.agg #[.int .i64 a, .string s])).run Tryz.prog w = .ok (.bool true) w := by
  rw [named_eql]; simp
theorem named_field0 (a : Int) (s : Str) (w : World) : (Instr.field 102 (.agg #[.int .i64 a, .string s]) 0).run Tryz.prog w = .ok (.int .i64 a) w := by kernel_rfl
theorem named_field1 (a : Int) (s : Str) (w : World) : (Instr.field 102 (.agg #[.int .i64 a, .string s]) 1).run Tryz.prog w = .ok (.string s) w := by kernel_rfl
end Go.Proofs.YtkhlicmlnjccdaaGreatDoor

namespace Go.Proofs.YtkhlicmlnjccdaaGreatDoor
open Go.RowKit Mem

set_option maxHeartbeats 400000 in
theorem wTexts_calls (A B : Option Addr) (c d : Nat) (xs ys : List Str) (w : World) (S T : Nat → Prop) (h1 : Sl kStr w S A xs) (h2 : Sl kStr w T B ys) (hl : xs.length ≤ maxLen) (hl2 : ys.length ≤ maxLen) :
    Calls Tryz.prog 29 #[.slice A xs.length c, .slice B ys.length d] w fun e w' => e = .returned (.bool (decide (xs = ys))) ∧ ∃ n, w' = w.drewN n := by
  unfold maxLen at hl hl2
  by_cases hn : xs.length = ys.length
  · have hn' : ((xs.length : Int) != (ys.length : Int)) = false := by rw [hn]; simp
    have HN := hide hn
    clear hn
    go_enter Tryz.func29, Tryz.ntmps29
    go_wp2
    go_loopw [5, 13] (fun _ i wr => ∃ k : Nat, i = .int .i64 k ∧ k ≤ xs.length ∧ (∀ j, j < k → xs[j]? = ys[j]?) ∧ ∃ n, wr = w.drewN n) (fun _ i _ => xs.length - (intOf i).toNat)
    case atStart => exact ⟨0, rfl, by omega, fun j hj => absurd hj (by omega), 0, rfl⟩
    case round =>
      obtain ⟨k, rfl, hk, hE, n, rfl⟩ := hrel
      have HE := hide hE
      clear hE
      by_cases hlt : k < xs.length
      · have hlt2 : k < ys.length := by have := HN.out; omega
        obtain ⟨ad, rfl, hc1⟩ := h1.get hlt
        obtain ⟨bd, rfl, hc2⟩ := h2.get hlt2
        have e1 : w.cell? (ad.add k) = some (.string xs[k]) := by simpa [kStr] using hc1.2
        have e2 : w.cell? (bd.add k) = some (.string ys[k]) := by simpa [kStr] using hc2.2
        clear hc1 hc2 h1 h2
        by_cases he : xs[k] = ys[k]
        · have hb := nbeq_t he
          have HX := hide he
          clear he
          go_wp2
          go_quiet (fail)
          go_wp2
          go_roundw
          case rel =>
            refine ⟨k + 1, by go_num, by omega, fun j hj => ?_, by (first | exact ⟨_, rfl⟩ | exact ⟨_, World.drewN_drewN ..⟩ | exact ⟨0, rfl⟩)⟩
            rcases Nat.lt_or_ge j k with h | h
            · exact HE.out j h
            · obtain rfl : j = k := by omega
              rw [List.getElem?_eq_getElem hlt, List.getElem?_eq_getElem hlt2, HX.out]
          case measure => simp [intOf]; omega
        · have hb := nbeq_f he
          have HX := hide he
          clear he
          go_wp2
          go_quiet (fail)
          go_wp2
          go_ret
          refine ⟨?_, by (first | exact ⟨_, rfl⟩ | exact ⟨_, World.drewN_drewN ..⟩ | exact ⟨0, rfl⟩)⟩
          simp
          intro e; exact HX.out (by subst e; rfl)
      · go_wp2
        go_ret
        refine ⟨?_, _, rfl⟩
        simp
        refine List.ext_getElem? fun j => ?_
        rcases Nat.lt_or_ge j k with h | h
        · exact HE.out j h
        · rw [List.getElem?_eq_none (by omega), List.getElem?_eq_none (by have := HN.out; omega)]
  · have hn' : ((xs.length : Int) != (ys.length : Int)) = true := by simp; omega
    have HN := hide hn
    clear hn
    go_enter Tryz.func29, Tryz.ntmps29
    go_wp2
    go_ret
    refine ⟨?_, by (first | exact ⟨_, rfl⟩ | exact ⟨_, World.drewN_drewN ..⟩ | exact ⟨0, rfl⟩)⟩
    simp
    intro e; exact HN.out (by rw [e])

theorem wTexts_same (A B : Option Addr) (c d n : Nat) (xs : List Str) (w : World) (S T : Nat → Prop) (h1 : Sl kStr w S A xs) (h2 : Sl kStr w T B xs) (hn : xs.length = n) (hl : n ≤ maxLen) :
    Calls Tryz.prog 29 #[.slice A n c, .slice B n d] w fun e w' => e = .returned (.bool true) ∧ ∃ n, w' = w.drewN n := by
  subst hn
  exact (wTexts_calls A B c d xs xs w S T h1 h2 hl hl).mono fun e w' h => ⟨by simpa using h.1, h.2⟩
end Go.Proofs.YtkhlicmlnjccdaaGreatDoor
