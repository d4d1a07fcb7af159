/-
  What the rows of this seat share: the world of the witness (the two tables laid), the post out of 'Below', the library's variable.
-/
import Derived.Test.YtkhlicmlnjccdaaDoorCards
import Derived.Test.YtkhlicmlnjccdaaDoorTie
import Derived.Test.YtkhlicmlnjccdaaDoorInm
import Derived.WalkKit
import Derived.ProofKit
import Derived.OpenShut
import Derived.ShutString
import Derived.Deep.DeepHandedRow
import Derived.Lib.LaidTab
import Derived.Shelf.Vars
namespace Go.Proofs.YtkhlicmlnjccdaaDoor
open Go.ChangeShapes Go.WideShapes Go.ChangeAt Go.RowKit

theorem own : ownKnob Tryd.prog.godebug = none := by kernel_rfl

section
variable {H : Type} {enc : TypeId × Value → H} {P : Program}
theorem trodAll_below {W W' : World} (hl : laidOutB P = true) (hb : Below W.heap.size W W') : ∀ (ts : List TypeId) (vs : List Value) (ds : List (DataW H)) (ps : List MemPlace),
    ts.all (fun t => P.readableRec t && decide (t < P.types.size)) = true → DataW.TrodAll enc P W 0 (fun _ => true) true ts vs ds ps → (∀ x ∈ ps, x.block < W.heap.size) →
    DataW.TrodAll enc P W' 0 (fun b => decide (b < W.heap.size)) true ts vs ds ps
  | [], [], [], ps, _, h, _ => h
  | [], [], _ :: _, _, _, h, _ => h.elim
  | [], _ :: _, _, _, _, h, _ => h.elim
  | _ :: _, [], _, _, _, h, _ => h.elim
  | _ :: _, _ :: _, [], _, _, h, _ => h.elim
  | t :: ts, v :: vs, d :: ds, ps, ha, h, hlt => by
    obtain ⟨p, q, h1, h2, rfl⟩ := h
    simp only [List.all_cons, Bool.and_eq_true] at ha
    obtain ⟨⟨hr, hs⟩, ht⟩ := ha
    exact ⟨p, q, Below.trod hl hr (of_decide_eq_true hs) h1 hb (fun x hx => hlt x (List.mem_append_left _ hx)),
      trodAll_below hl hb ts vs ds q ht h2 (fun x hx => hlt x (List.mem_append_right _ hx)), rfl⟩

/-- a law's post: it returned true; what was there is as it was -/
theorem law_post {f : Func} {s : ChangeSpec} {W W' : World} {args : Array Value} {ds gs : List (DataW H)} {before : List MemPlace} {tb : TypeId}
    (hl : laidOutB P = true) (hr : f.params.toList.all (fun t => P.readableRec t && decide (t < P.types.size)) = true) (hvars : s.vars = []) (hres : f.resultTypes = #[tb]) (htb : P.underlying tb = some .bool)
    (hW : DataW.Whole enc P f.params.toList s.vars false W args.toList ds gs before) (hb : Below W.heap.size W W')
    (h1 : (s.fn H (ds ++ gs)).results = [.lit (.bool true)]) (h2 : (s.fn H (ds ++ gs)).args = ds) (h3 : (s.fn H (ds ++ gs)).vars = []) :
    s.post enc P f false true false false W args (.bool true) W' := by
  have hlt : ∀ p ∈ before, p.block < W.heap.size := fun p hp => hW.lt p hp
  have hW' := hW
  obtain ⟨p, q, hA, hV, rfl, hz, hn⟩ := hW
  rw [hvars] at hV
  obtain ⟨rfl, rfl⟩ := trodVars_none hV
  rw [List.append_nil] at hlt hW'
  refine ⟨ds, [], p, [], p, [], hW', ?_, ?_, ?_, World.keptBut_mono (fun x hx => ⟨hx, Or.inr (Or.inl hx)⟩) (hb.frame (· ∈ p)), fun h => by cases h⟩
  · rw [h1, hres]
    exact trodAll_mk1 (shut_bool htb _)
  · rw [h2]
    exact trodAll_below hl hb _ _ _ _ hr hA hlt
  · rw [h3, hvars]; rfl
end
theorem laidOut : laidOutB Tryd.prog = true := by kernel_rfl
open Mem in
/-- an argument that is a slice of texts -/
theorem strs_open {H : Type} {enc : TypeId × Value → H} {W : World} {d : DataW H} {p : List MemPlace} {a : Option Addr} {len cap : Nat} {spare : Nat → Bool} (h : DataW.Trod enc Tryd.prog W 0 spare true 29 (.slice a len cap) d p) :
    ∃ ss : List Str, Sl kStr W (fun _ => True) a ss ∧ ss.length = len ∧ len ≤ maxLen ∧ ∀ s ∈ ss, s.size ≤ maxLen := by
  obtain ⟨fuel, hf⟩ := h
  rcases open_strings Tryd.underlying29 Tryd.underlying9 (by kernel_rfl) hf with ⟨hcs, hx⟩ | ⟨a', len', cap', ss, hcs, _, hl, hm, hlen, hx, hcell, hws⟩
  · have hcs' : [Value.slice a len cap] = [.slice none 0 0] := hcs
    injection hcs' with hcs' _
    injection hcs' with h1 h2 h3
    subst h1 h2 h3
    exact ⟨[], Sl.nil, rfl, Nat.zero_le _, fun s hs => by simp at hs⟩
  · have hcs' : [Value.slice a len cap] = [.slice (some a') len' cap'] := hcs
    injection hcs' with hcs' _
    injection hcs' with h1 h2 h3
    subst h1 h2 h3
    have hle : len ≤ ss.length := by rw [hlen]; split <;> omega
    refine ⟨ss.take len, fun hne => ⟨a', rfl, fun i x hi => ?_⟩, by rw [List.length_take]; omega, by omega, fun s hs => hws s (List.mem_of_mem_take hs)⟩
    have hil : i < len := by
      rcases Nat.lt_or_ge i len with h | h
      · exact h
      · rw [List.getElem?_eq_none (by rw [List.length_take]; omega)] at hi; simp at hi
    have hc := hcell i (by omega)
    rw [List.getElem?_take, if_pos hil] at hi
    refine ⟨trivial, ?_⟩
    rw [show i * kStr.size = i from Nat.mul_one i, hc, List.getD_eq_getElem?_getD, hi]; rfl

/-- the cells of a table of numbers -/
def tabCells : DataW Unit → List Value
  | .lit l => [l.value]
  | .agg xs => tabAll xs
  | _ => []
where tabAll : List (DataW Unit) → List Value
  | [] => []
  | x :: r => tabCells x ++ tabAll r

theorem args_eq {args : Array Value} {vs : List Value} (h : args.toList = vs) : args = vs.toArray := by rw [← h]
def lay (cs : List Value) : Obj → Obj
  | .cells _ t frozen => .cells cs.toArray t frozen
  | o => o
/-- A WORLD FOR THE WITNESS: the settled one, the two tables holding what their initialisers lay. -/
noncomputable def laidWorld (os : Os) : World :=
  { World.holding Tryd.prog os ⟨#[], #[], []⟩ with heap := ((World.holding Tryd.prog os ⟨#[], #[], []⟩).heap.modify 2 (lay (tabCells Rows.laid_unicode_utf8_acceptRanges))).modify 1 (lay (tabCells Rows.laid_unicode_utf8_first)) }

theorem ml_of_shaped {W : World} (h : W.ShapedOpen Tryd.prog) : ML W :=
  cell_of_shapedOpen_int (P := Tryd.prog) (g := 0) (t := 3) (zero := #[.int .i64 0]) h (of_decide_eq_true (by kernel_rfl)) (by kernel_rfl) rfl (by kernel_rfl) (by kernel_rfl) Tryd.underlying3
end Go.Proofs.YtkhlicmlnjccdaaDoor
