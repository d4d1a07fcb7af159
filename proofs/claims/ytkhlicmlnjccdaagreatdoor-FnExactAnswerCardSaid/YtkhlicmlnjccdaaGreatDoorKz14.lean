/-
A law's argument that is a world, opened.
A law's argument that is a world, opened: its numbers are of 64 bits.
-/
import Derived.Test.YtkhlicmlnjccdaaGreatDoorKz3
import Derived.Test.YtkhlicmlnjccdaaGreatDoorKz13
import Derived.Lib.SmallJoins
import Derived.Deep.Slices
import Derived.Test.YtkhlicmlnjccdaaGreatDoorKz10
import Derived.OpenShut
namespace Go.Proofs.YtkhlicmlnjccdaaGreatDoor
open Go.ChangeShapes Go.WideShapes Go.ChangeAt Go.RowKit Go.Deep Go.Joins Mem

theorem list_of {α : Type} {R : Nat → α → Prop} : ∀ (n : Nat), (∀ i, i < n → ∃ x, R i x) → ∃ xs : List α, xs.length = n ∧ ∀ i x, xs[i]? = some x → R i x
  | 0, _ => ⟨[], rfl, fun i x h => by simp at h⟩
  | n + 1, h => by
    obtain ⟨xs, hl, hx⟩ := list_of n (fun i hi => h i (by omega))
    obtain ⟨y, hy⟩ := h n (by omega)
    refine ⟨xs ++ [y], by simp [hl], fun i x hi => ?_⟩
    rcases Nat.lt_or_ge i n with h1 | h1
    · rw [List.getElem?_append_left (by omega)] at hi; exact hx i x hi
    · rw [List.getElem?_append_right (by omega), hl] at hi
      rcases Nat.lt_or_ge (i - n) 1 with h2 | h2
      · have h3 : i = n := by omega
        subst h3
        rw [Nat.sub_self] at hi
        obtain rfl : y = x := by simpa using hi
        exact hy
      · rw [List.getElem?_eq_none (by simpa using h2)] at hi; simp at hi
section
variable {H : Type} {enc : TypeId × Value → H} {W : World} {spare : Nat → Bool}
theorem slice_open {α : Type} (k : Kind α) (Q : α → Prop) {t e : TypeId} (ht : Tryz.prog.underlying t = some (.slice e)) (hc : Tryz.prog.cellsOf e = k.size)
    (one : ∀ {n : Nat} {cs' : List Value} {y : DataW H × List MemPlace} {a : Addr}, (∀ i, i < k.size → W.cell? (a.add i) = cs'[i]?) → cs'.length = k.size → DataW.trod enc Tryz.prog W 0 spare true n e cs' = some y → ∃ x, k.at_ W (fun _ => True) a x ∧ Q x)
    {fuel : Nat} {v : Value} {x : DataW H × List MemPlace} (h : DataW.trod enc Tryz.prog W 0 spare true fuel t [v] = some x) : ∃ xs, SlV k W (fun _ => True) v xs ∧ ∀ y ∈ xs, Q y := by
  rcases open_slice ht h with ⟨hcs, _⟩ | ⟨a, len, cap, m, n, D, Pl, hcs, _, hl, hm, hmm, _, hel⟩
  · injection hcs with hcs _
    subst hcs
    exact ⟨[], ⟨none, 0, rfl, Nat.le_refl _, Nat.zero_le _, Sl.nil⟩, fun y hy => by simp at hy⟩
  · injection hcs with hcs _
    subst hcs
    have hle : len ≤ m := by rw [hmm]; split <;> omega
    obtain ⟨xs, hxl, hx⟩ := list_of (R := fun i x => k.at_ W (fun _ => True) (a.add (i * k.size)) x ∧ Q x) len (fun i hi => by
      obtain ⟨cs', h1, h2⟩ := hel i (by omega)
      rw [hc] at h1
      obtain ⟨_, hcl, hcc⟩ := World.cells?_some h1
      exact one hcc hcl h2)
    refine ⟨xs, ⟨some a, cap, by rw [hxl], by omega, hm, fun _ => ⟨a, rfl, fun i x hi => (hx i x hi).1⟩⟩, fun y hy => ?_⟩
    obtain ⟨i, hi⟩ := List.getElem?_of_mem hy
    exact (hx i y hi).2
theorem one_str {n : Nat} {cs' : List Value} {y : DataW H × List MemPlace} {a : Addr} (hc : ∀ i, i < 1 → W.cell? (a.add i) = cs'[i]?) (_hl : cs'.length = 1) (h : DataW.trod enc Tryz.prog W 0 spare true n 9 cs' = some y) : ∃ x, kStr.at_ W (fun _ => True) a x ∧ x.size ≤ maxLen := by
  obtain ⟨s, rfl, _, hs⟩ := DataW.trod_string Tryz.underlying9 h
  exact ⟨s, ⟨trivial, by have := hc 0 (by omega); rwa [show a.add 0 = a from rfl] at this⟩, hs⟩
theorem one_int {n : Nat} {cs' : List Value} {y : DataW H × List MemPlace} {a : Addr} (hc : ∀ i, i < 1 → W.cell? (a.add i) = cs'[i]?) (_hl : cs'.length = 1) (h : DataW.trod enc Tryz.prog W 0 spare true n 3 cs' = some y) : ∃ x, kInt.at_ W (fun _ => True) a x ∧ True := by
  obtain ⟨s, rfl, _, hs⟩ := DataW.trod_int Tryz.underlying3 h
  exact ⟨s, ⟨trivial, by have := hc 0 (by omega); rwa [show a.add 0 = a from rfl] at this⟩, trivial⟩
theorem list4 {l : List Value} (h : l.length = 4) : ∃ a b c d, l = [a, b, c, d] := by
  rcases l with _ | ⟨a, _ | ⟨b, _ | ⟨c, _ | ⟨d, _ | ⟨e, r⟩⟩⟩⟩⟩
  all_goals first | exact ⟨_, _, _, _, rfl⟩ | (simp at h)
theorem list2 {l : List Value} (h : l.length = 2) : ∃ a b, l = [a, b] := by
  rcases l with _ | ⟨a, _ | ⟨b, _ | ⟨c, r⟩⟩⟩
  all_goals first | exact ⟨_, _, rfl⟩ | (simp at h)
set_option maxRecDepth 100000 in
theorem one_line {n : Nat} {cs' : List Value} {y : DataW H × List MemPlace} {a : Addr} (hc : ∀ i, i < 4 → W.cell? (a.add i) = cs'[i]?) (hl : cs'.length = 4) (h : DataW.trod enc Tryz.prog W 0 spare true n 176 cs' = some y) : ∃ x, kLine.at_ W (fun _ => True) a x ∧ x.name.size ≤ maxLen := by
  obtain ⟨y0, y1, y2, y3, m, _, _, h0, h1, h2, h3⟩ := trod_struct4 Tryz.underlying176 h
  obtain ⟨c0, c1, c2, c3, rfl⟩ := list4 hl
  obtain ⟨a0, e0, _, _⟩ := DataW.trod_int (k := .i64) (by kernel_rfl) h0
  obtain ⟨a1, e1, _, hs⟩ := DataW.trod_string (by kernel_rfl) h1
  obtain ⟨a2, e2, _, _⟩ := DataW.trod_int (k := .i64) (by kernel_rfl) h2
  obtain ⟨a3, e3, _, _⟩ := DataW.trod_int (k := .i64) (by kernel_rfl) h3
  have q0 : [c0] = [Value.int .i64 a0] := e0
  have q1 : [c1] = [Value.string a1] := e1
  have q2 : [c2] = [Value.int .i64 a2] := e2
  have q3 : [c3] = [Value.int .i64 a3] := e3
  injection q0 with q0 _
  injection q1 with q1 _
  injection q2 with q2 _
  injection q3 with q3 _
  subst q0 q1 q2 q3
  exact ⟨⟨a0, a1, a2, a3⟩, ⟨⟨trivial, by simpa [Addr.add] using hc 0 (by omega)⟩, ⟨trivial, hc 1 (by omega)⟩, ⟨trivial, hc 2 (by omega)⟩, ⟨trivial, hc 3 (by omega)⟩⟩, hs⟩
set_option maxRecDepth 100000 in
theorem one_mod {n : Nat} {cs' : List Value} {y : DataW H × List MemPlace} {a : Addr} (hc : ∀ i, i < 2 → W.cell? (a.add i) = cs'[i]?) (hl : cs'.length = 2) (h : DataW.trod enc Tryz.prog W 0 spare true n 134 cs' = some y) : ∃ x, kMod.at_ W (fun _ => True) a x ∧ (x.name.size ≤ maxLen ∧ ∀ l ∈ x.lines, l.name.size ≤ maxLen) := by
  obtain ⟨y0, y1, m, _, _, h0, h1⟩ := trod_struct2 Tryz.underlying134 h
  obtain ⟨c0, c1, rfl⟩ := list2 hl
  obtain ⟨a0, e0, _, hs⟩ := DataW.trod_string (by kernel_rfl) h0
  have q0 : [c0] = [Value.string a0] := e0
  injection q0 with q0 _
  subst q0
  have h1' : DataW.trod enc Tryz.prog W 0 spare true m 132 [c1] = some y1 := h1
  obtain ⟨ls, ⟨A, c, rfl, hlc, hcm, hsl⟩, hls⟩ := slice_open kLine (fun l => l.name.size ≤ maxLen) Tryz.underlying132 (by kernel_rfl) one_line h1'
  exact ⟨⟨a0, ls⟩, ⟨⟨trivial, by simpa [Addr.add] using hc 0 (by omega)⟩, A, c, ⟨trivial, hc 1 (by omega)⟩, hlc, hcm, hsl⟩, hs, hls⟩
set_option maxRecDepth 100000 in
theorem world_open {r : Reach} {b0 : Nat} {v : Value} {d : DataW H} {p : List MemPlace} (hv : Value.okWide Tryz.prog W r b0 43 v) (h : DataW.Trod enc Tryz.prog W 0 spare true 43 v d p) :
    ∃ vR vM vF D, v = .agg #[vR, vM, vF] ∧ WIn W (fun _ => True) vR vM vF D ∧ WMax D := by
  obtain ⟨v0, v1, v2, y0, y1, y2, n, rfl, _, _, h0, h1, h2⟩ := open_agg3 Tryz.underlying43 (by kernel_rfl) (by kernel_rfl) hv h
  obtain ⟨rs, hR, hr⟩ := slice_open kStr (fun s => s.size ≤ maxLen) (t := 23) Tryz.underlying23 (by kernel_rfl) one_str h0
  obtain ⟨ms, hM, hm⟩ := slice_open kMod (fun x => x.name.size ≤ maxLen ∧ ∀ l ∈ x.lines, l.name.size ≤ maxLen) (t := 41) Tryz.underlying41 (by kernel_rfl) one_mod h1
  obtain ⟨fs, hF, _⟩ := slice_open kInt (fun _ => True) (t := 25) Tryz.underlying25 (by kernel_rfl) one_int h2
  exact ⟨v0, v1, v2, ⟨rs, ms, fs⟩, rfl, ⟨hR, hM, hF⟩, ⟨hr, hm⟩⟩
end
end Go.Proofs.YtkhlicmlnjccdaaGreatDoor

namespace Go.Proofs.YtkhlicmlnjccdaaGreatDoor
open Go.ChangeShapes Go.WideShapes Go.ChangeAt Go.RowKit Go.Deep Go.Joins Mem
section
variable {H : Type} {enc : TypeId × Value → H} {W : World} {spare : Nat → Bool}
set_option maxRecDepth 100000 in
theorem one_lineN {n : Nat} {cs' : List Value} {y : DataW H × List MemPlace} {a : Addr} (hc : ∀ i, i < 4 → W.cell? (a.add i) = cs'[i]?) (hl : cs'.length = 4) (h : DataW.trod enc Tryz.prog W 0 spare true n 176 cs' = some y) : ∃ x, kLine.at_ W (fun _ => True) a x ∧ (x.name.size ≤ maxLen ∧ Ans.In64 x.num) := by
  obtain ⟨y0, y1, y2, y3, m, _, _, h0, h1, h2, h3⟩ := trod_struct4 Tryz.underlying176 h
  obtain ⟨c0, c1, c2, c3, rfl⟩ := list4 hl
  obtain ⟨a0, e0, _, _⟩ := DataW.trod_int (k := .i64) (by kernel_rfl) h0
  obtain ⟨a1, e1, _, hs⟩ := DataW.trod_string (by kernel_rfl) h1
  obtain ⟨a2, e2, _, w2⟩ := DataW.trod_int (k := .i64) (by kernel_rfl) h2
  obtain ⟨a3, e3, _, _⟩ := DataW.trod_int (k := .i64) (by kernel_rfl) h3
  have q0 : [c0] = [Value.int .i64 a0] := e0
  have q1 : [c1] = [Value.string a1] := e1
  have q2 : [c2] = [Value.int .i64 a2] := e2
  have q3 : [c3] = [Value.int .i64 a3] := e3
  injection q0 with q0 _
  injection q1 with q1 _
  injection q2 with q2 _
  injection q3 with q3 _
  subst q0 q1 q2 q3
  exact ⟨⟨a0, a1, a2, a3⟩, ⟨⟨trivial, by simpa [Addr.add] using hc 0 (by omega)⟩, ⟨trivial, hc 1 (by omega)⟩, ⟨trivial, hc 2 (by omega)⟩, ⟨trivial, hc 3 (by omega)⟩⟩, hs, bounds_i64 w2⟩
set_option maxRecDepth 100000 in
theorem one_modN {n : Nat} {cs' : List Value} {y : DataW H × List MemPlace} {a : Addr} (hc : ∀ i, i < 2 → W.cell? (a.add i) = cs'[i]?) (hl : cs'.length = 2) (h : DataW.trod enc Tryz.prog W 0 spare true n 134 cs' = some y) : ∃ x, kMod.at_ W (fun _ => True) a x ∧ (x.name.size ≤ maxLen ∧ ∀ l ∈ x.lines, l.name.size ≤ maxLen ∧ Ans.In64 l.num) := by
  obtain ⟨y0, y1, m, _, _, h0, h1⟩ := trod_struct2 Tryz.underlying134 h
  obtain ⟨c0, c1, rfl⟩ := list2 hl
  obtain ⟨a0, e0, _, hs⟩ := DataW.trod_string (by kernel_rfl) h0
  have q0 : [c0] = [Value.string a0] := e0
  injection q0 with q0 _
  subst q0
  have h1' : DataW.trod enc Tryz.prog W 0 spare true m 132 [c1] = some y1 := h1
  obtain ⟨ls, ⟨A, c, rfl, hlc, hcm, hsl⟩, hls⟩ := slice_open kLine (fun l => l.name.size ≤ maxLen ∧ Ans.In64 l.num) Tryz.underlying132 (by kernel_rfl) one_lineN h1'
  exact ⟨⟨a0, ls⟩, ⟨⟨trivial, by simpa [Addr.add] using hc 0 (by omega)⟩, A, c, ⟨trivial, hc 1 (by omega)⟩, hlc, hcm, hsl⟩, hs, hls⟩
set_option maxRecDepth 100000 in
theorem world_openN {r : Reach} {b0 : Nat} {v : Value} {d : DataW H} {p : List MemPlace} (hv : Value.okWide Tryz.prog W r b0 43 v) (h : DataW.Trod enc Tryz.prog W 0 spare true 43 v d p) :
    ∃ vR vM vF D, v = .agg #[vR, vM, vF] ∧ WIn W (fun _ => True) vR vM vF D ∧ WMax D ∧ ∀ m ∈ D.mods, ∀ l ∈ m.lines, Ans.In64 l.num := by
  obtain ⟨v0, v1, v2, y0, y1, y2, n, rfl, _, _, h0, h1, h2⟩ := open_agg3 Tryz.underlying43 (by kernel_rfl) (by kernel_rfl) hv h
  obtain ⟨rs, hR, hr⟩ := slice_open kStr (fun s => s.size ≤ maxLen) (t := 23) Tryz.underlying23 (by kernel_rfl) one_str h0
  obtain ⟨ms, hM, hm⟩ := slice_open kMod (fun x => x.name.size ≤ maxLen ∧ ∀ l ∈ x.lines, l.name.size ≤ maxLen ∧ Ans.In64 l.num) (t := 41) Tryz.underlying41 (by kernel_rfl) one_modN h1
  obtain ⟨fs, hF, _⟩ := slice_open kInt (fun _ => True) (t := 25) Tryz.underlying25 (by kernel_rfl) one_int h2
  exact ⟨v0, v1, v2, ⟨rs, ms, fs⟩, rfl, ⟨hR, hM, hF⟩, ⟨hr, fun m hx => ⟨(hm m hx).1, fun l hl => ((hm m hx).2 l hl).1⟩⟩, fun m hx l hl => ((hm m hx).2 l hl).2⟩
end
end Go.Proofs.YtkhlicmlnjccdaaGreatDoor
