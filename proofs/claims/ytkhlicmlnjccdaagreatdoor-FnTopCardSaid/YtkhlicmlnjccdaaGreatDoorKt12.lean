/-
  Plain words on the drawn world: what the choices make. No program in sight.
-/
import Derived.Test.YtkhlicmlnjccdaaGreatDoorKt11
import Derived.Test.YtkhlicmlnjccdaaGreatDoorKt5
namespace Go.Proofs.YtkhlicmlnjccdaaGreatDoor
namespace DP
abbrev E0 : Str := ⟨#[]⟩
def modsL : Nat → Cur → List Str → List ModD → Cur × List Str × List ModD
  | 0, c, ns, ms => (c, ns, ms)
  | k + 1, c, ns, ms => match Ld.modAt ms c.name.1 with
    | some _ => modsL k c.name.2 ns ms
    | none => modsL k c.name.2 (ns ++ [c.name.1]) (ms ++ [⟨c.name.1, []⟩])
def rootsL : Nat → Cur → List Str → Cur × List Str
  | 0, c, rs => (c, rs)
  | k + 1, c, rs => rootsL k c.part.2 (rs ++ [c.part.1])
def oneOf : Nat → Cur → List Str → Cur × Int × Str × Int
  | 0, c, _ => ((c.pick 9).2, 1, E0, (c.pick 9).1)
  | 1, c, _ => ((c.pick 9).2, 1, E0, (c.pick 9).1)
  | 2, c, _ => ((c.pick 99).2, 2, E0, (c.pick 99).1)
  | 3, c, ns => ((c.ask ns).2, 3, (c.ask ns).1, 0)
  | 4, c, ns => ((c.ask ns).2, 3, (c.ask ns).1, 0)
  | 5, c, ns => ((c.ask ns).2, 3, (c.ask ns).1, 0)
  | 6, c, ns => ((c.ask ns).2, 3, (c.ask ns).1, 0)
  | 7, c, ns => ((c.ask ns).2, 4, (c.ask ns).1, 0)
  | 8, c, ns => ((c.ask ns).2, 4, (c.ask ns).1, 0)
  | 9, c, ns => ((c.ask ns).2, 5, (c.ask ns).1, 0)
  | 10, c, ns => ((c.ask ns).2, 7, (c.ask ns).1, 0)
  | _, c, _ => if (c.pick 2).1 = 0 then (((c.pick 2).2.pick 9).2, 6, E0, ((c.pick 2).2.pick 9).1) else ((c.pick 2).2, 1, E0, 5)
def one (c : Cur) (ns : List Str) : Cur × Int × Str × Int := oneOf (c.pick 12).1 (c.pick 12).2 ns
def lineOf (p : Cur × Int × Str × Int) : LineD := ⟨p.2.1, p.2.2.1, p.2.2.2, 0⟩
def linesL : Nat → List Str → Cur → List LineD → Cur × List LineD
  | 0, _, c, ls => (c, ls)
  | k + 1, ns, c, ls => linesL k ns (one c ns).1 (ls ++ [lineOf (one c ns)])
def skipsL : Nat → Nat → Cur → List LineD → Cur × List LineD
  | 0, _, c, ls => (c, ls)
  | r + 1, j, c, ls => match ls[j]? with
    | none => (c, ls)
    | some l => if l.op = 7 then skipsL r (j + 1) (c.pick (r + 1)).2 (ls.set j ⟨7, l.name, l.num, (c.pick (r + 1)).1⟩) else skipsL r (j + 1) c ls
def fin (p : Cur × List LineD) : Cur × List LineD := skipsL p.2.length 0 p.1 p.2
def bodiesL : Nat → Nat → List Str → Cur → List ModD → Cur × List ModD
  | 0, _, _, c, ms => (c, ms)
  | r + 1, i, ns, c, ms => match ms[i]? with
    | none => (c, ms)
    | some m => bodiesL r (i + 1) ns (fin (linesL (c.pick 6).1 ns (c.pick 6).2 m.lines)).1 (ms.set i ⟨m.name, (fin (linesL (c.pick 6).1 ns (c.pick 6).2 m.lines)).2⟩)
def bodyK (r i1 : Nat) (ns : List Str) (i : Nat) (nm : Str) (ms : List ModD) (p : Cur × List LineD) : Cur × List ModD := bodiesL r i1 ns p.1 (ms.set i ⟨nm, p.2⟩)
def faultsL : Nat → Int → Cur → List Int → Cur × List Int
  | 0, _, c, fs => (c, fs)
  | m + 1, q, c, fs => if (c.pick 2).1 = 0 then faultsL m (q + ((c.pick 2).2.pick 6).1 + 1) ((c.pick 2).2.pick 6).2 (fs ++ [q + ((c.pick 2).2.pick 6).1]) else ((c.pick 2).2, fs)
def W7 (roots : List Str) (ms : List ModD) (p : Cur × List Int) : Cur × WorldD := (p.1, ⟨roots, ms, p.2⟩)
def W6 (roots : List Str) (p : Cur × List ModD) : Cur × WorldD := W7 roots p.2 (faultsL (p.1.pick 3).1 0 (p.1.pick 3).2 [])
def W4 (ns : List Str) (ms : List ModD) (p : Cur × List Str) : Cur × WorldD := W6 (if (p.1.pick 10).1 = 0 then [] else p.2) (bodiesL ms.length 0 ns (p.1.pick 10).2 ms)
def W2 (p : Cur × List Str × List ModD) : Cur × WorldD := W4 p.2.1 p.2.2 (rootsL (p.1.pick 3).1 (p.1.pick 3).2 [E0])
def world (c : Cur) : Cur × WorldD := W2 (modsL (1 + (c.pick 7).1) (c.pick 7).2 [] [])
theorem mods_some {k : Nat} {c : Cur} {ns : List Str} {ms : List ModD} {i : Nat} (h : Ld.modAt ms c.name.1 = some i) : modsL (k + 1) c ns ms = modsL k c.name.2 ns ms := by
  show (match Ld.modAt ms c.name.1 with | some _ => _ | none => _) = _
  rw [h]
theorem mods_none {k : Nat} {c : Cur} {ns : List Str} {ms : List ModD} (h : Ld.modAt ms c.name.1 = none) : modsL (k + 1) c ns ms = modsL k c.name.2 (ns ++ [c.name.1]) (ms ++ [⟨c.name.1, []⟩]) := by
  show (match Ld.modAt ms c.name.1 with | some _ => _ | none => _) = _
  rw [h]
theorem skips_yes {r j : Nat} {c : Cur} {ls : List LineD} {n : Str} {m k : Int} (h : ls[j]? = some ⟨7, n, m, k⟩) : skipsL (r + 1) j c ls = skipsL r (j + 1) (c.pick (r + 1)).2 (ls.set j ⟨7, n, m, (c.pick (r + 1)).1⟩) := by
  show (match ls[j]? with | none => _ | some l => _) = _
  rw [h]; rfl
theorem skips_no {r j : Nat} {c : Cur} {ls : List LineD} {l : LineD} (h : ls[j]? = some l) (h7 : l.op ≠ 7) : skipsL (r + 1) j c ls = skipsL r (j + 1) c ls := by
  show (match ls[j]? with | none => _ | some l => _) = _
  rw [h]
  exact if_neg h7
theorem bodies_at {r i : Nat} {ns : List Str} {c : Cur} {ms : List ModD} {nm : Str} {ls : List LineD} (h : ms[i]? = some ⟨nm, ls⟩) : bodiesL (r + 1) i ns c ms = bodyK r (i + 1) ns i nm ms (fin (linesL (c.pick 6).1 ns (c.pick 6).2 ls)) := by
  show (match ms[i]? with | none => _ | some m => _) = _
  rw [h]; rfl
theorem body_set {r i1 : Nat} {ns : List Str} {i : Nat} {nm : Str} {ms : List ModD} {p : Cur × List LineD} {x : ModD} : bodyK r i1 ns i nm (ms.set i x) p = bodyK r i1 ns i nm ms p := by
  unfold bodyK
  rw [List.set_set]
theorem body_end {r i1 : Nat} {ns : List Str} {i : Nat} {nm : Str} {ms : List ModD} {c : Cur} {ls : List LineD} (h : ms[i]? = some ⟨nm, ls⟩) : bodyK r i1 ns i nm ms (c, ls) = bodiesL r i1 ns c ms := by
  unfold bodyK
  have : ms.set i ⟨nm, ls⟩ = ms := by
    apply List.ext_getElem?
    intro j
    by_cases hj : i = j
    · subst hj
      rw [List.getElem?_set_self (List.getElem?_eq_some_iff.1 h).1, h]
    · rw [List.getElem?_set_ne hj]
  rw [this]
theorem faults_yes {m : Nat} {q : Int} {c : Cur} {fs : List Int} (h : (c.pick 2).1 = 0) : faultsL (m + 1) q c fs = faultsL m (q + ((c.pick 2).2.pick 6).1 + 1) ((c.pick 2).2.pick 6).2 (fs ++ [q + ((c.pick 2).2.pick 6).1]) := if_pos h
theorem faults_no {m : Nat} {q : Int} {c : Cur} {fs : List Int} (h : (c.pick 2).1 ≠ 0) : faultsL (m + 1) q c fs = ((c.pick 2).2, fs) := if_neg h
/-- the name that is asked for -/
def mainOf (c : Cur) (D : WorldD) : Cur × Str :=
  match D.mods with
  | [] => ((c.ask []).2, (c.ask []).1)
  | m :: r => if (c.pick 3).1 = 0 then ((c.pick 3).2, m.name) else
    if 0 < ((c.pick 3).2.pick 6).1 then
      ((((c.pick 3).2.pick 6).2.pick (r.length + 1)).2, match (m :: r)[(((c.pick 3).2.pick 6).2.pick (r.length + 1)).1]? with | some x => x.name | none => E0)
    else ((((c.pick 3).2.pick 6).2.ask []).2, (((c.pick 3).2.pick 6).2.ask []).1)
def drawn (code : List Int) : WorldD × Str := ((world ⟨code, 0, 0⟩).2, (mainOf (world ⟨code, 0, 0⟩).1 (world ⟨code, 0, 0⟩).2).2)
end DP
end Go.Proofs.YtkhlicmlnjccdaaGreatDoor
