/-
  Plain loading: what a loading of a world does, by plain functions; no program in sight.
-/
import Derived.Test.YtkhlicmlnjccdaaDoorWd
import Derived.Test.YtkhlicmlnjccdaaDoorNmx
import Derived.Test.YtkhlicmlnjccdaaDoorWd2
namespace Go.Proofs.YtkhlicmlnjccdaaDoor
namespace Ld
/-- what a loading has in hand -/
structure St where
  recs : List RecD
  states : List StateD
  reads : Nat
  rings : List (List Str)
  stack : List Str
  thrown : Int
def St.start : St := ⟨[], [], 0, [], [], 0⟩
def stAt (l : List StateD) (n : Str) : Option Nat := l.findIdx? fun s => decide (s.name = n)
def modAt (l : List ModD) (n : Str) : Option Nat := l.findIdx? fun m => decide (m.name = n)
def St.note (s : St) (r : RecD) : St := { s with recs := s.recs ++ [r] }
def St.read (s : St) : St := { s with reads := s.reads + 1 }
/-- through the tries: the name, the code -/
def look (D : WorldD) : List Str → St → Str × Int × St
  | [], s => (⟨#[]⟩, 2, s)
  | n :: r, s =>
    if (stAt s.states n).isSome = true then (n, 0, s) else
    if s.reads = 400 then (⟨#[]⟩, 3, s) else
    if (s.reads : Int) ∈ D.faults then (n, 3, s.read.note ⟨1, n, 3, 0⟩) else
    if (modAt D.mods n).isSome = true then (n, 0, s.read.note ⟨1, n, 0, 0⟩) else
    look D r (s.read.note ⟨1, n, 2, 0⟩)
def find (D : WorldD) (frm name : Str) (s : St) : Str × Int × St :=
  if Nm.tries D.roots frm name = [] then (⟨#[]⟩, 1, s) else look D (Nm.tries D.roots frm name) s
/-- the first of the tries that is loaded -/
def knownOf (states : List StateD) : List Str → Option (Str × Nat)
  | [] => none
  | n :: r => match stAt states n with
    | some i => if (states[i]?).any (fun t => decide (t.now = 2)) = true then some (n, i) else knownOf states r
    | none => knownOf states r
def knownIn (states : List StateD) (ts : List Str) : Option (Str × Nat) × Int :=
  if ts = [] then (none, 1) else
    match knownOf states ts with
    | some x => (some x, 0)
    | none => (none, 2)
def known (D : WorldD) (frm name : Str) (s : St) : Option (Str × Nat) × Int := knownIn s.states (Nm.tries D.roots frm name)
theorem knownIn_nil (states : List StateD) : knownIn states [] = (none, 1) := rfl
theorem knownIn_some {states : List StateD} {ts : List Str} {x : Str × Nat} (h : ts ≠ []) (hk : knownOf states ts = some x) : knownIn states ts = (some x, 0) := by unfold knownIn; rw [if_neg h, hk]
theorem knownIn_none {states : List StateD} {ts : List Str} (h : ts ≠ []) (hk : knownOf states ts = none) : knownIn states ts = (none, 2) := by unfold knownIn; rw [if_neg h, hk]
def St.put (s : St) (k : Nat) (t : StateD) : St := { s with states := s.states.set k t }
def giveAt (l : List StateD) (k : Nat) : Int := match l[k]? with
  | some t => t.give
  | none => 0
def St.give (s : St) (k : Nat) (me : Str) (g : Int) : St := s.put k ⟨me, 1, g, 0⟩
abbrev Get := Str → Str → St → Str × Int × St
/-- one line: the code, how many lines are left out behind it -/
def line (get : Get) (D : WorldD) (k : Nat) (me : Str) (l : LineD) (s : St) : Int × Nat × St :=
  if l.op = 1 then (0, 0, s.note ⟨3, me, 0, l.num⟩) else
  if l.op = 2 then (0, 0, s.give k me l.num) else
  if l.op = 3 then ((get me l.name s).2.1, 0, (get me l.name s).2.2) else
  if l.op = 4 then (0, 0, if (get me l.name s).2.1 ≠ 0 then (get me l.name s).2.2.note ⟨6, (get me l.name s).1, (get me l.name s).2.1, 0⟩ else (get me l.name s).2.2) else
  if l.op = 5 then (match (known D me l.name s).1 with
    | some x => (0, 0, s.note ⟨3, me, 0, giveAt s.states x.2⟩)
    | none => ((known D me l.name s).2, 0, s)) else
  if l.op = 6 then (6, 0, { s with thrown := l.num }) else
  if l.op = 7 then (0, (if (known D me l.name s).1.isSome = true then 0 else l.skip.toNat), s) else (0, 0, s)
/-- the lines from place i on; fuel as many as there are at the most -/
def lines (get : Get) (D : WorldD) (k : Nat) (me : Str) (ls : List LineD) : Nat → Nat → St → Int × St
  | 0, _, s => (0, s)
  | f + 1, i, s => match ls[i]? with
    | none => (0, s)
    | some l => if (line get D k me l s).1 ≠ 0 then ((line get D k me l s).1, (line get D k me l s).2.2) else lines get D k me ls f (i + 1 + (line get D k me l s).2.1) (line get D k me l s).2.2
def linesOf (D : WorldD) (n : Str) : List LineD := match modAt D.mods n with
  | none => []
  | some i => match D.mods[i]? with
    | none => []
    | some m => m.lines
def St.begin (s : St) (n : Str) : St := { s with states := s.states ++ [⟨n, 1, 0, 0⟩], stack := s.stack ++ [n], recs := s.recs ++ [⟨2, n, 0, 0⟩] }
def St.pop (s : St) : St := { s with stack := s.stack.dropLast }
/-- what a body's end does -/
def fin (k : Nat) (n : Str) (c : Int) (s : St) : St :=
  if c = 0 then (s.pop.put k ⟨n, 2, giveAt s.states k, 0⟩).note ⟨4, n, 0, giveAt s.states k⟩
  else (s.pop.put k ⟨n, 3, 0, c⟩).note ⟨5, n, c, if c = 6 then s.thrown else 0⟩
def body (get : Get) (D : WorldD) (n : Str) (s : St) : Int × St :=
  ((lines get D s.states.length n (linesOf D n) (linesOf D n).length 0 (s.begin n)).1,
    fin s.states.length n (lines get D s.states.length n (linesOf D n) (linesOf D n).length 0 (s.begin n)).1 (lines get D s.states.length n (linesOf D n) (linesOf D n).length 0 (s.begin n)).2)
def St.ring (s : St) (n : Str) : St := { s with rings := s.rings ++ [s.stack.dropWhile fun x => decide (x ≠ n)] }
/-- the module n was found: what becomes of the import -/
def enter (get : Get) (D : WorldD) (n : Str) (s : St) : Int × St :=
  match stAt s.states n with
  | some i =>
    if (s.states[i]?).any (fun t => decide (t.now = 1)) = true then (4, s.ring n) else
    if (s.states[i]?).any (fun t => decide (t.now = 3)) = true then (5, s) else (0, s)
  | none => body get D n s
def deep (s : St) (n : Str) : Int × St :=
  match stAt s.states n with
  | some i =>
    if (s.states[i]?).any (fun t => decide (t.now = 1)) = true then (4, s.ring n) else
    if (s.states[i]?).any (fun t => decide (t.now = 3)) = true then (5, s) else (0, s)
  | none => (7, s)
def get (D : WorldD) : Nat → Get
  | 0, frm, name, s => if (find D frm name s).2.1 ≠ 0 then find D frm name s else ((find D frm name s).1, deep (find D frm name s).2.2 (find D frm name s).1)
  | f + 1, frm, name, s => if (find D frm name s).2.1 ≠ 0 then find D frm name s else ((find D frm name s).1, enter (get D f) D (find D frm name s).1 (find D frm name s).2.2)
def mainName : Str := ⟨#[109, 97, 105, 110]⟩
/-- the report: code, recs, states, reads, rings -/
def load (D : WorldD) (name : Str) : Int × St :=
  if (Wd.worldOk D).1 ≠ 0 then (-1, St.start) else ((get D 40 mainName name St.start).2.1, (get D 40 mainName name St.start).2.2)
end Ld
end Go.Proofs.YtkhlicmlnjccdaaDoor
