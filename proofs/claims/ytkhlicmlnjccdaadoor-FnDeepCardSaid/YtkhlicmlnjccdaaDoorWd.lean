/-
  Plain words on worlds: when one is one, where a module lies; no program in sight.
-/
import Derived.Test.YtkhlicmlnjccdaaDoorWith
namespace Go.Proofs.YtkhlicmlnjccdaaDoor
namespace Wd
/-- the first place below n at which p holds -/
def first (p : Nat → Bool) : Nat → Option Nat
  | 0 => none
  | n + 1 => match first p n with
    | some i => some i
    | none => if p n = true then some n else none
theorem first_none {p : Nat → Bool} : ∀ {n : Nat}, (∀ j, j < n → p j = false) → first p n = none
  | 0, _ => rfl
  | n + 1, h => by
    unfold first
    rw [first_none (fun j hj => h j (by omega))]
    simp [h n (by omega)]
theorem first_some {p : Nat → Bool} {i : Nat} (h : ∀ j, j < i → p j = false) (hp : p i = true) : ∀ {n : Nat}, i < n → first p n = some i
  | 0, hn => by omega
  | n + 1, hn => by
    unfold first
    rcases Nat.lt_or_ge i n with h1 | h1
    · rw [first_some h hp h1]
    · obtain rfl : i = n := by omega
      rw [first_none h]; simp [hp]
theorem first_none_inv {p : Nat → Bool} : ∀ {n : Nat}, first p n = none → ∀ j, j < n → p j = false
  | 0, _, j, hj => by omega
  | n + 1, h, j, hj => by
    unfold first at h
    cases hf : first p n with
    | some i => rw [hf] at h; simp at h
    | none =>
      rw [hf] at h
      rcases Nat.lt_or_ge j n with h1 | h1
      · exact first_none_inv hf j h1
      · obtain rfl : j = n := by omega
        cases hp : p j
        · rfl
        · rw [hp] at h; simp at h

def lineOk (l : LineD) (behind : Int) : Bool :=
  if l.op = 1 ∨ l.op = 2 ∨ l.op = 6 then decide (l.name = ⟨#[]⟩) && decide (l.skip = 0)
  else if l.op = 3 ∨ l.op = 4 ∨ l.op = 5 then decide (l.name.size ≤ 120) && decide (l.num = 0) && decide (l.skip = 0)
  else if l.op = 7 then decide (l.name.size ≤ 120) && decide (l.num = 0) && decide (0 ≤ l.skip) && decide (l.skip ≤ behind)
  else false
def badRoot (roots : List Str) (i : Nat) : Bool :=
  match roots[i]? with
  | none => false
  | some r => decide (r ≠ ⟨#[]⟩) && !(decide ((Nm.clean r).1 = 0) && decide ((Nm.clean r).2 = r))
def badFault (faults : List Int) (i : Nat) : Bool :=
  match faults[i]? with
  | none => false
  | some f => decide (f < 0) || decide (400 ≤ f) || (decide (0 < i) && match faults[i - 1]? with
    | none => false
    | some e => decide (f ≤ e))
/-- the name stands among those ahead of i -/
def metMod (mods : List ModD) (i : Nat) (name : Str) : Bool := (mods.take i).any fun m => decide (m.name = name)
def badMod (mods : List ModD) (i : Nat) : Bool :=
  match mods[i]? with
  | none => false
  | some m => !(decide ((Nm.clean m.name).1 = 0) && decide ((Nm.clean m.name).2 = m.name)) || metMod mods i m.name || decide (60 < m.lines.length)
def badLineAt (m : ModD) (k : Nat) : Bool :=
  match m.lines[k]? with
  | none => false
  | some l => !lineOk l ((m.lines.length : Int) - k - 1)
def badLineOf (mods : List ModD) (i : Nat) : Option Nat :=
  match mods[i]? with
  | none => none
  | some m => first (badLineAt m) m.lines.length
def wrongLine (mods : List ModD) : Int × Int × Int :=
  match first (fun i => (badLineOf mods i).isSome) mods.length with
  | none => (0, 0, 0)
  | some i => (5, i, ((badLineOf mods i).getD 0 : Nat))
def worldOk (D : WorldD) : Int × Int × Int :=
  if 60 < D.mods.length ∨ 8 < D.roots.length ∨ 400 < D.faults.length then (1, 0, 0) else
  if (first (badRoot D.roots) D.roots.length).isSome = true then (2, 0, 0) else
  if (first (badFault D.faults) D.faults.length).isSome = true then (3, 0, 0) else
  match first (badMod D.mods) D.mods.length with
  | some i => (4, i, 0)
  | none => wrongLine D.mods
theorem worldOk_one {D : WorldD} (h : 60 < D.mods.length ∨ 8 < D.roots.length ∨ 400 < D.faults.length) : worldOk D = (1, 0, 0) := by unfold worldOk; rw [if_pos h]
theorem worldOk_two {D : WorldD} (h : ¬ (60 < D.mods.length ∨ 8 < D.roots.length ∨ 400 < D.faults.length)) {i : Nat} (hi : i < D.roots.length) (h1 : ∀ j, j < i → badRoot D.roots j = false) (h2 : badRoot D.roots i = true) : worldOk D = (2, 0, 0) := by
  unfold worldOk; rw [if_neg h, first_some h1 h2 hi]; exact if_pos rfl
theorem worldOk_three {D : WorldD} (h : ¬ (60 < D.mods.length ∨ 8 < D.roots.length ∨ 400 < D.faults.length)) (hr : ∀ j, j < D.roots.length → badRoot D.roots j = false) {i : Nat} (hi : i < D.faults.length) (h1 : ∀ j, j < i → badFault D.faults j = false) (h2 : badFault D.faults i = true) : worldOk D = (3, 0, 0) := by
  unfold worldOk; rw [if_neg h, first_none hr, if_neg (by simp), first_some h1 h2 hi]; exact if_pos rfl
theorem worldOk_rest {D : WorldD} (h : ¬ (60 < D.mods.length ∨ 8 < D.roots.length ∨ 400 < D.faults.length)) (hr : ∀ j, j < D.roots.length → badRoot D.roots j = false) (hf : ∀ j, j < D.faults.length → badFault D.faults j = false) :
    worldOk D = match first (badMod D.mods) D.mods.length with
      | some i => (4, i, 0)
      | none => wrongLine D.mods := by
  unfold worldOk; rw [if_neg h, first_none hr, if_neg (by simp), first_none hf, if_neg (by simp)]
theorem worldOk_four {D : WorldD} (h : ¬ (60 < D.mods.length ∨ 8 < D.roots.length ∨ 400 < D.faults.length)) (hr : ∀ j, j < D.roots.length → badRoot D.roots j = false) (hf : ∀ j, j < D.faults.length → badFault D.faults j = false) {i : Nat} (hi : i < D.mods.length) (h1 : ∀ j, j < i → badMod D.mods j = false) (h2 : badMod D.mods i = true) : worldOk D = (4, (i : Int), 0) := by
  rw [worldOk_rest h hr hf, first_some h1 h2 hi]
theorem worldOk_five {D : WorldD} (h : ¬ (60 < D.mods.length ∨ 8 < D.roots.length ∨ 400 < D.faults.length)) (hr : ∀ j, j < D.roots.length → badRoot D.roots j = false) (hf : ∀ j, j < D.faults.length → badFault D.faults j = false) (hm : ∀ j, j < D.mods.length → badMod D.mods j = false)
    {i k : Nat} {m : ModD} (hi : D.mods[i]? = some m) (h1 : ∀ j, j < i → badLineOf D.mods j = none) (hk : k < m.lines.length) (h2 : ∀ j, j < k → badLineAt m j = false) (h3 : badLineAt m k = true) : worldOk D = (5, (i : Int), (k : Int)) := by
  have hb : badLineOf D.mods i = some k := by unfold badLineOf; rw [hi]; exact first_some h2 h3 hk
  have hil : i < D.mods.length := by
    rcases Nat.lt_or_ge i D.mods.length with h | h
    · exact h
    · rw [List.getElem?_eq_none h] at hi; simp at hi
  rw [worldOk_rest h hr hf, first_none hm]
  unfold wrongLine
  rw [first_some (p := fun i => (badLineOf D.mods i).isSome) (fun j hj => by rw [h1 j hj]; rfl) (by rw [hb]; rfl) hil]
  show (5, (i : Int), (((badLineOf D.mods i).getD 0 : Nat) : Int)) = _
  rw [hb]; rfl
theorem worldOk_zero {D : WorldD} (h : ¬ (60 < D.mods.length ∨ 8 < D.roots.length ∨ 400 < D.faults.length)) (hr : ∀ j, j < D.roots.length → badRoot D.roots j = false) (hf : ∀ j, j < D.faults.length → badFault D.faults j = false) (hm : ∀ j, j < D.mods.length → badMod D.mods j = false)
    (hl : ∀ j, j < D.mods.length → badLineOf D.mods j = none) : worldOk D = (0, 0, 0) := by
  rw [worldOk_rest h hr hf, first_none hm]
  unfold wrongLine
  rw [first_none (fun j hj => by rw [hl j hj]; rfl)]
theorem metMod_snoc (mods : List ModD) (i : Nat) (m : ModD) (hi : mods[i]? = some m) (name : Str) : metMod mods (i + 1) name = (metMod mods i name || decide (m.name = name)) := by
  have hil : i < mods.length := by
    rcases Nat.lt_or_ge i mods.length with h | h
    · exact h
    · rw [List.getElem?_eq_none h] at hi; simp at hi
  have : mods[i] = m := by rw [List.getElem?_eq_getElem hil] at hi; exact Option.some.inj hi
  unfold metMod
  rw [List.take_succ_eq_append_getElem hil, this]; simp
end Wd
end Go.Proofs.YtkhlicmlnjccdaaDoor
