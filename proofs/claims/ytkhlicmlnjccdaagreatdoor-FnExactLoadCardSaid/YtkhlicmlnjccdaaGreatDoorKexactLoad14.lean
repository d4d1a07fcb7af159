/-
  Plain loading: how large a report is. No program in sight.
-/
import Derived.Test.YtkhlicmlnjccdaaGreatDoorKexactLoad13
namespace Go.Proofs.YtkhlicmlnjccdaaGreatDoor
namespace Ld
/-- rings are short; the stack is st -/
structure Rk (st : List Str) (s : St) : Prop where
  stack : s.stack = st
  len : st.length ≤ 40
  rings : ∀ x ∈ s.rings, x.length ≤ 40
theorem Rk.of {st : List Str} {s s' : St} (h : Rk st s) (h1 : s'.stack = s.stack) (h2 : s'.rings = s.rings) : Rk st s' := ⟨h1.trans h.stack, h.len, fun x hx => h.rings x (h2 ▸ hx)⟩
theorem Rk.ring {st : List Str} {s : St} (h : Rk st s) (n : Str) : Rk st (s.ring n) := ⟨h.stack, h.len, fun x hx => by
  rcases List.mem_append.1 hx with hx | hx
  · exact h.rings x hx
  · obtain rfl : x = s.stack.dropWhile fun x => decide (x ≠ n) := by simpa using hx
    have h1 := (List.dropWhile_sublist (l := s.stack) (fun x => decide (x ≠ n))).length_le
    rw [h.stack] at h1 ⊢
    exact Nat.le_trans h1 h.len⟩
theorem look_rk (D : WorldD) {st : List Str} : ∀ (ts : List Str) (s : St), Rk st s → Rk st (look D ts s).2.2
  | [], s, h => h
  | n :: r, s, h => by
    have hn : ∀ x : RecD, Rk st (s.read.note x) := fun x => h.of rfl rfl
    unfold look
    split
    · exact h
    · split
      · exact h
      · split
        · exact hn _
        · split
          · exact hn _
          · exact look_rk D r _ (hn _)
theorem find_rk (D : WorldD) {st : List Str} (frm name : Str) (s : St) (h : Rk st s) : Rk st (find D frm name s).2.2 := by
  unfold find
  split
  · exact h
  · exact look_rk D _ s h
def GetRk (st : List Str) (get : Get) : Prop := ∀ frm name s, Rk st s → Rk st (get frm name s).2.2
theorem line_rk {D : WorldD} {st : List Str} {get : Get} (hg : GetRk st get) (k : Nat) (me : Str) (l : LineD) {s : St} (h : Rk st s) : Rk st (line get D k me l s).2.2 := by
  unfold line
  have hx := hg me l.name s h
  split
  · exact h.of rfl rfl
  · split
    · exact h.of rfl rfl
    · split
      · exact hx
      · split
        · show Rk st (if _ then _ else _)
          split
          · exact hx.of rfl rfl
          · exact hx
        · split
          · split
            · exact h.of rfl rfl
            · exact h
          · split
            · exact h.of rfl rfl
            · split <;> exact h
theorem lines_rk {D : WorldD} {st : List Str} {get : Get} (hg : GetRk st get) (k : Nat) (me : Str) (ls : List LineD) : ∀ (f i : Nat) (s : St), Rk st s → Rk st (lines get D k me ls f i s).2
  | 0, i, s, h => h
  | f + 1, i, s, h => by
    unfold lines
    split
    · exact h
    · rename_i l hl
      have h1 := line_rk (D := D) hg k me l h
      split
      · exact h1
      · exact lines_rk hg k me ls f _ _ h1
theorem body_rk {D : WorldD} {st : List Str} {get : Get} {n : Str} {s : St} (h : Rk st s) (hl : st.length < 40) (hg : GetRk (st ++ [n]) get) : Rk st (body get D n s).2 := by
  have hb : Rk (st ++ [n]) (s.begin n) := ⟨by show s.stack ++ [n] = _; rw [h.stack], by simp; omega, h.rings⟩
  have h2 := lines_rk (D := D) hg s.states.length n (linesOf D n) (linesOf D n).length 0 _ hb
  show Rk st (fin _ _ _ _)
  unfold fin
  split
  · exact ⟨by show (St.stack _).dropLast = st; rw [h2.stack, List.dropLast_concat], h.len, h2.rings⟩
  · exact ⟨by show (St.stack _).dropLast = st; rw [h2.stack, List.dropLast_concat], h.len, h2.rings⟩
theorem get_rk (D : WorldD) : ∀ (f : Nat) (st : List Str), f + st.length = 40 → GetRk st (get D f)
  | 0, st, hf => fun frm name s h => by
    have f1 := find_rk D frm name s h
    unfold get
    split
    · exact f1
    · show Rk st (deep _ _).2
      unfold deep
      split
      · split
        · exact f1.ring _
        · split <;> exact f1
      · exact f1
  | f + 1, st, hf => fun frm name s h => by
    have f1 := find_rk D frm name s h
    unfold get
    split
    · exact f1
    · show Rk st (enter _ _ _ _).2
      unfold enter
      split
      · split
        · exact f1.ring _
        · split <;> exact f1
      · exact body_rk f1 (by omega) (get_rk D f _ (by rw [List.length_append, List.length_singleton]; omega))
/-- a report's size -/
theorem load_small (D : WorldD) (name : Str) (hm : (Wd.worldOk D).1 = 0 → D.mods.length ≤ 60 ∧ ∀ m ∈ D.mods, m.lines.length ≤ 60) :
    (load D name).2.recs.length ≤ 9000 ∧ (load D name).2.states.length ≤ 60 ∧ (load D name).2.rings.length ≤ 9000 ∧ ∀ x ∈ (load D name).2.rings, x.length ≤ 40 := by
  unfold load
  split
  · exact ⟨by simp [St.start], by simp [St.start], by simp [St.start], by simp [St.start]⟩
  · rename_i h0
    obtain ⟨h1, h2⟩ := hm (Classical.not_not.1 h0)
    have hg := (get_ok h2 40 [] rfl mainName name St.start 0 (start_good D h1) rfl).good
    have hr := get_rk D 40 [] rfl mainName name St.start ⟨rfl, by simp, by simp [St.start]⟩
    have := hg.room
    have := hg.len
    exact ⟨by show (get D 40 mainName name St.start).2.2.recs.length ≤ _; omega, by show (get D 40 mainName name St.start).2.2.states.length ≤ _; omega, by show (get D 40 mainName name St.start).2.2.rings.length ≤ _; omega, hr.rings⟩
end Ld
end Go.Proofs.YtkhlicmlnjccdaaGreatDoor
