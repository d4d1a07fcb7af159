/-
Plain loading: how large a report is. No program in sight.
Plain loading: what a report tells of the modules' ends: what failed gives nothing, what is loaded gives what its end told. No program in sight.
-/
import Derived.Test.YtkhlicmlnjccdaaDoorKd10
namespace Go.Proofs.YtkhlicmlnjccdaaDoor
namespace Ld
/-- rings are short; the stack is st -/
structure Rk (st : List Str) (s : St) : Prop where
  stack : s.stack = st
  len : st.length ≤ 40
  rings : ∀ x ∈ s.rings, x.length ≤ 40
theorem Rk.of {st : List Str} {s s' : St} (h : Rk st s) (h1 : s'.stack = s.stack) (h2 : s'.rings = s.rings) : Rk st s' := ⟨h1.trans h.stack, h.len, fun x hx => h.rings x (h2 ▸ hx)⟩
theorem Rk.ring {st : List Str} {s : St} (h : Rk st s) (n : Str) : Rk st (s.ring n) := ⟨h.stack, h.len, fun x hx => by
  rcases List.mem_append.1 hx with hx | hx
  · exact h.rings x hx
  · obtain rfl : x = s.stack.dropWhile fun x => decide (x ≠ n) := by simpa using hx
    have h1 := (List.dropWhile_sublist (l := s.stack) (fun x => decide (x ≠ n))).length_le
    rw [h.stack] at h1 ⊢
    exact Nat.le_trans h1 h.len⟩
theorem look_rk (D : WorldD) {st : List Str} : ∀ (ts : List Str) (s : St), Rk st s → Rk st (look D ts s).2.2
  | [], s, h => h
  | n :: r, s, h => by
    have hn : ∀ x : RecD, Rk st (s.read.note x) := fun x => h.of rfl rfl
    unfold look
    split
    · exact h
    · split
      · exact h
      · split
        · exact hn _
        · split
          · exact hn _
          · exact look_rk D r _ (hn _)
theorem find_rk (D : WorldD) {st : List Str} (frm name : Str) (s : St) (h : Rk st s) : Rk st (find D frm name s).2.2 := by
  unfold find
  split
  · exact h
  · exact look_rk D _ s h
def GetRk (st : List Str) (get : Get) : Prop := ∀ frm name s, Rk st s → Rk st (get frm name s).2.2
theorem line_rk {D : WorldD} {st : List Str} {get : Get} (hg : GetRk st get) (k : Nat) (me : Str) (l : LineD) {s : St} (h : Rk st s) : Rk st (line get D k me l s).2.2 := by
  unfold line
  have hx := hg me l.name s h
  split
  · exact h.of rfl rfl
  · split
    · exact h.of rfl rfl
    · split
      · exact hx
      · split
        · show Rk st (if _ then _ else _)
          split
          · exact hx.of rfl rfl
          · exact hx
        · split
          · split
            · exact h.of rfl rfl
            · exact h
          · split
            · exact h.of rfl rfl
            · split <;> exact h
theorem lines_rk {D : WorldD} {st : List Str} {get : Get} (hg : GetRk st get) (k : Nat) (me : Str) (ls : List LineD) : ∀ (f i : Nat) (s : St), Rk st s → Rk st (lines get D k me ls f i s).2
  | 0, i, s, h => h
  | f + 1, i, s, h => by
    unfold lines
    split
    · exact h
    · rename_i l hl
      have h1 := line_rk (D := D) hg k me l h
      split
      · exact h1
      · exact lines_rk hg k me ls f _ _ h1
theorem body_rk {D : WorldD} {st : List Str} {get : Get} {n : Str} {s : St} (h : Rk st s) (hl : st.length < 40) (hg : GetRk (st ++ [n]) get) : Rk st (body get D n s).2 := by
  have hb : Rk (st ++ [n]) (s.begin n) := ⟨by show s.stack ++ [n] = _; rw [h.stack], by simp; omega, h.rings⟩
  have h2 := lines_rk (D := D) hg s.states.length n (linesOf D n) (linesOf D n).length 0 _ hb
  show Rk st (fin _ _ _ _)
  unfold fin
  split
  · exact ⟨by show (St.stack _).dropLast = st; rw [h2.stack, List.dropLast_concat], h.len, h2.rings⟩
  · exact ⟨by show (St.stack _).dropLast = st; rw [h2.stack, List.dropLast_concat], h.len, h2.rings⟩
theorem get_rk (D : WorldD) : ∀ (f : Nat) (st : List Str), f + st.length = 40 → GetRk st (get D f)
  | 0, st, hf => fun frm name s h => by
    have f1 := find_rk D frm name s h
    unfold get
    split
    · exact f1
    · show Rk st (deep _ _).2
      unfold deep
      split
      · split
        · exact f1.ring _
        · split <;> exact f1
      · exact f1
  | f + 1, st, hf => fun frm name s h => by
    have f1 := find_rk D frm name s h
    unfold get
    split
    · exact f1
    · show Rk st (enter _ _ _ _).2
      unfold enter
      split
      · split
        · exact f1.ring _
        · split <;> exact f1
      · exact body_rk f1 (by omega) (get_rk D f _ (by rw [List.length_append, List.length_singleton]; omega))
/-- a report's size -/
theorem load_small (D : WorldD) (name : Str) (hm : (Wd.worldOk D).1 = 0 → D.mods.length ≤ 60 ∧ ∀ m ∈ D.mods, m.lines.length ≤ 60) :
    (load D name).2.recs.length ≤ 9000 ∧ (load D name).2.states.length ≤ 60 ∧ (load D name).2.rings.length ≤ 9000 ∧ ∀ x ∈ (load D name).2.rings, x.length ≤ 40 := by
  unfold load
  split
  · exact ⟨by simp [St.start], by simp [St.start], by simp [St.start], by simp [St.start]⟩
  · rename_i h0
    obtain ⟨h1, h2⟩ := hm (Classical.not_not.1 h0)
    have hg := (get_ok h2 40 [] rfl mainName name St.start 0 (start_good D h1) rfl).good
    have hr := get_rk D 40 [] rfl mainName name St.start ⟨rfl, by simp, by simp [St.start]⟩
    have := hg.room
    have := hg.len
    exact ⟨by show (get D 40 mainName name St.start).2.2.recs.length ≤ _; omega, by show (get D 40 mainName name St.start).2.2.states.length ≤ _; omega, by show (get D 40 mainName name St.start).2.2.rings.length ≤ _; omega, hr.rings⟩
end Ld
end Go.Proofs.YtkhlicmlnjccdaaDoor

namespace Go.Proofs.YtkhlicmlnjccdaaDoor
namespace Ld
structure Iv (s : St) : Prop where
  st : ∀ t ∈ s.states, t.now = 1 ∨ t.now = 2 ∨ (t.now = 3 ∧ t.give = 0 ∧ t.code ≠ 0)
  ends : ∀ x ∈ s.recs, x.kind = 4 → ∃ t ∈ s.states, t.name = x.name ∧ t.now = 2 ∧ t.give = x.num
theorem Iv.of {s s' : St} (h : Iv s) (h1 : s'.states = s.states) (h2 : s'.recs = s.recs) : Iv s' := ⟨by rw [h1]; exact h.st, by rw [h1, h2]; exact h.ends⟩
theorem Iv.note {s : St} (h : Iv s) {r : RecD} (hr : r.kind ≠ 4) : Iv (s.note r) := ⟨h.st, fun x hx hk => by
  rcases List.mem_append.1 (show x ∈ s.recs ++ [r] from hx) with hx | hx
  · exact h.ends x hx hk
  · obtain rfl : x = r := by simpa using hx
    exact absurd hk hr⟩
theorem Iv.put {s : St} (h : Iv s) {pre more : List StateD} {n : Str} {g : Int} {u : StateD} (hs : s.states = pre ++ ⟨n, 1, g, 0⟩ :: more) (hu : u.now = 1 ∨ u.now = 2 ∨ (u.now = 3 ∧ u.give = 0 ∧ u.code ≠ 0)) : Iv (s.put pre.length u) := by
  have e : (s.put pre.length u).states = pre ++ u :: more := by unfold St.put; simp only [hs, set_mid]
  refine ⟨fun t ht => ?_, fun x hx hk => ?_⟩
  · rw [e] at ht
    have h1 := h.st
    rw [hs] at h1
    rcases List.mem_append.1 ht with ht | ht
    · exact h1 t (List.mem_append_left _ ht)
    · rcases List.mem_cons.1 ht with rfl | ht
      · exact hu
      · exact h1 t (by simp [ht])
  · obtain ⟨t, ht, h1, h2, h3⟩ := h.ends x hx hk
    refine ⟨t, ?_, h1, h2, h3⟩
    rw [e]
    rw [hs] at ht
    rcases List.mem_append.1 ht with ht | ht
    · exact List.mem_append_left _ ht
    · rcases List.mem_cons.1 ht with rfl | ht
      · exact absurd h2 (show (1 : Int) ≠ 2 by decide)
      · simp [ht]
theorem look_iv (D : WorldD) : ∀ (ts : List Str) (s : St), Iv s → Iv (look D ts s).2.2
  | [], s, h => h
  | n :: r, s, h => by
    have hn : ∀ c : Int, Iv (s.read.note ⟨1, n, c, 0⟩) := fun c => (h.of (s' := s.read) rfl rfl).note (show (1 : Int) ≠ 4 by decide)
    unfold look
    split
    · exact h
    · split
      · exact h
      · split
        · exact hn _
        · split
          · exact hn _
          · exact look_iv D r _ (hn _)
theorem find_iv (D : WorldD) (frm name : Str) (s : St) (h : Iv s) : Iv (find D frm name s).2.2 := by
  unfold find
  split
  · exact h
  · exact look_iv D _ s h
def GetIv (D : WorldD) (st : List Str) (get : Get) : Prop := ∀ frm name s b, Good D s (b + 1) → s.stack = st → Iv s → Iv (get frm name s).2.2
theorem line_iv {D : WorldD} {pre : List StateD} {n : Str} {st : List Str} {get : Get} (hg : GetIv D st get) (l : LineD) {s : St} {b : Nat} (h : Mid D pre n st s (b + 2)) (hi : Iv s) : Iv (line get D pre.length n l s).2.2 := by
  obtain ⟨g, more, hs, _⟩ := h.states
  have hx := hg n l.name s (b + 1) h.good h.stack hi
  unfold line
  split
  · exact hi.note (show (3 : Int) ≠ 4 by decide)
  · split
    · exact hi.put (u := ⟨n, 1, l.num, 0⟩) hs (.inl rfl)
    · split
      · exact hx
      · split
        · show Iv (if _ then _ else _)
          split
          · exact hx.note (show (6 : Int) ≠ 4 by decide)
          · exact hx
        · split
          · split
            · exact hi.note (show (3 : Int) ≠ 4 by decide)
            · exact hi
          · split
            · exact hi.of rfl rfl
            · split <;> exact hi
theorem lines_iv {D : WorldD} {pre : List StateD} {n : Str} {st : List Str} {get : Get} (hg : GetOk D st get) (hv : GetIv D st get) (ls : List LineD) : ∀ (f i : Nat) (s : St) (b : Nat), Mid D pre n st s (b + 2 * f) → Iv s → Iv (lines get D pre.length n ls f i s).2
  | 0, i, s, b, h, hi => hi
  | f + 1, i, s, b, h, hi => by
    unfold lines
    split
    · exact hi
    · rename_i l hl
      have h1 := line_ok hg l (b := b + 2 * f) h
      have h2 := line_iv hv l (b := b + 2 * f) h hi
      split
      · exact h2
      · exact lines_iv hg hv ls f _ _ b h1 h2
theorem fin_iv {D : WorldD} {pre : List StateD} {n : Str} {st : List Str} {s : St} {b : Nat} {c : Int} (h : Mid D pre n st s b) (hi : Iv s) : Iv (fin pre.length n c s) := by
  obtain ⟨g, more, hs, _⟩ := h.states
  have hi2 : Iv s.pop := hi.of rfl rfl
  have hs2 : s.pop.states = pre ++ ⟨n, 1, g, 0⟩ :: more := hs
  unfold fin
  split
  · have hp := hi2.put (u := ⟨n, 2, giveAt s.states pre.length, 0⟩) hs2 (.inr (.inl rfl))
    refine ⟨hp.st, fun x hx hk => ?_⟩
    rcases List.mem_append.1 (show x ∈ (s.pop.put pre.length ⟨n, 2, giveAt s.states pre.length, 0⟩).recs ++ [_] from hx) with hx | hx
    · exact hp.ends x hx hk
    · obtain rfl : x = ⟨4, n, 0, giveAt s.states pre.length⟩ := by simpa using hx
      refine ⟨⟨n, 2, giveAt s.states pre.length, 0⟩, ?_, rfl, rfl, rfl⟩
      show _ ∈ (s.pop.put pre.length _).states
      unfold St.put
      simp only [hs2, set_mid]
      simp
  · rename_i hc
    exact (hi2.put (u := ⟨n, 3, 0, c⟩) hs2 (.inr (.inr ⟨rfl, rfl, hc⟩))).note (show (5 : Int) ≠ 4 by decide)
theorem body_iv {D : WorldD} (hl : ∀ m ∈ D.mods, m.lines.length ≤ 60) {get : Get} {n : Str} {s : St} {b : Nat} (h : Good D s (b + 1)) (hn : stAt s.states n = none) (hm : (modAt D.mods n).isSome = true) (hs : s.stack.length < 40) (hg : GetOk D (s.stack ++ [n]) get) (hv : GetIv D (s.stack ++ [n]) get) (hi : Iv s) : Iv (body get D n s).2 := by
  have hb := h.begin hn hm hs
  have hll := linesOf_len hl n
  have hmid : Mid D s.states n (s.stack ++ [n]) (s.begin n) (b + 1 + 2 * (linesOf D n).length) := ⟨hb.less (by omega), rfl, 0, [], by simp [St.begin], by simp⟩
  have hib : Iv (s.begin n) := by
    refine ⟨fun t ht => ?_, fun x hx hk => ?_⟩
    · rcases List.mem_append.1 (show t ∈ s.states ++ [⟨n, 1, 0, 0⟩] from ht) with ht | ht
      · exact hi.st t ht
      · obtain rfl : t = ⟨n, 1, 0, 0⟩ := by simpa using ht
        exact .inl rfl
    · rcases List.mem_append.1 (show x ∈ s.recs ++ [⟨2, n, 0, 0⟩] from hx) with hx | hx
      · obtain ⟨t, ht, h1⟩ := hi.ends x hx hk
        exact ⟨t, List.mem_append_left _ ht, h1⟩
      · obtain rfl : x = ⟨2, n, 0, 0⟩ := by simpa using hx
        exact absurd hk (show (2 : Int) ≠ 4 by decide)
  have h2 := lines_ok hg (linesOf D n) (linesOf D n).length 0 _ _ hmid
  have h3 := lines_iv hg hv (linesOf D n) (linesOf D n).length 0 _ _ hmid hib
  exact fin_iv h2 h3
theorem get_iv {D : WorldD} (hl : ∀ m ∈ D.mods, m.lines.length ≤ 60) : ∀ (f : Nat) (st : List Str), f + st.length = 40 → GetIv D st (get D f)
  | 0, st, hf => fun frm name s b h hs hi => by
    have f1 := find_iv D frm name s hi
    unfold get
    split
    · exact f1
    · show Iv (deep _ _).2
      unfold deep
      split
      · split
        · exact f1.of rfl rfl
        · split <;> exact f1
      · exact f1
  | f + 1, st, hf => fun frm name s b h hs hi => by
    obtain ⟨g1, g2, g3, _, _, g6, _⟩ := find_ok D frm name s (b + 1) h
    have f1 := find_iv D frm name s hi
    unfold get
    split
    · exact f1
    · rename_i hc
      have hc : (find D frm name s).2.1 = 0 := Classical.not_not.1 hc
      show Iv (enter _ _ _ _).2
      unfold enter
      split
      · split
        · exact f1.of rfl rfl
        · split <;> exact f1
      · rename_i hn
        have hsl : (find D frm name s).2.2.stack.length < 40 := by rw [g3, hs]; omega
        have hmm : (modAt D.mods (find D frm name s).1).isSome = true := (g6 hc).2 (by rw [← g2]; exact hn)
        have hst : (find D frm name s).2.2.stack = st := by rw [g3, hs]
        exact body_iv hl g1 hn hmm hsl (get_ok hl f _ (by rw [hst, List.length_append, List.length_singleton]; omega)) (get_iv hl f _ (by rw [hst, List.length_append, List.length_singleton]; omega)) f1
/-- at the end: each module is loaded or has failed; what failed gives nothing; an end told what its module gives -/
theorem load_hidden (D : WorldD) (name : Str) (hm : (Wd.worldOk D).1 = 0 → D.mods.length ≤ 60 ∧ ∀ m ∈ D.mods, m.lines.length ≤ 60) :
    (∀ t ∈ (load D name).2.states, t.now = 2 ∨ (t.now = 3 ∧ t.give = 0 ∧ t.code ≠ 0)) ∧ ∀ x ∈ (load D name).2.recs, x.kind = 4 → ∀ t ∈ (load D name).2.states, t.name = x.name → t.give = x.num := by
  unfold load
  split
  · exact ⟨by simp [St.start], by simp [St.start]⟩
  · rename_i h0
    obtain ⟨h1, h2⟩ := hm (Classical.not_not.1 h0)
    have hx := get_ok h2 40 [] rfl mainName name St.start 0 (start_good D h1) rfl
    have hi := get_iv h2 40 [] rfl mainName name St.start 0 (start_good D h1) rfl ⟨by simp [St.start], by simp [St.start]⟩
    refine ⟨fun t ht => ?_, fun x hx2 hk t ht hn => ?_⟩
    · rcases hi.st t ht with h | h | h
      · have := hx.good.load t ht h
        have hs : (get D 40 mainName name St.start).2.2.stack = [] := hx.stack
        rw [hs] at this; simp at this
      · exact .inl h
      · exact .inr h
    · obtain ⟨u, hu, e1, _, e3⟩ := hi.ends x hx2 hk
      have hnd := hx.good.nodup
      have : t = u := by
        obtain ⟨i, hi1⟩ := List.getElem?_of_mem ht
        obtain ⟨j, hj1⟩ := List.getElem?_of_mem hu
        have hil : i < ((get D 40 mainName name St.start).2.2.states.map (·.name)).length := by
          rw [List.length_map]
          rcases Nat.lt_or_ge i (get D 40 mainName name St.start).2.2.states.length with h | h
          · exact h
          · rw [List.getElem?_eq_none h] at hi1; simp at hi1
        have hij : i = j := by
          refine (List.getElem?_inj hil hnd).1 ?_
          rw [List.getElem?_map, List.getElem?_map, hi1, hj1]
          simp [hn, e1]
        subst hij
        rw [hi1] at hj1
        exact Option.some.inj hj1
      rw [this]; exact e3
end Ld
end Go.Proofs.YtkhlicmlnjccdaaDoor
