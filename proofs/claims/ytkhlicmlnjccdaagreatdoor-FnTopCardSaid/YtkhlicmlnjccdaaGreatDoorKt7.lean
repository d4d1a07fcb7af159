/-
Plain loading: what a report's records hold: kinds, codes, short names, numbers that lines told. No program in sight.
Plain loading: a ring that is told has a module at the least. No program in sight.
Plain loading: how large a report is. No program in sight.
-/
import Derived.Test.YtkhlicmlnjccdaaGreatDoorKt6
namespace Go.Proofs.YtkhlicmlnjccdaaGreatDoor
namespace Ld
structure Rz (P : Int → Prop) (s : St) : Prop where
  recs : ∀ x ∈ s.recs, (1 ≤ x.kind ∧ x.kind ≤ 6) ∧ (0 ≤ x.code ∧ x.code ≤ 7) ∧ x.name.size ≤ 60 ∧ P x.num
  rings : ∀ r ∈ s.rings, ∀ x ∈ r, x.size ≤ 60
  stack : ∀ x ∈ s.stack, x.size ≤ 60
  give : ∀ t ∈ s.states, P t.give
  thrown : P s.thrown
variable {P : Int → Prop}
theorem Rz.note {s : St} (h : Rz P s) {r : RecD} (hr : (1 ≤ r.kind ∧ r.kind ≤ 6) ∧ (0 ≤ r.code ∧ r.code ≤ 7) ∧ r.name.size ≤ 60 ∧ P r.num) : Rz P (s.note r) :=
  ⟨fun x hx => by
    rcases List.mem_append.1 (show x ∈ s.recs ++ [r] from hx) with hx | hx
    · exact h.recs x hx
    · obtain rfl : x = r := by simpa using hx
      exact hr, h.rings, h.stack, h.give, h.thrown⟩
theorem Rz.put {s : St} (h : Rz P s) {k : Nat} {t : StateD} (ht : P t.give) : Rz P (s.put k t) :=
  ⟨h.recs, h.rings, h.stack, fun x hx => by
    rcases List.mem_or_eq_of_mem_set (show x ∈ s.states.set k t from hx) with hx | rfl
    · exact h.give x hx
    · exact ht, h.thrown⟩
theorem Rz.read {s : St} (h : Rz P s) : Rz P s.read := ⟨h.recs, h.rings, h.stack, h.give, h.thrown⟩
theorem Rz.pop {s : St} (h : Rz P s) : Rz P s.pop := ⟨h.recs, h.rings, fun x hx => h.stack x (List.dropLast_subset _ hx), h.give, h.thrown⟩
theorem Rz.ring {s : St} (h : Rz P s) (n : Str) : Rz P (s.ring n) :=
  ⟨h.recs, fun r hr => by
    rcases List.mem_append.1 hr with hr | hr
    · exact h.rings r hr
    · obtain rfl : r = s.stack.dropWhile fun x => decide (x ≠ n) := by simpa using hr
      exact fun x hx => h.stack x ((List.dropWhile_sublist _).subset hx), h.stack, h.give, h.thrown⟩
theorem Rz.giveAt {s : St} (h : Rz P s) (h0 : P 0) (k : Nat) : P (giveAt s.states k) := by
  unfold Ld.giveAt
  split
  · rename_i t ht
    exact h.give t (List.mem_of_getElem? ht)
  · exact h0
theorem look_rz (h0 : P 0) (D : WorldD) : ∀ (ts : List Str), (∀ t ∈ ts, t.size ≤ 60) → ∀ s : St, Rz P s → Rz P (look D ts s).2.2 ∧ (0 ≤ (look D ts s).2.1 ∧ (look D ts s).2.1 ≤ 7) ∧ (look D ts s).1.size ≤ 60
  | [], _, s, h => ⟨h, ⟨show (0 : Int) ≤ 2 by decide, show (2 : Int) ≤ 7 by decide⟩, show (0 : Nat) ≤ 60 by decide⟩
  | n :: r, ht, s, h => by
    have hn := ht n (by simp)
    have hnote : ∀ c : Int, 0 ≤ c → c ≤ 7 → Rz P (s.read.note ⟨1, n, c, 0⟩) := fun c h1 h2 => h.read.note ⟨⟨show (1 : Int) ≤ 1 by decide, show (1 : Int) ≤ 6 by decide⟩, ⟨h1, h2⟩, hn, h0⟩
    have he : (⟨#[]⟩ : Str).size ≤ 60 := show (0 : Nat) ≤ 60 by decide
    unfold look
    split
    · exact ⟨h, ⟨by simp, by simp⟩, hn⟩
    · split
      · exact ⟨h, ⟨by simp, by simp⟩, he⟩
      · split
        · exact ⟨hnote 3 (by omega) (by omega), ⟨by simp, by simp⟩, hn⟩
        · split
          · exact ⟨hnote 0 (by omega) (by omega), ⟨by simp, by simp⟩, hn⟩
          · exact look_rz h0 D r (fun t h => ht t (List.mem_cons_of_mem _ h)) _ (hnote 2 (by omega) (by omega))
theorem tries_short (roots : List Str) (frm name : Str) : ∀ t ∈ Nm.tries roots frm name, t.size ≤ 60 := fun t ht => Nm.clean_short (by rw [(Nm.tries_fine roots frm name).1 t ht])
theorem find_rz (h0 : P 0) (D : WorldD) (frm name : Str) (s : St) (h : Rz P s) : Rz P (find D frm name s).2.2 ∧ (0 ≤ (find D frm name s).2.1 ∧ (find D frm name s).2.1 ≤ 7) ∧ (find D frm name s).1.size ≤ 60 := by
  unfold find
  split
  · exact ⟨h, ⟨show (0 : Int) ≤ 1 by decide, show (1 : Int) ≤ 7 by decide⟩, show (0 : Nat) ≤ 60 by decide⟩
  · exact look_rz h0 D _ (tries_short _ _ _) s h
def GetRz (P : Int → Prop) (get : Get) : Prop := ∀ frm name s, Rz P s → Rz P (get frm name s).2.2 ∧ (0 ≤ (get frm name s).2.1 ∧ (get frm name s).2.1 ≤ 7) ∧ (get frm name s).1.size ≤ 60
theorem known_codeZ (D : WorldD) (frm name : Str) (s : St) : 0 ≤ (known D frm name s).2 ∧ (known D frm name s).2 ≤ 7 := by
  unfold known knownIn
  split
  · exact ⟨by simp, by simp⟩
  · split <;> exact ⟨by simp, by simp⟩
theorem line_rz (h0 : P 0) {D : WorldD} {get : Get} (hg : GetRz P get) (k : Nat) {me : Str} (hme : me.size ≤ 60) (l : LineD) (hl : P l.num) {s : St} (h : Rz P s) : Rz P (line get D k me l s).2.2 ∧ 0 ≤ (line get D k me l s).1 ∧ (line get D k me l s).1 ≤ 7 := by
  have hx := hg me l.name s h
  have hsay : ∀ m : Int, P m → Rz P (s.note ⟨3, me, 0, m⟩) := fun m hm => h.note ⟨⟨show (1 : Int) ≤ 3 by decide, show (3 : Int) ≤ 6 by decide⟩, ⟨show (0 : Int) ≤ 0 by decide, show (0 : Int) ≤ 7 by decide⟩, hme, hm⟩
  unfold line
  split
  · exact ⟨hsay _ hl, by simp, by simp⟩
  · split
    · exact ⟨h.put hl, by simp, by simp⟩
    · split
      · exact ⟨hx.1, hx.2.1.1, hx.2.1.2⟩
      · split
        · refine ⟨?_, by simp, by simp⟩
          show Rz P (if _ then _ else _)
          split
          · exact hx.1.note ⟨⟨show (1 : Int) ≤ 6 by decide, show (6 : Int) ≤ 6 by decide⟩, hx.2.1, hx.2.2, h0⟩
          · exact hx.1
        · split
          · split
            · exact ⟨hsay _ (h.giveAt h0 _), by simp, by simp⟩
            · exact ⟨h, known_codeZ D me l.name s⟩
          · split
            · exact ⟨⟨h.recs, h.rings, h.stack, h.give, hl⟩, by simp, by simp⟩
            · split
              · exact ⟨h, by simp, by simp⟩
              · exact ⟨h, by simp, by simp⟩
theorem lines_rz (h0 : P 0) {D : WorldD} {get : Get} (hg : GetRz P get) (k : Nat) {me : Str} (hme : me.size ≤ 60) (ls : List LineD) (hl : ∀ l ∈ ls, P l.num) : ∀ (f i : Nat) (s : St), Rz P s → Rz P (lines get D k me ls f i s).2 ∧ 0 ≤ (lines get D k me ls f i s).1 ∧ (lines get D k me ls f i s).1 ≤ 7
  | 0, i, s, h => ⟨h, show (0 : Int) ≤ 0 by decide, show (0 : Int) ≤ 7 by decide⟩
  | f + 1, i, s, h => by
    unfold lines
    split
    · exact ⟨h, by simp, by simp⟩
    · rename_i l hi
      have h1 := line_rz (D := D) h0 hg k hme l (hl l (List.mem_of_getElem? hi)) h
      split
      · exact h1
      · exact lines_rz h0 hg k hme ls hl f _ _ h1.1
theorem linesOf_mem {D : WorldD} {n : Str} {l : LineD} (h : l ∈ linesOf D n) : ∃ m ∈ D.mods, l ∈ m.lines := by
  unfold linesOf at h
  split at h
  · simp at h
  · split at h
    · simp at h
    · rename_i m hm
      exact ⟨m, List.mem_of_getElem? hm, h⟩
theorem body_rz (h0 : P 0) {D : WorldD} (hD : ∀ m ∈ D.mods, ∀ l ∈ m.lines, P l.num) {get : Get} (hg : GetRz P get) {n : Str} (hn : n.size ≤ 60) {s : St} (h : Rz P s) : Rz P (body get D n s).2 ∧ 0 ≤ (body get D n s).1 ∧ (body get D n s).1 ≤ 7 := by
  have hb : Rz P (s.begin n) := by
    refine ⟨fun x hx => ?_, h.rings, fun x hx => ?_, fun t ht => ?_, h.thrown⟩
    · rcases List.mem_append.1 (show x ∈ s.recs ++ [⟨2, n, 0, 0⟩] from hx) with hx | hx
      · exact h.recs x hx
      · obtain rfl : x = ⟨2, n, 0, 0⟩ := by simpa using hx
        exact ⟨⟨show (1 : Int) ≤ 2 by decide, show (2 : Int) ≤ 6 by decide⟩, ⟨show (0 : Int) ≤ 0 by decide, show (0 : Int) ≤ 7 by decide⟩, hn, h0⟩
    · rcases List.mem_append.1 (show x ∈ s.stack ++ [n] from hx) with hx | hx
      · exact h.stack x hx
      · obtain rfl : x = n := by simpa using hx
        exact hn
    · rcases List.mem_append.1 (show t ∈ s.states ++ [⟨n, 1, 0, 0⟩] from ht) with ht | ht
      · exact h.give t ht
      · obtain rfl : t = ⟨n, 1, 0, 0⟩ := by simpa using ht
        exact h0
  have h2 := lines_rz h0 hg s.states.length hn (linesOf D n) (fun l hl => by
    obtain ⟨m, hm, hl⟩ := linesOf_mem hl
    exact hD m hm l hl) (linesOf D n).length 0 _ hb (D := D)
  refine ⟨?_, h2.2⟩
  show Rz P (fin _ _ _ _)
  have hgv := h2.1.giveAt h0 s.states.length
  unfold fin
  split
  · exact (h2.1.pop.put (t := ⟨n, 2, _, 0⟩) hgv).note ⟨⟨show (1 : Int) ≤ 4 by decide, show (4 : Int) ≤ 6 by decide⟩, ⟨show (0 : Int) ≤ 0 by decide, show (0 : Int) ≤ 7 by decide⟩, hn, hgv⟩
  · refine (h2.1.pop.put (t := ⟨n, 3, 0, _⟩) h0).note ⟨⟨show (1 : Int) ≤ 5 by decide, show (5 : Int) ≤ 6 by decide⟩, h2.2, hn, ?_⟩
    show P (if _ then _ else _)
    split
    · exact h2.1.thrown
    · exact h0
theorem get_rz (h0 : P 0) {D : WorldD} (hD : ∀ m ∈ D.mods, ∀ l ∈ m.lines, P l.num) : ∀ f : Nat, GetRz P (get D f)
  | 0 => fun frm name s h => by
    have f1 := find_rz h0 D frm name s h
    unfold get
    split
    · exact f1
    · refine ⟨?_, ?_, f1.2.2⟩
      · show Rz P (deep _ _).2
        unfold deep
        split
        · split
          · exact f1.1.ring _
          · split <;> exact f1.1
        · exact f1.1
      · show 0 ≤ (deep _ _).1 ∧ (deep _ _).1 ≤ 7
        unfold deep
        split
        · split
          · exact ⟨by simp, by simp⟩
          · split <;> exact ⟨by simp, by simp⟩
        · exact ⟨by simp, by simp⟩
  | f + 1 => fun frm name s h => by
    have f1 := find_rz h0 D frm name s h
    unfold get
    split
    · exact f1
    · refine ⟨?_, ?_, f1.2.2⟩
      · show Rz P (enter _ _ _ _).2
        unfold enter
        split
        · split
          · exact f1.1.ring _
          · split <;> exact f1.1
        · exact (body_rz h0 hD (get_rz h0 hD f) f1.2.2 f1.1).1
      · show 0 ≤ (enter _ _ _ _).1 ∧ (enter _ _ _ _).1 ≤ 7
        unfold enter
        split
        · split
          · exact ⟨by simp, by simp⟩
          · split <;> exact ⟨by simp, by simp⟩
        · exact (body_rz h0 hD (get_rz h0 hD f) f1.2.2 f1.1).2
/-- a report: its records, its rings, its code -/
theorem load_rz (h0 : P 0) (D : WorldD) (hD : ∀ m ∈ D.mods, ∀ l ∈ m.lines, P l.num) (name : Str) : Rz P (load D name).2 ∧ -1 ≤ (load D name).1 ∧ (load D name).1 ≤ 7 := by
  have hst : Rz P St.start := ⟨by simp [St.start], by simp [St.start], by simp [St.start], by simp [St.start], h0⟩
  unfold load
  split
  · exact ⟨hst, by simp, by simp⟩
  · have h := get_rz h0 hD 40 mainName name St.start hst
    exact ⟨h.1, by have := h.2.1.1; show (-1 : Int) ≤ (get D 40 mainName name St.start).2.1; omega, h.2.1.2⟩
end Ld
end Go.Proofs.YtkhlicmlnjccdaaGreatDoor

namespace Go.Proofs.YtkhlicmlnjccdaaGreatDoor
namespace Ld
theorem dropWhile_all {α : Type} {p : α → Bool} : ∀ {l : List α}, l.dropWhile p = [] → ∀ x ∈ l, p x = true
  | [], _, x, hx => by simp at hx
  | a :: l, h, x, hx => by
    rw [List.dropWhile_cons] at h
    by_cases ha : p a = true
    · rw [if_pos ha] at h
      rcases List.mem_cons.1 hx with rfl | hx
      · exact ha
      · exact dropWhile_all h x hx
    · rw [if_neg ha] at h; simp at h
def Rn (s : St) : Prop := ∀ r ∈ s.rings, r ≠ []
theorem Rn.of {s s' : St} (h : Rn s) (h1 : s'.rings = s.rings) : Rn s' := fun r hr => h r (h1 ▸ hr)
theorem Rn.ring {s : St} (h : Rn s) {n : Str} (hn : n ∈ s.stack) : Rn (s.ring n) := fun r hr => by
  rcases List.mem_append.1 hr with hr | hr
  · exact h r hr
  · obtain rfl : r = s.stack.dropWhile fun x => decide (x ≠ n) := by simpa using hr
    intro e
    have := dropWhile_all e n hn
    simp at this
theorem find_rn (D : WorldD) (frm name : Str) (s : St) (b : Nat) (hg : Good D s b) (h : Rn s) : Rn (find D frm name s).2.2 := by
  obtain ⟨_, _, _, g4, _⟩ := find_ok D frm name s b hg
  exact h.of g4
def GetRn (D : WorldD) (st : List Str) (get : Get) : Prop := ∀ frm name s b, Good D s (b + 1) → s.stack = st → Rn s → Rn (get frm name s).2.2
theorem line_rn {D : WorldD} {pre : List StateD} {n : Str} {st : List Str} {get : Get} (hg : GetRn D st get) (l : LineD) {s : St} {b : Nat} (h : Mid D pre n st s (b + 2)) (hi : Rn s) : Rn (line get D pre.length n l s).2.2 := by
  have hx := hg n l.name s (b + 1) h.good h.stack hi
  unfold line
  split
  · exact hi.of rfl
  · split
    · exact hi.of rfl
    · split
      · exact hx
      · split
        · show Rn (if _ then _ else _)
          split
          · exact hx.of rfl
          · exact hx
        · split
          · split
            · exact hi.of rfl
            · exact hi
          · split
            · exact hi.of rfl
            · split <;> exact hi
theorem lines_rn {D : WorldD} {pre : List StateD} {n : Str} {st : List Str} {get : Get} (hg : GetOk D st get) (hv : GetRn D st get) (ls : List LineD) : ∀ (f i : Nat) (s : St) (b : Nat), Mid D pre n st s (b + 2 * f) → Rn s → Rn (lines get D pre.length n ls f i s).2
  | 0, i, s, b, h, hi => hi
  | f + 1, i, s, b, h, hi => by
    unfold lines
    split
    · exact hi
    · rename_i l _
      have h1 := line_ok hg l (b := b + 2 * f) h
      have h2 := line_rn hv l (b := b + 2 * f) h hi
      split
      · exact h2
      · exact lines_rn hg hv ls f _ _ b h1 h2
theorem body_rn {D : WorldD} (hl : ∀ m ∈ D.mods, m.lines.length ≤ 60) {get : Get} {n : Str} {s : St} {b : Nat} (h : Good D s (b + 1)) (hn : stAt s.states n = none) (hm : (modAt D.mods n).isSome = true) (hs : s.stack.length < 40) (hg : GetOk D (s.stack ++ [n]) get) (hv : GetRn D (s.stack ++ [n]) get) (hi : Rn s) : Rn (body get D n s).2 := by
  have hb := h.begin hn hm hs
  have hll := linesOf_len hl n
  have hmid : Mid D s.states n (s.stack ++ [n]) (s.begin n) (b + 1 + 2 * (linesOf D n).length) := ⟨hb.less (by omega), rfl, 0, [], by simp [St.begin], by simp⟩
  have h3 := lines_rn hg hv (linesOf D n) (linesOf D n).length 0 _ _ hmid (hi.of rfl)
  show Rn (fin _ _ _ _)
  unfold fin
  split <;> exact h3.of rfl
theorem state_stack {D : WorldD} {s : St} {b : Nat} (h : Good D s b) {n : Str} {i : Nat} (hi : stAt s.states n = some i) (h1 : (s.states[i]?).any (fun t => decide (t.now = 1)) = true) : n ∈ s.stack := by
  obtain ⟨t, ht, hn⟩ := stAt_some hi
  rw [ht] at h1
  have := h.load t (List.mem_of_getElem? ht) (by simpa using h1)
  rw [hn] at this; exact this
theorem get_rn {D : WorldD} (hl : ∀ m ∈ D.mods, m.lines.length ≤ 60) : ∀ (f : Nat) (st : List Str), f + st.length = 40 → GetRn D st (get D f)
  | 0, st, hf => fun frm name s b h hs hi => by
    obtain ⟨g1, _⟩ := find_ok D frm name s (b + 1) h
    have f1 := find_rn D frm name s _ h hi
    unfold get
    split
    · exact f1
    · show Rn (deep _ _).2
      unfold deep
      split
      · rename_i i hi
        split
        · rename_i h1
          exact f1.ring (state_stack g1 hi h1)
        · split <;> exact f1
      · exact f1
  | f + 1, st, hf => fun frm name s b h hs hi => by
    obtain ⟨g1, g2, g3, _, _, g6, _⟩ := find_ok D frm name s (b + 1) h
    have f1 := find_rn D frm name s _ h hi
    unfold get
    split
    · exact f1
    · rename_i hc
      have hc : (find D frm name s).2.1 = 0 := Classical.not_not.1 hc
      show Rn (enter _ _ _ _).2
      unfold enter
      split
      · rename_i i hi
        split
        · rename_i h1
          exact f1.ring (state_stack g1 hi h1)
        · split <;> exact f1
      · rename_i hn
        have hsl : (find D frm name s).2.2.stack.length < 40 := by rw [g3, hs]; omega
        have hmm : (modAt D.mods (find D frm name s).1).isSome = true := (g6 hc).2 (by rw [← g2]; exact hn)
        have hst : (find D frm name s).2.2.stack = st := by rw [g3, hs]
        exact body_rn hl g1 hn hmm hsl (get_ok hl f _ (by rw [hst, List.length_append, List.length_singleton]; omega)) (get_rn hl f _ (by rw [hst, List.length_append, List.length_singleton]; omega)) f1
theorem load_rn (D : WorldD) (name : Str) (hm : (Wd.worldOk D).1 = 0 → D.mods.length ≤ 60 ∧ ∀ m ∈ D.mods, m.lines.length ≤ 60) : ∀ r ∈ (load D name).2.rings, r ≠ [] := by
  unfold load
  split
  · simp [St.start]
  · rename_i h0
    obtain ⟨h1, h2⟩ := hm (Classical.not_not.1 h0)
    exact get_rn h2 40 [] rfl mainName name St.start 0 (start_good D h1) rfl (by simp [Rn, St.start])
end Ld
end Go.Proofs.YtkhlicmlnjccdaaGreatDoor

namespace Go.Proofs.YtkhlicmlnjccdaaGreatDoor
namespace Ld
/-- rings are short; the stack is st -/
structure Rk (st : List Str) (s : St) : Prop where
  stack : s.stack = st
  len : st.length ≤ 40
  rings : ∀ x ∈ s.rings, x.length ≤ 40
theorem Rk.of {st : List Str} {s s' : St} (h : Rk st s) (h1 : s'.stack = s.stack) (h2 : s'.rings = s.rings) : Rk st s' := ⟨h1.trans h.stack, h.len, fun x hx => h.rings x (h2 ▸ hx)⟩
theorem Rk.ring {st : List Str} {s : St} (h : Rk st s) (n : Str) : Rk st (s.ring n) := ⟨h.stack, h.len, fun x hx => by
  rcases List.mem_append.1 hx with hx | hx
  · exact h.rings x hx
  · obtain rfl : x = s.stack.dropWhile fun x => decide (x ≠ n) := by simpa using hx
    have h1 := (List.dropWhile_sublist (l := s.stack) (fun x => decide (x ≠ n))).length_le
    rw [h.stack] at h1 ⊢
    exact Nat.le_trans h1 h.len⟩
theorem look_rk (D : WorldD) {st : List Str} : ∀ (ts : List Str) (s : St), Rk st s → Rk st (look D ts s).2.2
  | [], s, h => h
  | n :: r, s, h => by
    have hn : ∀ x : RecD, Rk st (s.read.note x) := fun x => h.of rfl rfl
    unfold look
    split
    · exact h
    · split
      · exact h
      · split
        · exact hn _
        · split
          · exact hn _
          · exact look_rk D r _ (hn _)
theorem find_rk (D : WorldD) {st : List Str} (frm name : Str) (s : St) (h : Rk st s) : Rk st (find D frm name s).2.2 := by
  unfold find
  split
  · exact h
  · exact look_rk D _ s h
def GetRk (st : List Str) (get : Get) : Prop := ∀ frm name s, Rk st s → Rk st (get frm name s).2.2
theorem line_rk {D : WorldD} {st : List Str} {get : Get} (hg : GetRk st get) (k : Nat) (me : Str) (l : LineD) {s : St} (h : Rk st s) : Rk st (line get D k me l s).2.2 := by
  unfold line
  have hx := hg me l.name s h
  split
  · exact h.of rfl rfl
  · split
    · exact h.of rfl rfl
    · split
      · exact hx
      · split
        · show Rk st (if _ then _ else _)
          split
          · exact hx.of rfl rfl
          · exact hx
        · split
          · split
            · exact h.of rfl rfl
            · exact h
          · split
            · exact h.of rfl rfl
            · split <;> exact h
theorem lines_rk {D : WorldD} {st : List Str} {get : Get} (hg : GetRk st get) (k : Nat) (me : Str) (ls : List LineD) : ∀ (f i : Nat) (s : St), Rk st s → Rk st (lines get D k me ls f i s).2
  | 0, i, s, h => h
  | f + 1, i, s, h => by
    unfold lines
    split
    · exact h
    · rename_i l hl
      have h1 := line_rk (D := D) hg k me l h
      split
      · exact h1
      · exact lines_rk hg k me ls f _ _ h1
theorem body_rk {D : WorldD} {st : List Str} {get : Get} {n : Str} {s : St} (h : Rk st s) (hl : st.length < 40) (hg : GetRk (st ++ [n]) get) : Rk st (body get D n s).2 := by
  have hb : Rk (st ++ [n]) (s.begin n) := ⟨by show s.stack ++ [n] = _; rw [h.stack], by simp; omega, h.rings⟩
  have h2 := lines_rk (D := D) hg s.states.length n (linesOf D n) (linesOf D n).length 0 _ hb
  show Rk st (fin _ _ _ _)
  unfold fin
  split
  · exact ⟨by show (St.stack _).dropLast = st; rw [h2.stack, List.dropLast_concat], h.len, h2.rings⟩
  · exact ⟨by show (St.stack _).dropLast = st; rw [h2.stack, List.dropLast_concat], h.len, h2.rings⟩
theorem get_rk (D : WorldD) : ∀ (f : Nat) (st : List Str), f + st.length = 40 → GetRk st (get D f)
  | 0, st, hf => fun frm name s h => by
    have f1 := find_rk D frm name s h
    unfold get
    split
    · exact f1
    · show Rk st (deep _ _).2
      unfold deep
      split
      · split
        · exact f1.ring _
        · split <;> exact f1
      · exact f1
  | f + 1, st, hf => fun frm name s h => by
    have f1 := find_rk D frm name s h
    unfold get
    split
    · exact f1
    · show Rk st (enter _ _ _ _).2
      unfold enter
      split
      · split
        · exact f1.ring _
        · split <;> exact f1
      · exact body_rk f1 (by omega) (get_rk D f _ (by rw [List.length_append, List.length_singleton]; omega))
/-- a report's size -/
theorem load_small (D : WorldD) (name : Str) (hm : (Wd.worldOk D).1 = 0 → D.mods.length ≤ 60 ∧ ∀ m ∈ D.mods, m.lines.length ≤ 60) :
    (load D name).2.recs.length ≤ 9000 ∧ (load D name).2.states.length ≤ 60 ∧ (load D name).2.rings.length ≤ 9000 ∧ ∀ x ∈ (load D name).2.rings, x.length ≤ 40 := by
  unfold load
  split
  · exact ⟨by simp [St.start], by simp [St.start], by simp [St.start], by simp [St.start]⟩
  · rename_i h0
    obtain ⟨h1, h2⟩ := hm (Classical.not_not.1 h0)
    have hg := (get_ok h2 40 [] rfl mainName name St.start 0 (start_good D h1) rfl).good
    have hr := get_rk D 40 [] rfl mainName name St.start ⟨rfl, by simp, by simp [St.start]⟩
    have := hg.room
    have := hg.len
    exact ⟨by show (get D 40 mainName name St.start).2.2.recs.length ≤ _; omega, by show (get D 40 mainName name St.start).2.2.states.length ≤ _; omega, by show (get D 40 mainName name St.start).2.2.rings.length ≤ _; omega, hr.rings⟩
end Ld
end Go.Proofs.YtkhlicmlnjccdaaGreatDoor
