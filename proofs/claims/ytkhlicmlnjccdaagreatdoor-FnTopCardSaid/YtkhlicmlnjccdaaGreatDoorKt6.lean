/-
  Plain loading: what every loading keeps: names once, what is being loaded stands on the stack, room for the records. No program in sight.
-/
import Derived.Test.YtkhlicmlnjccdaaGreatDoorKt5
namespace Go.Proofs.YtkhlicmlnjccdaaGreatDoor
namespace Ld
theorem stAt_some {l : List StateD} {n : Str} {i : Nat} (h : stAt l n = some i) : ∃ t, l[i]? = some t ∧ t.name = n := by
  unfold stAt at h
  rw [List.findIdx?_eq_some_iff_getElem] at h
  obtain ⟨hi, hp, _⟩ := h
  exact ⟨l[i], List.getElem?_eq_getElem hi, by simpa using hp⟩
theorem stAt_none {l : List StateD} {n : Str} (h : stAt l n = none) : ∀ t ∈ l, t.name ≠ n := by
  unfold stAt at h
  rw [List.findIdx?_eq_none_iff] at h
  exact fun t ht => by simpa using h t ht
theorem stAt_at {l : List StateD} {n : Str} {i : Nat} {t : StateD} (hi : l[i]? = some t) (hn : t.name = n) (h : ∀ j, j < i → ∀ u, l[j]? = some u → u.name ≠ n) : stAt l n = some i := by
  have hl : i < l.length := by
    rcases Nat.lt_or_ge i l.length with h | h
    · exact h
    · rw [List.getElem?_eq_none h] at hi; simp at hi
  unfold stAt
  rw [List.findIdx?_eq_some_iff_getElem]
  refine ⟨hl, ?_, fun j hj => ?_⟩
  · rw [List.getElem?_eq_getElem hl] at hi
    obtain rfl := Option.some.inj hi
    simpa using hn
  · simpa using h j hj _ (List.getElem?_eq_getElem (by omega))
theorem stAt_no {l : List StateD} {n : Str} (h : ∀ (j : Nat) (u : StateD), l[j]? = some u → u.name ≠ n) : stAt l n = none := by
  unfold stAt
  rw [List.findIdx?_eq_none_iff]
  intro t ht
  obtain ⟨j, hj⟩ := List.getElem?_of_mem ht
  simpa using h j t hj
theorem modAt_some {l : List ModD} {n : Str} {i : Nat} (h : modAt l n = some i) : ∃ t, l[i]? = some t ∧ t.name = n := by
  unfold modAt at h
  rw [List.findIdx?_eq_some_iff_getElem] at h
  obtain ⟨hi, hp, _⟩ := h
  exact ⟨l[i], List.getElem?_eq_getElem hi, by simpa using hp⟩
theorem modAt_at {l : List ModD} {n : Str} {i : Nat} {t : ModD} (hi : l[i]? = some t) (hn : t.name = n) (h : ∀ j, j < i → ∀ u, l[j]? = some u → u.name ≠ n) : modAt l n = some i := by
  have hl : i < l.length := by
    rcases Nat.lt_or_ge i l.length with h | h
    · exact h
    · rw [List.getElem?_eq_none h] at hi; simp at hi
  unfold modAt
  rw [List.findIdx?_eq_some_iff_getElem]
  refine ⟨hl, ?_, fun j hj => ?_⟩
  · rw [List.getElem?_eq_getElem hl] at hi
    obtain rfl := Option.some.inj hi
    simpa using hn
  · simpa using h j hj _ (List.getElem?_eq_getElem (by omega))
theorem modAt_no {l : List ModD} {n : Str} (h : ∀ (j : Nat) (u : ModD), l[j]? = some u → u.name ≠ n) : modAt l n = none := by
  unfold modAt
  rw [List.findIdx?_eq_none_iff]
  intro t ht
  obtain ⟨j, hj⟩ := List.getElem?_of_mem ht
  simpa using h j t hj

/-- as many different names as lie in a list of so many -/
theorem pigeon {α : Type} [DecidableEq α] : ∀ (xs ys : List α), xs.Nodup → (∀ x ∈ xs, x ∈ ys) → xs.length ≤ ys.length
  | [], _, _, _ => by simp
  | x :: xs, ys, hn, hs => by
    rw [List.nodup_cons] at hn
    have h := pigeon xs (ys.erase x) hn.2 (fun y hy => by
      have hne : y ≠ x := fun e => hn.1 (e ▸ hy)
      exact (List.mem_erase_of_ne hne).2 (hs y (List.mem_cons_of_mem _ hy)))
    rw [List.length_erase_of_mem (hs x (by simp))] at h
    have : 0 < ys.length := List.length_pos_of_mem (hs x (by simp))
    simp only [List.length_cons]
    omega

structure Good (D : WorldD) (s : St) (b : Nat) : Prop where
  nodup : (s.states.map (·.name)).Nodup
  sub : ∀ t ∈ s.states, t.name ∈ D.mods.map (·.name)
  load : ∀ t ∈ s.states, t.now = 1 → t.name ∈ s.stack
  stack : s.stack.length ≤ 40
  reads : s.reads ≤ 400
  room : s.recs.length + s.rings.length + b + 130 * (D.mods.length - s.states.length) + (400 - s.reads) ≤ 9000
instance : DecidableEq Str := inferInstanceAs (DecidableEq ByteArray)
theorem Good.len {D : WorldD} {s : St} {b : Nat} (h : Good D s b) : s.states.length ≤ D.mods.length := by
  have := pigeon (s.states.map (·.name)) (D.mods.map (·.name)) h.nodup (fun x hx => by
    obtain ⟨t, ht, rfl⟩ := List.mem_map.1 hx
    exact h.sub t ht)
  simpa using this
theorem Good.less {D : WorldD} {s : St} {b c : Nat} (h : Good D s b) (hc : c ≤ b) : Good D s c := ⟨h.nodup, h.sub, h.load, h.stack, h.reads, by have := h.room; omega⟩
theorem Good.note {D : WorldD} {s : St} {b : Nat} (h : Good D s (b + 1)) (r : RecD) : Good D (s.note r) b :=
  ⟨h.nodup, h.sub, h.load, h.stack, h.reads, by have := h.room; simp only [St.note, List.length_append, List.length_singleton]; omega⟩
theorem Good.readNote {D : WorldD} {s : St} {b : Nat} (h : Good D s b) (hr : s.reads ≠ 400) (r : RecD) : Good D (s.read.note r) b :=
  ⟨h.nodup, h.sub, h.load, h.stack, by have := h.reads; simp only [St.note, St.read]; omega, by have := h.room; have := h.reads; simp only [St.note, St.read, List.length_append, List.length_singleton]; omega⟩
theorem Good.ring {D : WorldD} {s : St} {b : Nat} (h : Good D s (b + 1)) (n : Str) : Good D (s.ring n) b :=
  ⟨h.nodup, h.sub, h.load, h.stack, h.reads, by have := h.room; simp only [St.ring, List.length_append, List.length_singleton]; omega⟩
theorem Good.begin {D : WorldD} {s : St} {b : Nat} {n : Str} (h : Good D s (b + 1)) (hn : stAt s.states n = none) (hm : (modAt D.mods n).isSome = true) (hs : s.stack.length < 40) : Good D (s.begin n) (b + 130) := by
  have hnn := stAt_none hn
  have hnd : ((s.begin n).states.map (·.name)).Nodup := by
    simp only [St.begin, List.map_append, List.map_cons, List.map_nil]
    rw [List.nodup_append]
    refine ⟨h.nodup, by simp, fun a ha c hc => ?_⟩
    obtain ⟨t, ht, rfl⟩ := List.mem_map.1 ha
    obtain rfl : c = n := by simpa using hc
    exact hnn t ht
  have hsb : ∀ t ∈ (s.begin n).states, t.name ∈ D.mods.map (·.name) := fun t ht => by
    simp only [St.begin] at ht
    rcases List.mem_append.1 ht with ht | ht
    · exact h.sub t ht
    · obtain rfl : t = ⟨n, 1, 0, 0⟩ := by simpa using ht
      obtain ⟨i, hi⟩ := Option.isSome_iff_exists.1 hm
      obtain ⟨m, hmi, hmn⟩ := modAt_some hi
      exact List.mem_map.2 ⟨m, List.mem_of_getElem? hmi, hmn⟩
  have hlen : (s.begin n).states.length ≤ D.mods.length := by
    have := pigeon ((s.begin n).states.map (·.name)) (D.mods.map (·.name)) hnd (fun x hx => by
      obtain ⟨t, ht, rfl⟩ := List.mem_map.1 hx
      exact hsb t ht)
    simpa using this
  refine ⟨hnd, hsb, fun t ht h1 => ?_, ?_, h.reads, ?_⟩
  · simp only [St.begin] at ht ⊢
    rcases List.mem_append.1 ht with ht | ht
    · exact List.mem_append_left _ (h.load t ht h1)
    · obtain rfl : t = ⟨n, 1, 0, 0⟩ := by simpa using ht
      simp
  · simp only [St.begin, List.length_append, List.length_singleton]; omega
  · have := h.room
    simp only [St.begin, List.length_append, List.length_singleton] at hlen ⊢
    omega

/-- what look leaves, whatever it answers -/
theorem look_ok (D : WorldD) : ∀ (ts : List Str) (s : St) (b : Nat), Good D s b → Good D (look D ts s).2.2 b ∧ (look D ts s).2.2.states = s.states ∧ (look D ts s).2.2.stack = s.stack ∧ (look D ts s).2.2.rings = s.rings ∧ (look D ts s).2.2.thrown = s.thrown ∧
    ((look D ts s).2.1 = 0 → (look D ts s).1 ∈ ts ∧ (stAt s.states (look D ts s).1 = none → (modAt D.mods (look D ts s).1).isSome = true)) ∧ ((look D ts s).2.1 = 0 ∨ (look D ts s).2.1 = 2 ∨ (look D ts s).2.1 = 3)
  | [], s, b, h => by unfold look; exact ⟨h, rfl, rfl, rfl, rfl, by simp, by simp⟩
  | n :: r, s, b, h => by
    unfold look
    by_cases h1 : (stAt s.states n).isSome = true
    · rw [if_pos h1]
      exact ⟨h, rfl, rfl, rfl, rfl, fun _ => ⟨by simp, fun e => by rw [e] at h1; simp at h1⟩, by simp⟩
    · rw [if_neg h1]
      by_cases h2 : s.reads = 400
      · rw [if_pos h2]; exact ⟨h, rfl, rfl, rfl, rfl, by simp, by simp⟩
      · rw [if_neg h2]
        by_cases h3 : (s.reads : Int) ∈ D.faults
        · rw [if_pos h3]; exact ⟨h.readNote h2 _, rfl, rfl, rfl, rfl, by simp, by simp⟩
        · rw [if_neg h3]
          by_cases h4 : (modAt D.mods n).isSome = true
          · rw [if_pos h4]; exact ⟨h.readNote h2 _, rfl, rfl, rfl, rfl, fun _ => ⟨by simp, fun _ => h4⟩, by simp⟩
          · rw [if_neg h4]
            obtain ⟨g1, g2, g3, g4, g5, g6, g7⟩ := look_ok D r (s.read.note ⟨1, n, 2, 0⟩) b (h.readNote h2 _)
            exact ⟨g1, g2, g3, g4, g5, fun e => ⟨List.mem_cons_of_mem _ (g6 e).1, (g6 e).2⟩, g7⟩
theorem find_ok (D : WorldD) (frm name : Str) (s : St) (b : Nat) (h : Good D s b) : Good D (find D frm name s).2.2 b ∧ (find D frm name s).2.2.states = s.states ∧ (find D frm name s).2.2.stack = s.stack ∧ (find D frm name s).2.2.rings = s.rings ∧ (find D frm name s).2.2.thrown = s.thrown ∧
    ((find D frm name s).2.1 = 0 → (find D frm name s).1 ∈ Nm.tries D.roots frm name ∧ (stAt s.states (find D frm name s).1 = none → (modAt D.mods (find D frm name s).1).isSome = true)) ∧ (find D frm name s).2.1 ≠ 6 := by
  unfold find
  split
  · exact ⟨h, rfl, rfl, rfl, rfl, by simp, by simp⟩
  · obtain ⟨g1, g2, g3, g4, g5, g6, g7⟩ := look_ok D (Nm.tries D.roots frm name) s b h
    exact ⟨g1, g2, g3, g4, g5, g6, by rcases g7 with e | e | e <;> rw [e] <;> decide⟩

/-- what an import leaves -/
structure Ext (D : WorldD) (s s' : St) (b : Nat) : Prop where
  good : Good D s' b
  stack : s'.stack = s.stack
  states : ∃ more, s'.states = s.states ++ more ∧ ∀ t ∈ more, t.now ≠ 1
/-- within a body: the module's own place, and what was read behind it -/
structure Mid (D : WorldD) (pre : List StateD) (n : Str) (st : List Str) (s : St) (b : Nat) : Prop where
  good : Good D s b
  stack : s.stack = st
  states : ∃ g more, s.states = pre ++ ⟨n, 1, g, 0⟩ :: more ∧ ∀ t ∈ more, t.now ≠ 1
theorem Mid.less {D : WorldD} {pre : List StateD} {n : Str} {st : List Str} {s : St} {b c : Nat} (h : Mid D pre n st s b) (hc : c ≤ b) : Mid D pre n st s c := ⟨h.good.less hc, h.stack, h.states⟩
theorem Mid.ext {D : WorldD} {pre : List StateD} {n : Str} {st : List Str} {s s' : St} {b c : Nat} (h : Mid D pre n st s b) (e : Ext D s s' c) : Mid D pre n st s' c := by
  obtain ⟨g, more, hs, hm⟩ := h.states
  obtain ⟨more', hs', hm'⟩ := e.states
  refine ⟨e.good, e.stack.trans h.stack, g, more ++ more', by rw [hs', hs]; simp, fun t ht => ?_⟩
  rcases List.mem_append.1 ht with ht | ht
  · exact hm t ht
  · exact hm' t ht
theorem Mid.note {D : WorldD} {pre : List StateD} {n : Str} {st : List Str} {s : St} {b : Nat} (h : Mid D pre n st s (b + 1)) (r : RecD) : Mid D pre n st (s.note r) b := ⟨h.good.note r, h.stack, h.states⟩
theorem set_mid (pre more : List StateD) (t u : StateD) : (pre ++ t :: more).set pre.length u = pre ++ u :: more := by
  rw [List.set_append_right _ _ (Nat.le_refl _)]; simp
theorem Good.put {D : WorldD} {pre more : List StateD} {t u : StateD} {s : St} {b : Nat} (h : Good D s b) (hs : s.states = pre ++ t :: more) (hn : u.name = t.name) (hl : u.now = 1 → t.now = 1) : Good D (s.put pre.length u) b := by
  have e : (s.put pre.length u).states = pre ++ u :: more := by unfold St.put; simp only [hs, set_mid]
  refine ⟨?_, fun x hx => ?_, fun x hx h1 => ?_, h.stack, h.reads, ?_⟩
  · rw [e]
    have := h.nodup
    rw [hs] at this
    simpa [hn] using this
  · rw [e] at hx
    have hsub := h.sub
    rw [hs] at hsub
    rcases List.mem_append.1 hx with hx | hx
    · exact hsub x (List.mem_append_left _ hx)
    · rcases List.mem_cons.1 hx with rfl | hx
      · rw [hn]; exact hsub t (by simp)
      · exact hsub x (by simp [hx])
  · rw [e] at hx
    have hld := h.load
    rw [hs] at hld
    show x.name ∈ s.stack
    rcases List.mem_append.1 hx with hx | hx
    · exact hld x (List.mem_append_left _ hx) h1
    · rcases List.mem_cons.1 hx with rfl | hx
      · rw [hn]; exact hld t (by simp) (hl h1)
      · exact hld x (by simp [hx]) h1
  · have := h.room
    rw [hs] at this
    rw [e]
    simp only [List.length_append, List.length_cons] at this ⊢
    exact this
theorem Mid.give {D : WorldD} {pre : List StateD} {n : Str} {st : List Str} {s : St} {b : Nat} (h : Mid D pre n st s b) (g : Int) : Mid D pre n st (s.give pre.length n g) b := by
  obtain ⟨g0, more, hs, hm⟩ := h.states
  exact ⟨h.good.put hs rfl (fun _ => rfl), h.stack, g, more, by unfold St.give St.put; simp only [hs, set_mid], hm⟩
/-- what the imports of a body keep -/
def GetOk (D : WorldD) (st : List Str) (get : Get) : Prop := ∀ frm name s b, Good D s (b + 1) → s.stack = st → Ext D s (get frm name s).2.2 b
theorem line_ok {D : WorldD} {pre : List StateD} {n : Str} {st : List Str} {get : Get} (hg : GetOk D st get) (l : LineD) {s : St} {b : Nat} (h : Mid D pre n st s (b + 2)) : Mid D pre n st (line get D pre.length n l s).2.2 b := by
  unfold line
  have hx := h.ext (hg n l.name s (b + 1) h.good h.stack)
  split
  · exact (h.less (by omega) : Mid D pre n st s (b + 1)).note _
  · split
    · exact (h.give _).less (by omega)
    · split
      · exact hx.less (by omega)
      · split
        · show Mid D pre n st (if _ then _ else _) b
          split
          · exact hx.note _
          · exact hx.less (by omega)
        · split
          · split
            · exact (h.less (by omega) : Mid D pre n st s (b + 1)).note _
            · exact h.less (by omega)
          · split
            · exact ⟨⟨h.good.nodup, h.good.sub, h.good.load, h.good.stack, h.good.reads, by have := h.good.room; show s.recs.length + s.rings.length + b + 130 * (D.mods.length - s.states.length) + (400 - s.reads) ≤ 9000; omega⟩, h.stack, h.states⟩
            · split
              · exact h.less (by omega)
              · exact h.less (by omega)
theorem lines_ok {D : WorldD} {pre : List StateD} {n : Str} {st : List Str} {get : Get} (hg : GetOk D st get) (ls : List LineD) : ∀ (f i : Nat) (s : St) (b : Nat), Mid D pre n st s (b + 2 * f) → Mid D pre n st (lines get D pre.length n ls f i s).2 b
  | 0, i, s, b, h => h
  | f + 1, i, s, b, h => by
    unfold lines
    split
    · exact h.less (by omega)
    · rename_i l hl
      have h1 := line_ok hg l (b := b + 2 * f) h
      split
      · exact h1.less (by omega)
      · exact lines_ok hg ls f _ _ b h1
theorem fin_ok {D : WorldD} {pre : List StateD} {n : Str} {st : List Str} {s : St} {b : Nat} {c : Int} (h : Mid D pre n (st ++ [n]) s (b + 1)) (_hpre : ∀ t ∈ pre, t.name ≠ n) (hl : ∀ t ∈ pre, t.now = 1 → t.name ∈ st) (hst : st.length ≤ 40) : Good D (fin pre.length n c s) b ∧ (fin pre.length n c s).stack = st ∧ ∃ u more, (fin pre.length n c s).states = pre ++ u :: more ∧ u.name = n ∧ u.now ≠ 1 ∧ ∀ t ∈ more, t.now ≠ 1 := by
  obtain ⟨g, more, hs, hm⟩ := h.states
  have hpop : s.pop.stack = st := by unfold St.pop; simp only [h.stack, List.dropLast_concat]
  have hgood : ∀ u : StateD, u.name = n → u.now ≠ 1 → Good D (s.pop.put pre.length u) (b + 1) := fun u hu hn => by
    have e : (s.pop.put pre.length u).states = pre ++ u :: more := by unfold St.put St.pop; simp only [hs, set_mid]
    have g1 := h.good
    refine ⟨?_, fun x hx => ?_, fun x hx h1 => ?_, ?_, g1.reads, ?_⟩
    · rw [e]; have := g1.nodup; rw [hs] at this; simpa [hu] using this
    · rw [e] at hx
      have hsub := g1.sub
      rw [hs] at hsub
      rcases List.mem_append.1 hx with hx | hx
      · exact hsub x (List.mem_append_left _ hx)
      · rcases List.mem_cons.1 hx with rfl | hx
        · rw [hu]; exact hsub ⟨n, 1, g, 0⟩ (by simp)
        · exact hsub x (by simp [hx])
    · rw [e] at hx
      show x.name ∈ s.pop.stack
      rw [hpop]
      rcases List.mem_append.1 hx with hx | hx
      · exact hl x hx h1
      · rcases List.mem_cons.1 hx with rfl | hx
        · exact absurd h1 hn
        · exact absurd h1 (hm x hx)
    · show s.pop.stack.length ≤ 40
      rw [hpop]; exact hst
    · have := g1.room
      rw [hs] at this
      rw [e]
      simp only [List.length_append, List.length_cons] at this ⊢
      exact this
  have hst2 : ∀ u : StateD, (s.pop.put pre.length u).states = pre ++ u :: more := fun u => by unfold St.put St.pop; simp only [hs, set_mid]
  unfold fin
  split
  · exact ⟨(hgood _ rfl (show (2 : Int) ≠ 1 by decide)).note _, hpop, _, more, hst2 _, rfl, (show (2 : Int) ≠ 1 by decide), hm⟩
  · exact ⟨(hgood _ rfl (show (3 : Int) ≠ 1 by decide)).note _, hpop, _, more, hst2 _, rfl, (show (3 : Int) ≠ 1 by decide), hm⟩
theorem linesOf_len {D : WorldD} (hl : ∀ m ∈ D.mods, m.lines.length ≤ 60) (n : Str) : (linesOf D n).length ≤ 60 := by
  unfold linesOf
  split
  · simp
  · split
    · simp
    · rename_i m hm
      exact hl m (List.mem_of_getElem? hm)
theorem body_ok {D : WorldD} (hl : ∀ m ∈ D.mods, m.lines.length ≤ 60) {get : Get} {n : Str} {s : St} {b : Nat} (h : Good D s (b + 1)) (hn : stAt s.states n = none) (hm : (modAt D.mods n).isSome = true) (hs : s.stack.length < 40) (hg : GetOk D (s.stack ++ [n]) get) : Ext D s (body get D n s).2 b := by
  have hb := h.begin hn hm hs
  have hll := linesOf_len hl n
  have hmid : Mid D s.states n (s.stack ++ [n]) (s.begin n) (b + 1 + 2 * (linesOf D n).length) := ⟨hb.less (by omega), rfl, 0, [], by simp [St.begin], by simp⟩
  have h2 := lines_ok hg (linesOf D n) (linesOf D n).length 0 _ _ hmid
  obtain ⟨g1, g2, u, more, g3, _, g5, g6⟩ := fin_ok (c := (lines get D s.states.length n (linesOf D n) (linesOf D n).length 0 (s.begin n)).1) h2 (stAt_none hn) h.load h.stack
  exact ⟨g1, g2, u :: more, g3, fun t ht => by
    rcases List.mem_cons.1 ht with rfl | ht
    · exact g5
    · exact g6 t ht⟩
theorem Ext.of_find {D : WorldD} {s s1 : St} {b : Nat} (h : Good D s1 b) (h1 : s1.states = s.states) (h2 : s1.stack = s.stack) : Ext D s s1 b := ⟨h, h2, [], by rw [h1]; simp, by simp⟩
theorem Ext.then {D : WorldD} {s s1 s2 : St} {b c : Nat} (h : s1.states = s.states) (hk : s1.stack = s.stack) (e : Ext D s1 s2 c) (_hb : b = b) : Ext D s s2 c := by
  obtain ⟨m, h1, h2⟩ := e.states
  exact ⟨e.good, e.stack.trans hk, m, by rw [h1, h], h2⟩
theorem get_ok {D : WorldD} (hl : ∀ m ∈ D.mods, m.lines.length ≤ 60) : ∀ (f : Nat) (st : List Str), f + st.length = 40 → GetOk D st (get D f)
  | 0, st, hf => fun frm name s b h hs => by
    obtain ⟨f1, f2, f3, _, _, f6, _⟩ := find_ok D frm name s (b + 1) h
    unfold get
    split
    · exact Ext.of_find (f1.less (by omega)) f2 f3
    · show Ext D s (deep _ _).2 b
      unfold deep
      split
      · split
        · exact Ext.then f2 f3 ⟨f1.ring _, rfl, [], by simp [St.ring], by simp⟩ (rfl : b = b)
        · split
          · exact Ext.of_find (f1.less (by omega)) f2 f3
          · exact Ext.of_find (f1.less (by omega)) f2 f3
      · exact Ext.of_find (f1.less (by omega)) f2 f3
  | f + 1, st, hf => fun frm name s b h hs => by
    obtain ⟨f1, f2, f3, _, _, f6, _⟩ := find_ok D frm name s (b + 1) h
    unfold get
    split
    · exact Ext.of_find (f1.less (by omega)) f2 f3
    · rename_i hc
      have hc : (find D frm name s).2.1 = 0 := Classical.not_not.1 hc
      show Ext D s (enter _ _ _ _).2 b
      unfold enter
      split
      · split
        · exact Ext.then f2 f3 ⟨f1.ring _, rfl, [], by simp [St.ring], by simp⟩ (rfl : b = b)
        · split
          · exact Ext.of_find (f1.less (by omega)) f2 f3
          · exact Ext.of_find (f1.less (by omega)) f2 f3
      · rename_i hn
        have hsl : (find D frm name s).2.2.stack.length < 40 := by rw [f3, hs]; omega
        have hmm : (modAt D.mods (find D frm name s).1).isSome = true := (f6 hc).2 (by rw [← f2]; exact hn)
        exact Ext.then f2 f3 (body_ok hl f1 hn hmm hsl (get_ok hl f _ (by rw [f3, hs, List.length_append, List.length_singleton]; omega))) (rfl : b = b)
theorem start_good (D : WorldD) (hm : D.mods.length ≤ 60) : Good D St.start 1 :=
  ⟨by simp [St.start], by simp [St.start], by simp [St.start], by simp [St.start], by simp [St.start], by simp [St.start]; omega⟩
end Ld
end Go.Proofs.YtkhlicmlnjccdaaGreatDoor
