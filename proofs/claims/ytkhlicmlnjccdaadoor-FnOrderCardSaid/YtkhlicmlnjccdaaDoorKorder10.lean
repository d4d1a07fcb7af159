/-
  Plain words on the graph: without a ring, what is imported stands ahead. No program in sight.
-/
import Derived.Test.YtkhlicmlnjccdaaDoorKorder3
namespace Go.Proofs.YtkhlicmlnjccdaaDoor
namespace Gr
def Step (E : List EdgeD) (x y : Nat) : Prop := ∃ e ∈ E, e.src = (x : Int) ∧ e.dst = (y : Int)
/-- in one step or more -/
inductive Leads (E : List EdgeD) : Nat → Nat → Prop
  | one {x y : Nat} : Step E x y → Leads E x y
  | more {x y z : Nat} : Leads E x y → Step E y z → Leads E x z
/-- the search has been through x -/
def Through (E : List EdgeD) (k : Nat) (q : List Nat) (x : Nat) : Prop := ∀ e ∈ E, e.src = (x : Int) → 0 ≤ e.dst → e.dst ≠ (k : Int) ∧ e.dst.toNat ∈ q
theorem scan_through {n k x i : Nat} : ∀ (E : List EdgeD) (s : BS), (∀ e ∈ E, Fit n e) → BOk n k s → s.q[i]? = some x → (scan k x E s).1 = false → (∃ t, (scan k x E s).2.q = s.q ++ t) ∧ Through E k (scan k x E s).2.q x
  | [], s, _, _, _, _ => ⟨⟨[], by simp [scan]⟩, fun e he => by simp at he⟩
  | e :: r, s, hE, h, hi, hf => by
    have hr : ∀ e ∈ r, Fit n e := fun e he => hE e (List.mem_cons_of_mem _ he)
    have hfit := hE e (by simp)
    unfold scan at hf ⊢
    by_cases hc : e.src = (x : Int) ∧ 0 ≤ e.dst
    · rw [if_pos hc] at hf ⊢
      by_cases hk : e.dst = (k : Int)
      · rw [if_pos hk] at hf; simp at hf
      · rw [if_neg hk] at hf ⊢
        by_cases hs : (s.fr e.dst.toNat).isSome = true
        · rw [if_pos hs] at hf ⊢
          obtain ⟨⟨t, ht⟩, h2⟩ := scan_through r s hr h hi hf
          refine ⟨⟨t, ht⟩, fun e' he' h3 h4 => ?_⟩
          rcases List.mem_cons.1 he' with rfl | he'
          · exact ⟨hk, by rw [ht]; exact List.mem_append_left _ ((h.frq _).1 hs).1⟩
          · exact h2 e' he' h3 h4
        · rw [if_neg hs] at hf ⊢
          have hm := h.met (x := e.dst.toNat) (i := i) (p := x) (by have := hfit.dst1; omega) (by omega) (by simpa using hs) hi
          obtain ⟨⟨t, ht⟩, h2⟩ := scan_through r (s.met e.dst.toNat x) hr hm (met_q hi) hf
          have hq : (s.met e.dst.toNat x).q = s.q ++ [e.dst.toNat] := rfl
          refine ⟨⟨e.dst.toNat :: t, by rw [ht, hq]; simp⟩, fun e' he' h3 h4 => ?_⟩
          rcases List.mem_cons.1 he' with rfl | he'
          · exact ⟨hk, by rw [ht, hq]; simp⟩
          · exact h2 e' he' h3 h4
    · rw [if_neg hc] at hf ⊢
      obtain ⟨ht, h2⟩ := scan_through r s hr h hi hf
      refine ⟨ht, fun e' he' h3 h4 => ?_⟩
      rcases List.mem_cons.1 he' with rfl | he'
      · exact absurd ⟨h3, h4⟩ hc
      · exact h2 e' he' h3 h4
theorem bfs_through {n k : Nat} {E : List EdgeD} (hE : ∀ e ∈ E, Fit n e) : ∀ (f i : Nat) (s : BS), BOk n k s → n ≤ f + i → (∀ (j x : Nat), j < i → s.q[j]? = some x → Through E k s.q x) → (bfs k E f i s).1 = none → ∃ q : List Nat, k ∈ q ∧ ∀ x ∈ q, Through E k q x
  | 0, i, s, h, hf, hd, _ => ⟨s.q, List.mem_of_getElem? h.head, fun x hx => by
      obtain ⟨j, hj⟩ := List.getElem?_of_mem hx
      have hjl : j < s.q.length := by
        rcases Nat.lt_or_ge j s.q.length with h | h
        · exact h
        · rw [List.getElem?_eq_none h] at hj; cases hj
      exact hd j x (by have := h.len; omega) hj⟩
  | f + 1, i, s, h, hf, hd, hn => by
    unfold bfs at hn
    cases hq : s.q[i]? with
    | none =>
      refine ⟨s.q, List.mem_of_getElem? h.head, fun x hx => ?_⟩
      obtain ⟨j, hj⟩ := List.getElem?_of_mem hx
      refine hd j x ?_ hj
      rcases Nat.lt_or_ge j i with h1 | h1
      · exact h1
      · have h2 := List.getElem?_eq_none_iff.1 hq
        rw [List.getElem?_eq_none (by omega)] at hj; cases hj
    | some x =>
      rw [hq] at hn
      replace hn : (if (scan k x E s).1 = true then (some x, (scan k x E s).2) else bfs k E f (i + 1) (scan k x E s).2).1 = none := hn
      cases hs : (scan k x E s).1 with
      | true => rw [if_pos hs] at hn; simp at hn
      | false =>
        rw [if_neg (by rw [hs]; simp)] at hn
        have h1 := scan_ok E s hE h hq
        obtain ⟨⟨t, ht⟩, h2⟩ := scan_through E s hE h hq hs
        refine bfs_through hE f (i + 1) _ h1.1 (by omega) (fun j y hj hy => ?_) hn
        rcases Nat.lt_or_ge j i with h3 | h3
        · have hil : i < s.q.length := by
            rcases Nat.lt_or_ge i s.q.length with h | h
            · exact h
            · rw [List.getElem?_eq_none h] at hq; cases hq
          rw [ht, List.getElem?_append_left (by omega)] at hy
          have h4 := hd j y h3 hy
          exact fun e he e1 e2 => ⟨(h4 e he e1 e2).1, by rw [ht]; exact List.mem_append_left _ (h4 e he e1 e2).2⟩
        · obtain rfl : j = i := by omega
          rw [h1.2] at hy
          obtain rfl := Option.some.inj hy
          exact h2
/-- no ring through k: nothing leads from k to k -/
theorem no_ring {n k : Nat} {E : List EdgeD} (hE : ∀ e ∈ E, Fit n e) (hk : k < n) (h : ringOf E n k = []) : ¬ Leads E k k := by
  have hb : (bfs k E n 0 ⟨[k], fun _ => none⟩).1 = none := by
    unfold ringOf at h
    split at h
    · simp at h
    · rename_i s hs
      rw [hs]
  obtain ⟨q, hkq, hq⟩ := bfs_through hE n 0 _ (BOk.start hk) (by omega) (fun j x hj => by omega) hb
  have hall : ∀ {x y : Nat}, Leads E x y → x = k → y ∈ q ∧ y ≠ k := fun {x y} hl => by
    induction hl with
    | one hs =>
      rintro rfl
      obtain ⟨e, he, h1, h2⟩ := hs
      have := hq _ hkq e he h1 (by omega)
      rw [h2] at this
      exact ⟨by simpa using this.2, fun e => this.1 (by rw [e])⟩
    | more _ hs ih =>
      rintro rfl
      obtain ⟨e, he, h1, h2⟩ := hs
      have := hq _ (ih rfl).1 e he h1 (by omega)
      rw [h2] at this
      exact ⟨by simpa using this.2, fun e => this.1 (by rw [e])⟩
  exact fun hl => (hall hl rfl).2 rfl
theorem better_nil {b r : List Nat} (h : better b r = []) : b = [] ∧ r = [] := by
  unfold better at h
  split at h
  · rename_i hc
    exact absurd h hc.1
  · rename_i hc
    subst h
    exact ⟨rfl, Classical.byContradiction fun hr => hc ⟨hr, .inl rfl⟩⟩
theorem bestUp_none {E : List EdgeD} {n : Nat} : ∀ {m : Nat}, bestUp E n m = [] → ∀ k, k < m → ringOf E n k = []
  | 0, _, k, hk => by omega
  | m + 1, h, k, hk => by
    have h1 := better_nil (b := bestUp E n m) (r := ringOf E n m) h
    rcases Nat.lt_or_ge k m with h2 | h2
    · exact bestUp_none h1.1 k h2
    · obtain rfl : k = m := by omega
      exact h1.2
/-- what is led to stands ahead -/
structure Topo (E : List EdgeD) (s : VS) : Prop where
  nodup : s.out.Nodup
  sub : ∀ x ∈ s.out, x ∈ s.seen
  ahead : ∀ (a x : Nat), s.out[a]? = some x → ∀ e ∈ E, e.src = (x : Int) → 0 ≤ e.dst → ∃ b, b < a ∧ s.out[b]? = some e.dst.toNat
/-- what a visit adds -/
structure Adds (s s' : VS) : Prop where
  out : ∃ t, s'.out = s.out ++ t ∧ ∀ x ∈ t, x ∉ s.seen
  seen : ∀ x ∈ s'.seen, x ∈ s'.out ∨ x ∈ s.seen
  sub : ∀ x ∈ s.seen, x ∈ s'.seen
theorem Adds.refl (s : VS) : Adds s s := ⟨⟨[], by simp, by simp⟩, fun x hx => .inr hx, fun x hx => hx⟩
theorem Adds.then {a b c : VS} (h : Adds a b) (k : Adds b c) : Adds a c := by
  obtain ⟨t, ht, htn⟩ := h.out
  obtain ⟨u, hu, hun⟩ := k.out
  refine ⟨⟨t ++ u, by rw [hu, ht]; simp, fun x hx => ?_⟩, fun x hx => ?_, fun x hx => k.sub x (h.sub x hx)⟩
  · rcases List.mem_append.1 hx with hx | hx
    · exact htn x hx
    · exact fun e => hun x hx (h.sub x e)
  · rcases k.seen x hx with h1 | h1
    · exact .inl h1
    · rcases h.seen x h1 with h2 | h2
      · exact .inl (by rw [hu]; exact List.mem_append_left _ h2)
      · exact .inr h2
def Gray (E : List EdgeD) (k : Nat) (s : VS) : Prop := ∀ x ∈ s.seen, x ∈ s.out ∨ Leads E x k
def VTopo (E : List EdgeD) (n f : Nat) (v : Nat → VS → VS) : Prop := ∀ k s, k < n → VOk n s → n < s.seen.length + f → Topo E s → Gray E k s → Topo E (v k s) ∧ Adds s (v k s) ∧ k ∈ (v k s).out ∧ VOk n (v k s)
theorem over_topo {E : List EdgeD} {n f : Nat} {v : Nat → VS → VS} (hE : ∀ e ∈ E, Fit n e) (hac : ∀ k, k < n → ¬ Leads E k k) (hv : VTopo E n f v) {k : Nat} (hk : k < n) : ∀ (r : List EdgeD) (s : VS), (∀ e ∈ r, e ∈ E) → VOk n s → n < s.seen.length + f → Topo E s → (∀ x ∈ s.seen, x ∈ s.out ∨ x = k ∨ Leads E x k) →
    Topo E (over v k r s) ∧ Adds s (over v k r s) ∧ (∀ e ∈ r, e.src = (k : Int) → 0 ≤ e.dst → e.dst.toNat ∈ (over v k r s).out) ∧ VOk n (over v k r s)
  | [], s, _, ho, _, ht, _ => ⟨ht, Adds.refl s, fun e he => by simp at he, ho⟩
  | e :: r, s, hr, ho, hf, ht, hg => by
    have hr' : ∀ e ∈ r, e ∈ E := fun e he => hr e (List.mem_cons_of_mem _ he)
    have he := hr e (by simp)
    unfold over
    by_cases hc : e.src = (k : Int) ∧ 0 ≤ e.dst
    · rw [if_pos hc]
      have hst : Step E k e.dst.toNat := ⟨e, he, hc.1, by omega⟩
      obtain ⟨t1, a1, m1, o1⟩ := hv e.dst.toNat s (by have := (hE e he).dst1; omega) ho hf ht (fun x hx => by
        rcases hg x hx with h | h | h
        · exact .inl h
        · exact .inr (h ▸ Leads.one hst)
        · exact .inr (Leads.more h hst))
      have hlen : s.seen.length ≤ (v e.dst.toNat s).seen.length := Ld.pigeon _ _ ho.nodup a1.sub
      obtain ⟨t2, a2, m2, o2⟩ := over_topo hE hac hv hk r _ hr' o1 (by omega) t1 (fun x hx => by
        rcases a1.seen x hx with h | h
        · exact .inl h
        · rcases hg x h with h | h
          · obtain ⟨t, ht, _⟩ := a1.out
            exact .inl (by rw [ht]; exact List.mem_append_left _ h)
          · exact .inr h)
      refine ⟨t2, a1.then a2, fun e' he' h1 h2 => ?_, o2⟩
      rcases List.mem_cons.1 he' with rfl | he'
      · obtain ⟨t, ht, _⟩ := a2.out
        rw [ht]; exact List.mem_append_left _ m1
      · exact m2 e' he' h1 h2
    · rw [if_neg hc]
      obtain ⟨t2, a2, m2, o2⟩ := over_topo hE hac hv hk r s hr' ho hf ht hg
      refine ⟨t2, a2, fun e' he' h1 h2 => ?_, o2⟩
      rcases List.mem_cons.1 he' with rfl | he'
      · exact absurd ⟨h1, h2⟩ hc
      · exact m2 e' he' h1 h2
theorem visit_topo {E : List EdgeD} {n : Nat} (hE : ∀ e ∈ E, Fit n e) (hac : ∀ k, k < n → ¬ Leads E k k) : ∀ f, VTopo E n f (visit E f)
  | 0 => fun k s hk ho hf ht hg => by have := ho.len; omega
  | f + 1 => fun k s hk ho hf ht hg => by
    by_cases hs : k ∈ s.seen
    · rw [visit_seen hs]
      refine ⟨ht, Adds.refl s, ?_, ho⟩
      rcases hg k hs with h | h
      · exact h
      · exact absurd h (hac k hk)
    · rw [visit_new hs]
      have hm := ho.mark hk hs
      have hko : k ∉ s.out := fun h => hs (ht.sub k h)
      have htm : Topo E (s.mark k) := ⟨ht.nodup, fun x hx => List.mem_cons_of_mem _ (ht.sub x hx), ht.ahead⟩
      obtain ⟨t1, a1, m1, o1⟩ := over_topo hE hac (visit_topo hE hac f) hk E (s.mark k) (fun e he => he) hm (by simp only [VS.mark, List.length_cons]; omega) htm (fun x hx => by
        rcases List.mem_cons.1 (show x ∈ k :: s.seen from hx) with h | h
        · exact .inr (.inl h)
        · rcases hg x h with h | h
          · exact .inl h
          · exact .inr (.inr h))
      generalize over (visit E f) k E (s.mark k) = s1 at t1 a1 m1 o1
      obtain ⟨t, hto, htn⟩ := a1.out
      have hk1 : k ∉ s1.out := fun h => by
        rw [hto] at h
        rcases List.mem_append.1 h with h | h
        · exact hko h
        · exact htn k h (by simp [VS.mark])
      have hks : k ∈ s1.seen := a1.sub k (by simp [VS.mark])
      refine ⟨⟨?_, fun x hx => ?_, fun a x ha e he h1 h2 => ?_⟩, ⟨⟨t ++ [k], ?_, fun x hx => ?_⟩, fun x hx => ?_, fun x hx => ?_⟩, ?_, ⟨o1.nodup, o1.lt⟩⟩
      · show (s1.out ++ [k]).Nodup
        rw [List.nodup_append]
        exact ⟨t1.nodup, by simp, fun x hx y hy e => by
          obtain rfl : y = k := by simpa using hy
          exact hk1 (e ▸ hx)⟩
      · rcases List.mem_append.1 (show x ∈ s1.out ++ [k] from hx) with hx | hx
        · exact t1.sub x hx
        · obtain rfl : x = k := by simpa using hx
          exact hks
      · have ha : (s1.out ++ [k])[a]? = some x := ha
        show ∃ b, b < a ∧ (s1.out ++ [k])[b]? = some e.dst.toNat
        rcases Nat.lt_or_ge a s1.out.length with hl | hl
        · rw [List.getElem?_append_left hl] at ha
          obtain ⟨b, hb, hb2⟩ := t1.ahead a x ha e he h1 h2
          exact ⟨b, hb, by rw [List.getElem?_append_left (by omega)]; exact hb2⟩
        · rw [List.getElem?_append_right hl] at ha
          obtain rfl : x = k := by simpa using List.mem_of_getElem? ha
          obtain ⟨b, hb⟩ := List.getElem?_of_mem (m1 e he h1 h2)
          have hbl : b < s1.out.length := by
            rcases Nat.lt_or_ge b s1.out.length with h | h
            · exact h
            · rw [List.getElem?_eq_none h] at hb; cases hb
          exact ⟨b, by omega, by rw [List.getElem?_append_left hbl]; exact hb⟩
      · show s1.out ++ [k] = s.out ++ (t ++ [k])
        rw [hto]; show (s.out ++ t) ++ [k] = _; simp
      · rcases List.mem_append.1 hx with hx | hx
        · exact fun h => htn x hx (List.mem_cons_of_mem _ h)
        · obtain rfl : x = k := by simpa using hx
          exact hs
      · show x ∈ s1.out ++ [k] ∨ x ∈ s.seen
        rcases a1.seen x hx with h | h
        · exact .inl (List.mem_append_left _ h)
        · rcases List.mem_cons.1 (show x ∈ k :: s.seen from h) with rfl | h
          · exact .inl (by simp)
          · exact .inr h
      · exact a1.sub x (List.mem_cons_of_mem _ hx)
      · show k ∈ s1.out ++ [k]
        simp
theorem nameAt_inj {D : WorldD} (h : (Wd.worldOk D).1 = 0) {i j : Nat} (hi : i < D.mods.length) (hj : j < D.mods.length) (he : nameAt D i = nameAt D j) : i = j := by
  unfold nameAt at he
  rw [List.getElem?_eq_getElem hi, List.getElem?_eq_getElem hj] at he
  exact (Wd.wok_of h).uniq i j _ _ (List.getElem?_eq_getElem hi) (List.getElem?_eq_getElem hj) he
/-- without a ring: what is imported stands ahead, each once -/
theorem order_ahead (D : WorldD) (name : Str) (hr : shortest D = []) : (order D name).Nodup ∧ ∀ e ∈ edges D, 0 ≤ e.dst → ∀ a : Nat, (order D name)[a]? = some (nameAt D e.src.toNat) → ∃ b, b ≤ a ∧ (order D name)[b]? = some (nameAt D e.dst.toNat) := by
  unfold order
  split
  · exact ⟨List.nodup_nil, fun e _ _ a ha => by simp at ha⟩
  · rename_i h0
    have h0 : (Wd.worldOk D).1 = 0 := Classical.not_not.1 h0
    split
    · exact ⟨List.nodup_nil, fun e _ _ a ha => by simp at ha⟩
    · rename_i k hk
      have hE : ∀ e ∈ edges D, Fit D.mods.length e := fun e he => edges_fit he
      have hb : bestUp (edges D) D.mods.length D.mods.length = [] := by
        unfold shortest at hr
        exact List.map_eq_nil_iff.1 hr
      have hac : ∀ k, k < D.mods.length → ¬ Leads (edges D) k k := fun k hk => no_ring hE hk (bestUp_none hb k hk)
      have hkl := toOf_lt hk
      have ho0 : VOk D.mods.length ⟨[], []⟩ := ⟨List.nodup_nil, fun x hx => by simp at hx⟩
      obtain ⟨t1, _, _, o1⟩ := visit_topo hE hac (D.mods.length + 1) k ⟨[], []⟩ hkl ho0 (by simp) ⟨List.nodup_nil, fun x hx => by simp at hx, fun a x ha => by simp at ha⟩ (fun x hx => by simp at hx)
      generalize visit (edges D) (D.mods.length + 1) k ⟨[], []⟩ = s at t1 o1
      have hlt : ∀ x ∈ s.out, x < D.mods.length := fun x hx => o1.lt x (t1.sub x hx)
      refine ⟨?_, fun e he hd a ha => ?_⟩
      · exact List.Pairwise.map _ (fun _ _ h => h) (List.Pairwise.imp_of_mem (fun {x y} hx hy h e => h (nameAt_inj h0 (hlt x hx) (hlt y hy) e)) t1.nodup)
      · rw [List.getElem?_map] at ha
        cases hx : s.out[a]? with
        | none => rw [hx] at ha; cases ha
        | some x =>
          rw [hx] at ha
          have hxn : nameAt D x = nameAt D e.src.toNat := Option.some.inj ha
          have hf := hE e he
          have hxs := nameAt_inj h0 (hlt x (List.mem_of_getElem? hx)) (by have := hf.src1; have := hf.src0; omega) hxn
          obtain ⟨b, hb, hb2⟩ := t1.ahead a x hx e he (by have := hf.src0; omega) hd
          exact ⟨b, by omega, by rw [List.getElem?_map, hb2]; rfl⟩
end Gr
end Go.Proofs.YtkhlicmlnjccdaaDoor
