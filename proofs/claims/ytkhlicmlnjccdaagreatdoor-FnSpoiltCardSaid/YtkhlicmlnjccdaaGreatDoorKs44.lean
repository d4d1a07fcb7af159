/-
  Plain words on the graph of imports: edges, a walk behind what is led to, rings. No program in sight.
-/
import Derived.Test.YtkhlicmlnjccdaaGreatDoorKs6
import Derived.Test.YtkhlicmlnjccdaaGreatDoorKs5
namespace Go.Proofs.YtkhlicmlnjccdaaGreatDoor
namespace Gr
open Ld (modAt)
/-- the first of the tries that is there at all -/
def toOf (D : WorldD) : List Str → Option Nat
  | [] => none
  | n :: r => match modAt D.mods n with
    | some i => some i
    | none => toOf D r
def to (D : WorldD) (frm name : Str) : Option Nat := toOf D (Nm.tries D.roots frm name)
theorem toOf_some {D : WorldD} {n : Str} {r : List Str} {i : Nat} (h : modAt D.mods n = some i) : toOf D (n :: r) = some i := by unfold toOf; rw [h]
theorem toOf_none {D : WorldD} {n : Str} {r : List Str} (h : modAt D.mods n = none) : toOf D (n :: r) = toOf D r := by conv => lhs; unfold toOf; rw [h]
theorem modAt_lt {l : List ModD} {n : Str} {i : Nat} (h : modAt l n = some i) : i < l.length := by
  obtain ⟨t, ht, _⟩ := Ld.modAt_some h
  rcases Nat.lt_or_ge i l.length with h | h
  · exact h
  · rw [List.getElem?_eq_none h] at ht; simp at ht
theorem toOf_lt {D : WorldD} : ∀ {ts : List Str} {i : Nat}, toOf D ts = some i → i < D.mods.length
  | [], _, h => by simp [toOf] at h
  | n :: r, i, h => by
    unfold toOf at h
    cases hm : modAt D.mods n with
    | some j => rw [hm] at h; obtain rfl := Option.some.inj h; exact modAt_lt hm
    | none => rw [hm] at h; exact toOf_lt h
def edge1 (D : WorldD) (i : Nat) (m : ModD) (k : Nat) (l : LineD) : List EdgeD := if l.op = 3 ∨ l.op = 4 then [⟨i, k, idxI (to D m.name l.name)⟩] else []
def edgesIn (D : WorldD) (i : Nat) (m : ModD) : Nat → List EdgeD
  | 0 => []
  | k + 1 => edgesIn D i m k ++ (match m.lines[k]? with
    | some l => edge1 D i m k l
    | none => [])
def edgesUp (D : WorldD) : Nat → List EdgeD
  | 0 => []
  | i + 1 => edgesUp D i ++ (match D.mods[i]? with
    | some m => edgesIn D i m m.lines.length
    | none => [])
def edges (D : WorldD) : List EdgeD := if (Wd.worldOk D).1 ≠ 0 then [] else edgesUp D D.mods.length
theorem edgesIn_at {D : WorldD} {i : Nat} {m : ModD} {k : Nat} {l : LineD} (h : m.lines[k]? = some l) : edgesIn D i m (k + 1) = edgesIn D i m k ++ edge1 D i m k l := by
  show _ ++ (match m.lines[k]? with | some l => edge1 D i m k l | none => []) = _
  rw [h]
theorem edgesUp_at {D : WorldD} {i : Nat} {m : ModD} (h : D.mods[i]? = some m) : edgesUp D (i + 1) = edgesUp D i ++ edgesIn D i m m.lines.length := by
  show _ ++ (match D.mods[i]? with | some m => edgesIn D i m m.lines.length | none => []) = _
  rw [h]
theorem edge1_len (D : WorldD) (i : Nat) (m : ModD) (k : Nat) (l : LineD) : (edge1 D i m k l).length ≤ 1 := by unfold edge1; split <;> simp
theorem edgesIn_len (D : WorldD) (i : Nat) (m : ModD) : ∀ k, (edgesIn D i m k).length ≤ k
  | 0 => by simp [edgesIn]
  | k + 1 => by
    have ih := edgesIn_len D i m k
    unfold edgesIn
    rw [List.length_append]
    split
    · rename_i l _
      have := edge1_len D i m k l
      omega
    · simp; omega
theorem edgesUp_len {D : WorldD} (hl : ∀ m ∈ D.mods, m.lines.length ≤ 60) : ∀ i, (edgesUp D i).length ≤ 60 * i
  | 0 => by simp [edgesUp]
  | i + 1 => by
    have ih := edgesUp_len hl i
    unfold edgesUp
    rw [List.length_append]
    split
    · rename_i m hm
      have := edgesIn_len D i m m.lines.length
      have := hl m (List.mem_of_getElem? hm)
      omega
    · simp; omega
structure Fit (n : Nat) (e : EdgeD) : Prop where
  src0 : 0 ≤ e.src
  src1 : e.src < n
  dst0 : -1 ≤ e.dst
  dst1 : e.dst < n
theorem edge1_fit {D : WorldD} {i : Nat} {m : ModD} {k : Nat} {l : LineD} {e : EdgeD} (hi : i < D.mods.length) (h : e ∈ edge1 D i m k l) : Fit D.mods.length e := by
  unfold edge1 at h
  split at h
  · obtain rfl : e = _ := by simpa using h
    refine ⟨by simp, by simp; omega, ?_, ?_⟩
    · cases to D m.name l.name <;> simp [idxI]
    · cases ht : to D m.name l.name with
      | none => simp [idxI]; omega
      | some j => have := toOf_lt ht; simp [idxI]; omega
  · simp at h
theorem edgesIn_fit {D : WorldD} {i : Nat} {m : ModD} {e : EdgeD} (hi : i < D.mods.length) : ∀ {k : Nat}, e ∈ edgesIn D i m k → Fit D.mods.length e
  | 0, h => by simp [edgesIn] at h
  | k + 1, h => by
    unfold edgesIn at h
    rcases List.mem_append.1 h with h | h
    · exact edgesIn_fit hi h
    · split at h
      · exact edge1_fit hi h
      · simp at h
theorem edgesUp_fit {D : WorldD} {e : EdgeD} : ∀ {i : Nat}, e ∈ edgesUp D i → Fit D.mods.length e
  | 0, h => by simp [edgesUp] at h
  | i + 1, h => by
    unfold edgesUp at h
    rcases List.mem_append.1 h with h | h
    · exact edgesUp_fit h
    · split at h
      · rename_i m hm
        refine edgesIn_fit ?_ h
        rcases Nat.lt_or_ge i D.mods.length with h | h
        · exact h
        · rw [List.getElem?_eq_none h] at hm; simp at hm
      · simp at h
theorem edges_fit {D : WorldD} {e : EdgeD} (h : e ∈ edges D) : Fit D.mods.length e := by
  unfold edges at h
  split at h
  · simp at h
  · exact edgesUp_fit h
theorem edges_len {D : WorldD} : (edges D).length ≤ 3600 := by
  unfold edges
  split
  · simp
  · rename_i h
    have hw := Wd.wok_of (Classical.not_not.1 h)
    have := edgesUp_len hw.lines D.mods.length
    have := hw.mods
    omega
theorem edges_bad {D : WorldD} (h : (Wd.worldOk D).1 ≠ 0) : edges D = [] := if_pos h
theorem edges_ok {D : WorldD} (h : (Wd.worldOk D).1 = 0) : edges D = edgesUp D D.mods.length := if_neg (fun e => e h)

/-- modules met and put -/
structure VS where
  seen : List Nat
  out : List Nat
def VS.mark (s : VS) (k : Nat) : VS := { s with seen := k :: s.seen }
def VS.put (s : VS) (k : Nat) : VS := { s with out := s.out ++ [k] }
def over (visit : Nat → VS → VS) (k : Nat) : List EdgeD → VS → VS
  | [], s => s
  | e :: r, s => over visit k r (if e.src = k ∧ 0 ≤ e.dst then visit e.dst.toNat s else s)
def visit (E : List EdgeD) : Nat → Nat → VS → VS
  | 0, _, s => s
  | f + 1, k, s => if k ∈ s.seen then s else (over (visit E f) k E (s.mark k)).put k
theorem visit_seen {E : List EdgeD} {f k : Nat} {s : VS} (h : k ∈ s.seen) : visit E f k s = s := by
  cases f with
  | zero => rfl
  | succ f => exact if_pos h
theorem visit_new {E : List EdgeD} {f k : Nat} {s : VS} (h : k ∉ s.seen) : visit E (f + 1) k s = (over (visit E f) k E (s.mark k)).put k := if_neg h
theorem over_drop {v : Nat → VS → VS} {k : Nat} {E : List EdgeD} {i : Nat} {s : VS} {e : EdgeD} (h : E[i]? = some e) : over v k (E.drop i) s = over v k (E.drop (i + 1)) (if e.src = k ∧ 0 ≤ e.dst then v e.dst.toNat s else s) := by
  have hi : i < E.length := by
    rcases Nat.lt_or_ge i E.length with h1 | h1
    · exact h1
    · rw [List.getElem?_eq_none h1] at h; simp at h
  rw [List.drop_eq_getElem_cons hi]
  rw [List.getElem?_eq_getElem hi] at h
  rw [Option.some.inj h]; rfl
structure VOk (n : Nat) (s : VS) : Prop where
  nodup : s.seen.Nodup
  lt : ∀ x ∈ s.seen, x < n
theorem VOk.len {n : Nat} {s : VS} (h : VOk n s) : s.seen.length ≤ n := by
  have := Ld.pigeon s.seen (List.range n) h.nodup (fun x hx => List.mem_range.2 (h.lt x hx))
  simpa using this
theorem VOk.mark {n : Nat} {s : VS} (h : VOk n s) {k : Nat} (hk : k < n) (hs : k ∉ s.seen) : VOk n (s.mark k) :=
  ⟨List.nodup_cons.2 ⟨hs, h.nodup⟩, fun x hx => by
    rcases List.mem_cons.1 hx with rfl | hx
    · exact hk
    · exact h.lt x hx⟩
/-- what a visit keeps -/
structure VTo (n : Nat) (s s' : VS) : Prop where
  ok : VOk n s'
  bal : s'.out.length + s.seen.length = s.out.length + s'.seen.length
  grow : s.seen.length ≤ s'.seen.length
  lt : (∀ x ∈ s.out, x < n) → ∀ x ∈ s'.out, x < n
theorem VTo.refl {n : Nat} {s : VS} (h : VOk n s) : VTo n s s := ⟨h, rfl, Nat.le_refl _, fun h => h⟩
theorem VTo.then {n : Nat} {a b c : VS} (h : VTo n a b) (k : VTo n b c) : VTo n a c := ⟨k.ok, by have := h.bal; have := k.bal; omega, Nat.le_trans h.grow k.grow, fun x => k.lt (h.lt x)⟩
theorem over_to {n : Nat} {v : Nat → VS → VS} (hv : ∀ k s, k < n → VOk n s → VTo n s (v k s)) (k : Nat) : ∀ (E : List EdgeD) (s : VS), (∀ e ∈ E, Fit n e) → VOk n s → VTo n s (over v k E s)
  | [], s, _, h => VTo.refl h
  | e :: r, s, hE, h => by
    unfold over
    have hr : ∀ e ∈ r, Fit n e := fun e he => hE e (List.mem_cons_of_mem _ he)
    split
    · rename_i hc
      have hf := hE e (by simp)
      have h1 := hv e.dst.toNat s (by have := hf.dst1; omega) h
      exact h1.then (over_to hv k r _ hr h1.ok)
    · exact over_to hv k r s hr h
theorem visit_to {n : Nat} {E : List EdgeD} (hE : ∀ e ∈ E, Fit n e) : ∀ (f k : Nat) (s : VS), k < n → VOk n s → VTo n s (visit E f k s)
  | 0, k, s, _, h => VTo.refl h
  | f + 1, k, s, hk, h => by
    unfold visit
    split
    · exact VTo.refl h
    · rename_i hn
      have h1 := over_to (visit_to hE f) k E (s.mark k) hE (h.mark hk hn)
      refine ⟨⟨h1.ok.nodup, h1.ok.lt⟩, ?_, ?_, fun hx x hm => ?_⟩
      · have := h1.bal
        simp only [VS.put, VS.mark, List.length_append, List.length_cons, List.length_nil] at this ⊢
        omega
      · have := h1.grow
        simp only [VS.put, VS.mark, List.length_cons] at this ⊢
        omega
      · simp only [VS.put] at hm
        rcases List.mem_append.1 hm with hm | hm
        · exact h1.lt hx x hm
        · obtain rfl : x = k := by simpa using hm
          exact hk
def nameAt (D : WorldD) (i : Nat) : Str := match D.mods[i]? with
  | some m => m.name
  | none => ⟨#[]⟩
def order (D : WorldD) (name : Str) : List Str :=
  if (Wd.worldOk D).1 ≠ 0 then [] else
    match to D Ld.mainName name with
    | none => []
    | some k => (visit (edges D) (D.mods.length + 1) k ⟨[], []⟩).out.map (nameAt D)

/-- a search: what was met, in order, and from where -/
structure BS where
  q : List Nat
  fr : Nat → Option Nat
def BS.met (s : BS) (x p : Nat) : BS := ⟨s.q ++ [x], fun y => if y = x then some p else s.fr y⟩
/-- the edges of x: whether one leads back to k -/
def scan (k x : Nat) : List EdgeD → BS → Bool × BS
  | [], s => (false, s)
  | e :: r, s => if e.src = x ∧ 0 ≤ e.dst then (if e.dst = k then (true, s) else scan k x r (if (s.fr e.dst.toNat).isSome = true then s else s.met e.dst.toNat x)) else scan k x r s
def bfs (k : Nat) (E : List EdgeD) : Nat → Nat → BS → Option Nat × BS
  | 0, _, s => (none, s)
  | f + 1, i, s => match s.q[i]? with
    | none => (none, s)
    | some x => if (scan k x E s).1 = true then (some x, (scan k x E s).2) else bfs k E f (i + 1) (scan k x E s).2
def back (fr : Nat → Option Nat) (k : Nat) : Nat → Nat → List Nat
  | 0, _ => []
  | f + 1, x => if x = k then [] else x :: (match fr x with
    | some p => back fr k f p
    | none => [])
def ringOf (E : List EdgeD) (n k : Nat) : List Nat := match bfs k E n 0 ⟨[k], fun _ => none⟩ with
  | (some x, s) => k :: (back s.fr k n x).reverse
  | (none, _) => []
def better (b r : List Nat) : List Nat := if r ≠ [] ∧ (b = [] ∨ r.length < b.length) then r else b
def bestUp (E : List EdgeD) (n : Nat) : Nat → List Nat
  | 0 => []
  | k + 1 => better (bestUp E n k) (ringOf E n k)
def shortest (D : WorldD) : List Str := (bestUp (edges D) D.mods.length D.mods.length).map (nameAt D)
structure BOk (n k : Nat) (s : BS) : Prop where
  nodup : s.q.Nodup
  lt : ∀ x ∈ s.q, x < n
  head : s.q[0]? = some k
  frq : ∀ x, (s.fr x).isSome = true ↔ x ∈ s.q ∧ x ≠ k
  prev : ∀ (j x : Nat), 0 < j → s.q[j]? = some x → ∃ i p, i < j ∧ s.q[i]? = some p ∧ s.fr x = some p
theorem BOk.start {n k : Nat} (hk : k < n) : BOk n k ⟨[k], fun _ => none⟩ :=
  ⟨by simp, fun x hx => by obtain rfl : x = k := by simpa using hx
                           exact hk, rfl, fun x => by simp, fun j x hj h => by
    rcases j with _ | j
    · omega
    · simp at h⟩
theorem BOk.len {n k : Nat} {s : BS} (h : BOk n k s) : s.q.length ≤ n := by
  have := Ld.pigeon s.q (List.range n) h.nodup (fun x hx => List.mem_range.2 (h.lt x hx))
  simpa using this
theorem BOk.met {n k : Nat} {s : BS} (h : BOk n k s) {x i p : Nat} (hx : x < n) (hk : x ≠ k) (hf : (s.fr x).isSome = false) (hi : s.q[i]? = some p) : BOk n k (s.met x p) := by
  have hil : i < s.q.length := by
    rcases Nat.lt_or_ge i s.q.length with h1 | h1
    · exact h1
    · rw [List.getElem?_eq_none h1] at hi; simp at hi
  have hxq : x ∉ s.q := fun hm => by
    have := (h.frq x).2 ⟨hm, hk⟩
    rw [hf] at this; simp at this
  have hpos : 0 < s.q.length := by omega
  refine ⟨?_, fun y hy => ?_, ?_, fun y => ?_, fun j y hj hy => ?_⟩
  · show (s.q ++ [x]).Nodup
    rw [List.nodup_append]
    refine ⟨h.nodup, by simp, fun a ha b hb e => ?_⟩
    obtain rfl : b = x := by simpa using hb
    exact hxq (e ▸ ha)
  · rcases List.mem_append.1 hy with hy | hy
    · exact h.lt y hy
    · obtain rfl : y = x := by simpa using hy
      exact hx
  · show (s.q ++ [x])[0]? = _
    rw [List.getElem?_append_left hpos]; exact h.head
  · show (if y = x then some p else s.fr y).isSome = true ↔ y ∈ s.q ++ [x] ∧ y ≠ k
    by_cases hy : y = x
    · subst hy; simp [hk]
    · rw [if_neg hy, h.frq y]; simp [hy]
  · have hy' : (s.q ++ [x])[j]? = some y := hy
    show ∃ i' p', i' < j ∧ (s.q ++ [x])[i']? = some p' ∧ (if y = x then some p else s.fr y) = some p'
    rcases Nat.lt_or_ge j s.q.length with hjl | hjl
    · rw [List.getElem?_append_left hjl] at hy'
      obtain ⟨i', p', h1, h2, h3⟩ := h.prev j y hj hy'
      refine ⟨i', p', h1, by rw [List.getElem?_append_left (by omega)]; exact h2, ?_⟩
      rw [if_neg (fun e : y = x => hxq (e ▸ List.mem_of_getElem? hy'))]; exact h3
    · rw [List.getElem?_append_right hjl] at hy'
      have hj0 : j - s.q.length = 0 := by
        rcases Nat.lt_or_ge (j - s.q.length) 1 with h1 | h1
        · omega
        · rw [List.getElem?_eq_none (by simpa using h1)] at hy'; simp at hy'
      rw [hj0] at hy'
      obtain rfl : x = y := by simpa using hy'
      exact ⟨i, p, by omega, by rw [List.getElem?_append_left hil]; exact hi, by rw [if_pos rfl]⟩
theorem met_q {s : BS} {x p i y : Nat} (h : s.q[i]? = some y) : (s.met x p).q[i]? = some y := by
  have hil : i < s.q.length := by
    rcases Nat.lt_or_ge i s.q.length with h1 | h1
    · exact h1
    · rw [List.getElem?_eq_none h1] at h; simp at h
  show (s.q ++ [x])[i]? = _
  rw [List.getElem?_append_left hil]; exact h
theorem scan_drop {k x : Nat} {E : List EdgeD} {i : Nat} {s : BS} {e : EdgeD} (h : E[i]? = some e) : scan k x (E.drop i) s = if e.src = x ∧ 0 ≤ e.dst then (if e.dst = k then (true, s) else scan k x (E.drop (i + 1)) (if (s.fr e.dst.toNat).isSome = true then s else s.met e.dst.toNat x)) else scan k x (E.drop (i + 1)) s := by
  have hi : i < E.length := by
    rcases Nat.lt_or_ge i E.length with h1 | h1
    · exact h1
    · rw [List.getElem?_eq_none h1] at h; simp at h
  rw [List.drop_eq_getElem_cons hi]
  rw [List.getElem?_eq_getElem hi] at h
  rw [Option.some.inj h]; rfl
theorem bfs_step {k : Nat} {E : List EdgeD} {f i x : Nat} {s : BS} (h : s.q[i]? = some x) : bfs k E (f + 1) i s = if (scan k x E s).1 = true then (some x, (scan k x E s).2) else bfs k E f (i + 1) (scan k x E s).2 := by
  conv => lhs; unfold bfs
  rw [h]
theorem bfs_end {k : Nat} {E : List EdgeD} {f i : Nat} {s : BS} (h : s.q.length ≤ i) : bfs k E f i s = (none, s) := by
  cases f with
  | zero => rfl
  | succ f => unfold bfs; rw [List.getElem?_eq_none h]
/-- the way back from x to k -/
inductive Way (fr : Nat → Option Nat) (k : Nat) : Nat → List Nat → Prop
  | stop : Way fr k k []
  | go {x p : Nat} {l : List Nat} : x ≠ k → fr x = some p → Way fr k p l → Way fr k x (x :: l)
theorem way_back {fr : Nat → Option Nat} {k : Nat} {x : Nat} {l : List Nat} (h : Way fr k x l) : ∀ f, l.length < f → back fr k f x = l := by
  induction h with
  | stop => intro f hf; cases f with
    | zero => omega
    | succ f => exact if_pos rfl
  | go hx hp _ ih =>
    intro f hf
    cases f with
    | zero => omega
    | succ f =>
      have := ih f (by simp at hf; omega)
      unfold back
      rw [if_neg hx, hp]
      simp only [this]
theorem BOk.way {n k : Nat} {s : BS} (h : BOk n k s) : ∀ (j x : Nat), s.q[j]? = some x → ∃ l, Way s.fr k x l ∧ l.length ≤ j ∧ ∀ y ∈ l, y < n := by
  intro j
  induction j using Nat.strongRecOn with
  | _ j ih =>
    intro x hx
    by_cases hk : x = k
    · subst hk; exact ⟨[], .stop, Nat.zero_le _, by simp⟩
    · have hj : 0 < j := by
        rcases Nat.eq_zero_or_pos j with h0 | h0
        · subst h0; rw [h.head] at hx; exact absurd (Option.some.inj hx).symm hk
        · exact h0
      obtain ⟨i, p, hi, hp, hf⟩ := h.prev j x hj hx
      obtain ⟨l, hl, hll, hln⟩ := ih i hi p hp
      exact ⟨x :: l, .go hk hf hl, by simp; omega, fun y hy => by
        rcases List.mem_cons.1 hy with rfl | hy
        · exact h.lt _ (List.mem_of_getElem? hx)
        · exact hln y hy⟩
theorem Way.start {fr : Nat → Option Nat} {k x : Nat} {l : List Nat} (h : Way fr k x l) : (x = k ∧ l = []) ∨ ∃ p r, x ≠ k ∧ fr x = some p ∧ l = x :: r ∧ Way fr k p r := by
  cases h with
  | stop => exact .inl ⟨rfl, rfl⟩
  | go hx hp hw => exact .inr ⟨_, _, hx, hp, rfl, hw⟩
end Gr
end Go.Proofs.YtkhlicmlnjccdaaGreatDoor
