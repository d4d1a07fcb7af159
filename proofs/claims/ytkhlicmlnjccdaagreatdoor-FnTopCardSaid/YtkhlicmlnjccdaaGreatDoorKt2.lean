/-
  Rows that a call makes itself: append of one element; what an owned row reads as. No program in sight.
-/
import Derived.Test.YtkhlicmlnjccdaaGreatDoorKt1
import Derived.Maps.AppendAt
import Derived.OwnWalk
import Derived.WalkSmall
namespace Go.Proofs.YtkhlicmlnjccdaaGreatDoor
open Go.RowKit Mem
namespace Mem

structure Flat (α : Type) where
  kind : Kind α
  enc : α → List Value
  pos : 0 < kind.size
  len : ∀ x, (enc x).length = kind.size
  one : ∀ x, ∀ u ∈ enc x, u.oneCell' = true
  of : ∀ {w : World} {S : Nat → Prop} {a : Addr} {x : α}, S a.block → (∀ j u, (enc x)[j]? = some u → w.cell? (a.add j) = some u) → kind.at_ w S a x
def Flat.all {α : Type} (k : Flat α) (xs : List α) : List Value := xs.flatMap k.enc
section
variable {α : Type} (k : Flat α)
theorem Flat.all_nil : k.all [] = [] := rfl
theorem Flat.all_append (xs ys : List α) : k.all (xs ++ ys) = k.all xs ++ k.all ys := by simp [Flat.all]
theorem Flat.all_one (x : α) : k.all [x] = k.enc x := by simp [Flat.all]
theorem Flat.all_length (xs : List α) : (k.all xs).length = xs.length * k.kind.size := by
  induction xs with
  | nil => simp [Flat.all]
  | cons x r ih =>
    show (k.enc x ++ k.all r).length = _
    rw [List.length_append, ih, k.len, List.length_cons, Nat.add_mul]; omega
theorem Flat.all_get : ∀ (xs : List α) (i j : Nat) (x : α), xs[i]? = some x → j < k.kind.size → (k.all xs)[i * k.kind.size + j]? = (k.enc x)[j]?
  | [], i, j, x, h, _ => by simp at h
  | y :: r, 0, j, x, h, hj => by
    have : y = x := by simpa using h
    subst this
    show (k.enc y ++ k.all r)[0 * k.kind.size + j]? = _
    rw [Nat.zero_mul, Nat.zero_add, List.getElem?_append_left (by rw [k.len]; exact hj)]
  | y :: r, i + 1, j, x, h, hj => by
    have ih := Flat.all_get r i j x (by simpa using h) hj
    show (k.enc y ++ k.all r)[(i + 1) * k.kind.size + j]? = _
    rw [List.getElem?_append_right (by rw [k.len, Nat.add_mul]; omega), k.len, ← ih]
    congr 1; rw [Nat.add_mul]; omega
end
def fStr : Flat Str := { kind := kStr, enc := fun s => [.string s], pos := Nat.one_pos, len := fun _ => rfl, one := fun _ u hu => by simp at hu; subst hu; rfl, of := fun hS h => ⟨hS, h 0 _ rfl⟩ }
def fInt : Flat Int := { kind := kInt, enc := fun s => [.int .i64 s], pos := Nat.one_pos, len := fun _ => rfl, one := fun _ u hu => by simp at hu; subst hu; rfl, of := fun hS h => ⟨hS, h 0 _ rfl⟩ }
theorem Has.add {w : World} {S : Nat → Prop} {a : Addr} {v : Value} {j : Nat} (hS : S a.block) (h : w.cell? (a.add j) = some v) : Has w S (a.add j) v := ⟨by rw [block_add]; exact hS, h⟩
def fLine : Flat LineD :=
  { kind := kLine, enc := fun l => [.int .i64 l.op, .string l.name, .int .i64 l.num, .int .i64 l.skip], pos := by show 0 < 4; omega, len := fun _ => rfl
    one := fun _ u hu => by simp at hu; rcases hu with rfl | rfl | rfl | rfl <;> rfl
    of := fun hS h => ⟨⟨hS, h 0 _ rfl⟩, .add hS (h 1 _ rfl), .add hS (h 2 _ rfl), .add hS (h 3 _ rfl)⟩ }
def fRec : Flat RecD :=
  { kind := kRec, enc := fun l => [.int .i64 l.kind, .string l.name, .int .i64 l.code, .int .i64 l.num], pos := by show 0 < 4; omega, len := fun _ => rfl
    one := fun _ u hu => by simp at hu; rcases hu with rfl | rfl | rfl | rfl <;> rfl
    of := fun hS h => ⟨⟨hS, h 0 _ rfl⟩, .add hS (h 1 _ rfl), .add hS (h 2 _ rfl), .add hS (h 3 _ rfl)⟩ }
def fState : Flat StateD :=
  { kind := kState, enc := fun l => [.string l.name, .int .i64 l.now, .int .i64 l.give, .int .i64 l.code], pos := by show 0 < 4; omega, len := fun _ => rfl
    one := fun _ u hu => by simp at hu; rcases hu with rfl | rfl | rfl | rfl <;> rfl
    of := fun hS h => ⟨⟨hS, h 0 _ rfl⟩, .add hS (h 1 _ rfl), .add hS (h 2 _ rfl), .add hS (h 3 _ rfl)⟩ }
def fEdge : Flat EdgeD :=
  { kind := kEdge, enc := fun l => [.int .i64 l.src, .int .i64 l.line, .int .i64 l.dst], pos := by show 0 < 3; omega, len := fun _ => rfl
    one := fun _ u hu => by simp at hu; rcases hu with rfl | rfl | rfl <;> rfl
    of := fun hS h => ⟨⟨hS, h 0 _ rfl⟩, .add hS (h 1 _ rfl), .add hS (h 2 _ rfl)⟩ }

/-- an owned row of flat elements -/
def Own {α : Type} (k : Flat α) (w : World) (base : Nat) (e : TypeId) (v : Value) (xs : List α) : Prop := w.ownsRow base e k.kind.size v xs.length (k.all xs)
section
variable {α : Type} {k : Flat α} {w w' : World} {base n : Nat} {e : TypeId} {v : Value} {xs : List α}
theorem Own.nil (w : World) (base : Nat) (e : TypeId) : Own k w base e (.slice none 0 0) [] := ⟨by simp [Flat.all], .inl ⟨rfl, rfl⟩⟩
theorem Own.drew (h : Own k w base e v xs) : Own k w.drew base e v xs := h
theorem Own.drewN (h : Own k w base e v xs) (n : Nat) : Own k (w.drewN n) base e v xs := h
theorem Own.kept {row : Option Nat} (h : Own k w base e v xs) (hg : w.grownBy w' row) (hne : v.ownBlock = none ∨ v.ownBlock ≠ row) : Own k w' base e v xs := World.ownsRow.kept h hg hne
theorem Own.below (h : Own k w base e v xs) (hb : Below w.heap.size w w') : Own k w' base e v xs :=
  World.ownsRow.kept h (row := none) ⟨hb.os, hb.tape, hb.output, hb.size, fun i hi _ => hb.block i hi⟩ (by cases v.ownBlock <;> simp)
theorem Own.alloc (h : Own k w base e v xs) (o : Obj) : Own k (w.alloc o) base e v xs := World.ownsRow.alloc h o
theorem Own.same (h : Own k w base e v xs) (hs : ∀ b, v.ownBlock = some b → w'.heap[b]? = w.heap[b]?) : Own k w' base e v xs := by
  refine ⟨h.1, ?_⟩
  rcases h.2 with h0 | ⟨g, cap, cur, hv, hb, hh, hr⟩
  · exact .inl h0
  · exact .inr ⟨g, cap, cur, hv, hb, (hs g (by rw [hv]; rfl)).trans hh, hr⟩
theorem Own.slV (h : Own k w base e v xs) : SlV k.kind w (fun b => base ≤ b) v xs := by
  rcases h.2 with ⟨hv, hn⟩ | ⟨g, cap, cur, hv, hb, hh, hnc, hcm, hsz, ht⟩
  · obtain rfl : xs = [] := List.eq_nil_of_length_eq_zero hn
    exact ⟨none, 0, hv, Nat.le_refl _, Nat.zero_le _, Sl.nil⟩
  · refine ⟨_, _, hv, hnc, hcm, fun hne => ⟨_, rfl, fun i x hi => ?_⟩⟩
    refine k.of (by rw [block_add]; exact hb) fun j u hu => ?_
    have hj : j < k.kind.size := by
      rcases Nat.lt_or_ge j k.kind.size with h | h
      · exact h
      · rw [List.getElem?_eq_none (by rw [k.len]; exact h)] at hu; simp at hu
    rw [add_add, add_plain, Nat.zero_add]
    have := k.all_get xs i j x hi hj
    rw [hu] at this
    have hc := World.ownsRow.cells h (g := g) (by rw [hv]; rfl) (i * k.kind.size + j) u this
    rwa [add_plain, Nat.zero_add] at hc
theorem Own.slS (h : Own k w base e v xs) {S : Nat → Prop} (hS : ∀ b, base ≤ b → S b) : SlV k.kind w S v xs := (h.slV).more hS
theorem Own.le (h : Own k w base e v xs) {b : Nat} (hb : v.ownBlock = some b) : base ≤ b := by
  rcases h.2 with ⟨rfl, _⟩ | ⟨g, cap, cur, rfl, hg, _⟩
  · simp [Value.ownBlock] at hb
  · have : g = b := by simpa [Value.ownBlock] using hb
    omega
theorem Own.lt (h : Own k w base e v xs) {b : Nat} (hb : v.ownBlock = some b) : b < w.heap.size := by
  rcases h.2 with ⟨rfl, _⟩ | ⟨g, cap, cur, rfl, hg, hh, _⟩
  · simp [Value.ownBlock] at hb
  · have : g = b := by simpa [Value.ownBlock] using hb
    subst this
    exact (Array.getElem?_eq_some_iff.1 hh).1
theorem Own.more {base' : Nat} (h : Own k w base e v xs) (hb : base' ≤ base) : Own k w base' e v xs := by
  refine ⟨h.1, ?_⟩
  rcases h.2 with h0 | ⟨g, cap, cur, hv, hg, hr⟩
  · exact .inl h0
  · exact .inr ⟨g, cap, cur, hv, by omega, hr⟩
end

theorem Own.sl {α : Type} {k : Flat α} {w : World} {base n c : Nat} {e : TypeId} {A : Option Addr} {xs : List α} (h : Own k w base e (.slice A n c) xs) : Sl k.kind w (fun b => base ≤ b) A xs := by
  obtain ⟨A', c', hv, _, _, hs⟩ := h.slV
  injection hv with hA _ _
  subst hA
  exact hs
theorem Own.form {α : Type} {k : Flat α} {w : World} {base : Nat} {e : TypeId} {v : Value} {xs : List α} (h : Own k w base e v xs) (hn : xs ≠ []) :
    ∃ g c, v = .slice (some ⟨g, 0, none⟩) xs.length c ∧ base ≤ g ∧ g < w.heap.size ∧ xs.length ≤ c ∧ c ≤ maxLen ∧ v.ownBlock = some g ∧ Sl k.kind w (fun b => b = g) (some ⟨g, 0, none⟩) xs := by
  rcases h.2 with ⟨_, h0⟩ | ⟨g, cap, cur, hv, hb, hh, hnc, hcm, _⟩
  · exact absurd (List.eq_nil_of_length_eq_zero h0) hn
  · refine ⟨g, cap, hv, hb, (Array.getElem?_eq_some_iff.1 hh).1, hnc, hcm, by rw [hv]; rfl, ?_⟩
    have h' : Own k w g e v xs := ⟨h.1, .inr ⟨g, cap, cur, hv, Nat.le_refl _, hh, hnc, hcm, by assumption⟩⟩
    obtain ⟨A, c, hv', _, _, hs⟩ := h.slV
    rw [hv] at hv'
    injection hv' with hA _ _
    subst hA
    intro hne
    obtain ⟨ad, hA, hx⟩ := hs hne
    refine ⟨ad, hA, fun i x hi => ?_⟩
    injection hA with hA
    subst hA
    refine k.of (by rw [block_add]) fun j u hu => ?_
    have hj : j < k.kind.size := by
      rcases Nat.lt_or_ge j k.kind.size with h | h
      · exact h
      · rw [List.getElem?_eq_none (by rw [k.len]; exact h)] at hu; simp at hu
    rw [add_add, add_plain, Nat.zero_add]
    have := k.all_get xs i j x hi hj
    rw [hu] at this
    have hc := World.ownsRow.cells h (g := g) (by rw [hv]; rfl) (i * k.kind.size + j) u this
    rwa [add_plain, Nat.zero_add] at hc
theorem Own.free {α : Type} {k : Flat α} {w : World} {base g n c : Nat} {e : TypeId} {xs : List α} (h : Own k w base e (.slice (some ⟨g, 0, none⟩) n c) xs) (i : Nat) : w.frozen? ⟨g, i, none⟩ = false := by
  rcases h.2 with ⟨h', _⟩ | ⟨g', cap', cur, h', _, hh, _⟩
  · cases h'
  · have : g = g' := by injection h' with h'; injection h' with h'; injection h' with h'
    subst this
    simp [World.frozen?, hh]
theorem Own.cellAt {α : Type} {k : Flat α} {w : World} {base g n c : Nat} {e : TypeId} {xs : List α} (h : Own k w base e (.slice (some ⟨g, 0, none⟩) n c) xs) {i j : Nat} {x : α} {u : Value} (hi : xs[i]? = some x) (hj : (k.enc x)[j]? = some u) : w.cell? ⟨g, i * k.kind.size + j, none⟩ = some u := by
  have hjl : j < k.kind.size := by
    rcases Nat.lt_or_ge j k.kind.size with h | h
    · exact h
    · rw [List.getElem?_eq_none (by rw [k.len]; exact h)] at hj; simp at hj
  have := k.all_get xs i j x hi hjl
  rw [hj] at this
  have hc := World.ownsRow.cells h (g := g) rfl (i * k.kind.size + j) u this
  rwa [add_plain, Nat.zero_add] at hc
theorem Own.pop {α : Type} {k : Flat α} {w : World} {base : Nat} {e : TypeId} {g c n : Nat} {xs : List α} (h : Own k w base e (.slice (some ⟨g, 0, none⟩) (n + 1) c) xs) (hn : xs.length = n + 1) :
    Own k w base e (.slice (some ⟨g, 0, none⟩) n c) xs.dropLast := by
  have hne : xs ≠ [] := fun e => by rw [e] at hn; simp at hn
  have hs : k.all xs = k.all xs.dropLast ++ k.enc (xs.getLast hne) := by
    conv => lhs; rw [← List.dropLast_concat_getLast hne]
    rw [k.all_append, k.all_one]
  have hl : xs.dropLast.length = n := by rw [List.length_dropLast, hn]; rfl
  unfold Own at h ⊢
  rw [hs, hn] at h
  rw [hl]
  exact ownsRow_pop (by rw [k.all_length, hl]) h
theorem Same.grown {w w' : World} {row : Option Nat} (hg : w.grownBy w' row) {S : Nat → Prop} (hlt : ∀ b, S b → b < w.heap.size) (hne : ∀ b, S b → some b ≠ row) : Same S w w' := fun b hb => hg.block b (hlt b hb) (hne b hb)
/-- the post of a call that hands back a row of its own -/
def RetOwn {α : Type} (k : Flat α) (w : World) (t : TypeId) (xs : List α) (e : Ending) (w' : World) : Prop := ∃ v, e = .returned v ∧ Own k w' w.heap.size t v xs ∧ Below w.heap.size w w'
section
variable {P : Program} {ops : Array Oper} {rest : List Oper} {o : Oper} {a : Act} {Q : Exit → Act → World → Prop}
/-- append of one element that was built just ahead -/
theorem append_own {α : Type} (k : Flat α) {w0 W : World} (base : Nat) (hgd : o.guard = none) (s x : Operand) (t e : TypeId) (z : Value) (bytes : Nat)
    (ho : o.op = .call { callee := .builtin .append, args := #[s, x], argTypes := #[t, t] })
    (ht : P.underlying t = some (.slice e)) (hinfo : (P.info? e).map (fun i => (i.zero, i.size, i.bytes)) = some (some z, k.kind.size, bytes)) (hz : z.cells.size = k.kind.size) (hb0 : 0 < bytes)
    (v : Value) (xs : List α) (y : α) (cs : Array Value) (hcs : cs.toList = k.enc y) (hs : a.eval s = v) (hx : a.eval x = .slice (some ⟨W.heap.size, 0, none⟩) 1 1)
    (HO : Own k W base e v xs) (HB : Below base w0 W) (hbase : base ≤ W.heap.size) (hl : (xs.length + 1) * bytes ≤ 140737488355328)
    (h : ∀ v1 w1, Own k w1 base e v1 (xs ++ [y]) → Below base w0 w1 → W.grownBy w1 v.ownBlock → (v1.ownBlock = v.ownBlock ∨ ∃ b, v1.ownBlock = some b ∧ W.heap.size ≤ b) → wpList P ops Q rest (a.put o.dst v1) w1) :
    wpList P ops Q (o :: rest) a (W.alloc (.cells cs e)) := by
  obtain ⟨i0, hi, hzz⟩ := Option.map_eq_some_iff.1 hinfo
  simp only [Prod.mk.injEq] at hzz
  obtain ⟨hz0, hz1, hz2⟩ := hzz
  have hlen : xs.length + 1 ≤ 140737488355328 := Nat.le_trans (Nat.le_mul_of_pos_right _ hb0) hl
  refine wpList_append_own_at (W.alloc (.cells cs e)) hgd s x t ho base e i0 z k.kind.size bytes ht hi hz0 hz1 hz2 hz k.pos v xs.length (k.all xs) hs (World.ownsRow.alloc HO _) ⟨W.heap.size, 0, none⟩ 1 1 cs.toList hx (by rw [hcs, k.len, Nat.one_mul])
    (World.news_of_block (cs := cs) (t := e) (fr := (0, 0)) (heap_alloc_new W _)) (by rw [hcs]; exact k.one y) (by simp only [maxLen]; omega) hl (by simp; omega) ?_
  intro v1 w1 hown hg _ hat
  refine h v1 w1 ?_ ((HB.alloc hbase _).grown hg (by simp; omega) (fun b hb => Own.le HO hb)) (World.grownBy.trans (World.grownBy_alloc W _ _) hg) ?_
  · unfold Own
    rw [k.all_append, k.all_one, ← hcs, List.length_append, List.length_singleton]
    exact hown
  · rcases hat with hat | hat
    · exact .inl hat
    · exact .inr ⟨_, hat, by simp⟩

/-- the same, the new cell's block named -/
theorem append_own_g {α : Type} (k : Flat α) {w0 W : World} (base : Nat) (hgd : o.guard = none) (s x : Operand) (t e : TypeId) (z : Value) (bytes : Nat)
    (ho : o.op = .call { callee := .builtin .append, args := #[s, x], argTypes := #[t, t] })
    (ht : P.underlying t = some (.slice e)) (hinfo : (P.info? e).map (fun i => (i.zero, i.size, i.bytes)) = some (some z, k.kind.size, bytes)) (hz : z.cells.size = k.kind.size) (hb0 : 0 < bytes)
    (v : Value) (xs : List α) (y : α) (cs : Array Value) (hcs : cs.toList = k.enc y) (hs : a.eval s = v) (g : Nat) (hg : W.heap.size = g) (hx : a.eval x = .slice (some ⟨g, 0, none⟩) 1 1)
    (HO : Own k W base e v xs) (HB : Below base w0 W) (hbase : base ≤ W.heap.size) (hl : (xs.length + 1) * bytes ≤ 140737488355328)
    (h : ∀ v1 w1, Own k w1 base e v1 (xs ++ [y]) → Below base w0 w1 → W.grownBy w1 v.ownBlock → (v1.ownBlock = v.ownBlock ∨ ∃ b, v1.ownBlock = some b ∧ W.heap.size ≤ b) → wpList P ops Q rest (a.put o.dst v1) w1) :
    wpList P ops Q (o :: rest) a (W.alloc (.cells cs e)) := by
  subst hg
  exact append_own k base hgd s x t e z bytes ho ht hinfo hz hb0 v xs y cs hcs hs hx HO HB hbase hl h

theorem run_append_none {w : World} (base : Nat) (t ty e : TypeId) (i : TypeInfo) (size : Nat) (ht : P.underlying t = some (.slice e)) (hi : P.info? e = some i)
    (v : Value) (n : Nat) (xs : List Value) (hown : w.ownsRow base e size v n xs) (c : Nat) : (Builtin.append_ #[t, t] ty #[v, .slice none 0 c]).run P w = .ok v w := by
  rcases hown.2 with ⟨rfl, _⟩ | ⟨g, cap, cur, rfl, _, _, hnc, _⟩
  · simp [Builtin.append_, run_underlying ht, sizeOf, typeInfo, hi, Builtin.lenOf, Builtin.firstCells]
  · simp [Builtin.append_, run_underlying ht, sizeOf, typeInfo, hi, Builtin.lenOf, Builtin.firstCells, hnc, storeCells]

theorem run_append_strs {W : World} {S : Nat → Prop} (base : Nat) (t ty e : TypeId) (ht : P.underlying t = some (.slice e)) (hinfo : (P.info? e).map (fun i => (i.zero, i.size, i.bytes)) = some (some (.string ByteArray.empty), 1, 16))
    (v : Value) (xs ys : List Str) (A : Option Addr) (c : Nat) (HO : Own fStr W base e v xs) (HS : Sl kStr W S A ys) (hbase : base ≤ W.heap.size) (hl : (xs.length + ys.length) * 16 ≤ 140737488355328) :
    ∃ v1 w1, (Builtin.append_ #[t, t] ty #[v, .slice A ys.length c]).run P W = .ok v1 w1 ∧ Own fStr w1 base e v1 (xs ++ ys) ∧ W.grownBy w1 v.ownBlock ∧ (v1.ownBlock = v.ownBlock ∨ v1.ownBlock = some W.heap.size) := by
  obtain ⟨i0, hi, hzz⟩ := Option.map_eq_some_iff.1 hinfo
  simp only [Prod.mk.injEq] at hzz
  obtain ⟨hz0, hz1, hz2⟩ := hzz
  have hmain : ∀ ad, (∀ i x, ys[i]? = some x → W.cell? (ad.add i) = some (.string x)) → ∃ v1 w1, (Builtin.append_ #[t, t] ty #[v, .slice (some ad) ys.length c]).run P W = .ok v1 w1 ∧ Own fStr w1 base e v1 (xs ++ ys) ∧ W.grownBy w1 v.ownBlock ∧ (v1.ownBlock = v.ownBlock ∨ v1.ownBlock = some W.heap.size) := by
    intro ad hc
    obtain ⟨v1, w1, hr, h2, h3, _, h5⟩ := run_append_own_at (P := P) W base t ty e i0 (.string ByteArray.empty) 1 16 ht hi hz0 hz1 hz2 rfl (by omega) v xs.length (fStr.all xs) HO ad ys.length c (fStr.all ys) (fStr.all_length ys)
      (fun j u hu => by
        rcases Nat.lt_or_ge j ys.length with hj | hj
        · have := fStr.all_get ys j 0 _ (List.getElem?_eq_getElem hj) (by show 0 < 1; omega)
          rw [show j * fStr.kind.size + 0 = j by show j * 1 + 0 = j; omega, hu] at this
          injection this with this
          rw [hc j _ (List.getElem?_eq_getElem hj), this]
        · rw [List.getElem?_eq_none (by rw [fStr.all_length]; show ys.length * 1 ≤ j; omega)] at hu; simp at hu)
      (fun u hu => by
        simp only [Flat.all, List.mem_flatMap] at hu
        obtain ⟨x, _, hx⟩ := hu
        exact fStr.one x u hx) (by simp only [maxLen]; omega) hl hbase
    exact ⟨v1, w1, hr, by unfold Own; rw [fStr.all_append, List.length_append]; exact h2, h3, h5⟩
  by_cases hy : ys = []
  · subst hy
    rcases A with _ | ad
    · exact ⟨v, W, run_append_none base t ty e i0 1 ht hi v xs.length (fStr.all xs) HO c, by rw [List.append_nil]; exact HO, World.grownBy.refl W _, .inl rfl⟩
    · exact hmain ad (fun i x h => by simp at h)
  · obtain ⟨ad, rfl, hx⟩ := HS hy
    exact hmain ad (fun i x h => by
      have := (hx i x h).2
      rwa [show i * kStr.size = i from Nat.mul_one i] at this)

theorem append_strs {W : World} {S : Nat → Prop} (base : Nat) (hgd : o.guard = none) (s x : Operand) (t e : TypeId)
    (ho : o.op = .call { callee := .builtin .append, args := #[s, x], argTypes := #[t, t] })
    (ht : P.underlying t = some (.slice e)) (hinfo : (P.info? e).map (fun i => (i.zero, i.size, i.bytes)) = some (some (.string ByteArray.empty), 1, 16))
    (v : Value) (xs ys : List Str) (A : Option Addr) (n c : Nat) (hn : ys.length = n) (hs : a.eval s = v) (hx : a.eval x = .slice A n c)
    (HO : Own fStr W base e v xs) (HS : Sl kStr W S A ys) (hbase : base ≤ W.heap.size) (hl : (xs.length + ys.length) * 16 ≤ 140737488355328)
    (h : ∀ v1 w1, Own fStr w1 base e v1 (xs ++ ys) → W.grownBy w1 v.ownBlock → (v1.ownBlock = v.ownBlock ∨ v1.ownBlock = some W.heap.size) → wpList P ops Q rest (a.put o.dst v1) w1) :
    wpList P ops Q (o :: rest) a W := by
  subst hn
  obtain ⟨v1, w1, hr, h2, h3, h4⟩ := run_append_strs (P := P) base t o.type e ht hinfo v xs ys A c HO HS hbase hl
  refine wpList_plain hgd fun K hK => ?_
  unfold Oper.wp execOp
  simp only [ho, resolve, invoke, builtin, Sem.run_bind, Sem.run_pure, Result.andThen_ok, List.map_toArray, List.map_cons, List.map_nil, hs, hx, hr]
  exact hK _ _ (h v1 w1 h2 h3 h4)
end
end Mem
end Go.Proofs.YtkhlicmlnjccdaaGreatDoor
