/-
  What a loading holds in memory: rows of records, states, names and rings of its own, and what is kept while they grow. No program in sight.
-/
import Derived.Test.YtkhlicmlnjccdaaGreatDoorKt16
import Derived.Test.YtkhlicmlnjccdaaGreatDoorKt6
namespace Go.Proofs.YtkhlicmlnjccdaaGreatDoor
open Go.RowKit Mem
namespace Mem
/-- the blocks of K are as they were, and nothing of the outside has turned -/
structure Keep (K : Nat → Prop) (w w' : World) : Prop where
  os : w'.os = w.os
  tape : w'.tape = w.tape
  output : w'.output = w.output
  size : w.heap.size ≤ w'.heap.size
  block : ∀ b, K b → b < w.heap.size → w'.heap[b]? = w.heap[b]?
theorem Keep.refl (K : Nat → Prop) (w : World) : Keep K w w := ⟨rfl, rfl, rfl, Nat.le_refl _, fun _ _ _ => rfl⟩
theorem Keep.then {K K' : Nat → Prop} {w w1 w2 : World} (h : Keep K w w1) (h2 : Keep K' w1 w2) (hk : ∀ b, K b → K' b) : Keep K w w2 :=
  ⟨h2.os.trans h.os, h2.tape.trans h.tape, h2.output.trans h.output, Nat.le_trans h.size h2.size, fun b hb hl => (h2.block b (hk b hb) (Nat.lt_of_lt_of_le hl h.size)).trans (h.block b hb hl)⟩
theorem Keep.of_below {K : Nat → Prop} {w w' : World} (h : Below w.heap.size w w') : Keep K w w' := ⟨h.os, h.tape, h.output, h.size, fun b _ hl => h.block b hl⟩
theorem Keep.of_grown {K : Nat → Prop} {w w' : World} {row : Option Nat} (h : w.grownBy w' row) (hr : ∀ b, row = some b → ¬ K b) : Keep K w w' :=
  ⟨h.os, h.tape, h.output, h.size, fun b hb hl => h.block b hl (fun e => hr b e.symm hb)⟩
theorem Keep.less {K K' : Nat → Prop} {w w' : World} (h : Keep K w w') (hk : ∀ b, K' b → K b) : Keep K' w w' := ⟨h.os, h.tape, h.output, h.size, fun b hb hl => h.block b (hk b hb) hl⟩
theorem Keep.below {K : Nat → Prop} {w w' : World} {B : Nat} (h : Keep K w w') (hk : ∀ b, b < B → K b) (hB : B ≤ w.heap.size) : Below B w w' := ⟨h.os, h.tape, h.output, h.size, fun b hb => h.block b (hk b hb) (Nat.lt_of_lt_of_le hb hB)⟩
theorem Keep.drewN {K : Nat → Prop} {w w' : World} (h : Keep K w w') (n : Nat) : Keep K w (w'.drewN n) := ⟨h.os, h.tape, h.output, h.size, h.block⟩
theorem Keep.same {K S : Nat → Prop} {w w' : World} (h : Keep K w w') (hs : ∀ b, S b → K b) (hl : ∀ b, S b → b < w.heap.size) : Same S w w' := fun b hb => h.block b (hs b hb) (hl b hb)
theorem grown_set (w : World) (g i : Nat) (u : Value) : w.grownBy (w.setCell ⟨g, i, none⟩ u) (some g) :=
  ⟨rfl, rfl, rfl, by simp [World.setCell], fun b _ hn => Below.heap_setCell _ ⟨g, i, none⟩ u b (fun e => hn (by rw [e]))⟩

theorem all_set {α : Type} (k : Flat α) : ∀ (xs : List α) (i j : Nat) (y : α) (u : Value), j < k.kind.size → (∀ x, xs[i]? = some x → (k.enc x).set j u = k.enc y) → (k.all xs).set (i * k.kind.size + j) u = k.all (xs.set i y)
  | [], i, j, y, u, _, _ => by simp [Flat.all]
  | x :: r, 0, j, y, u, hj, h => by
    show (k.enc x ++ k.all r).set (0 * k.kind.size + j) u = k.enc y ++ k.all r
    rw [Nat.zero_mul, Nat.zero_add, List.set_append_left _ _ (by rw [k.len]; exact hj), h x rfl]
  | x :: r, i + 1, j, y, u, hj, h => by
    have ih := all_set k r i j y u hj (fun z hz => h z (by simpa using hz))
    show (k.enc x ++ k.all r).set ((i + 1) * k.kind.size + j) u = k.enc x ++ k.all (r.set i y)
    rw [List.set_append_right _ _ (by rw [k.len, Nat.add_mul]; omega), k.len, ← ih]
    congr 2; rw [Nat.add_mul]; omega
theorem Own.store {α : Type} {k : Flat α} {w : World} {base g c n : Nat} {e : TypeId} {xs : List α} (h : Own k w base e (.slice (some ⟨g, 0, none⟩) n c) xs) (hn : xs.length = n) (i j : Nat) (y : α) (u : Value) (hj : j < k.kind.size) (hy : ∀ x, xs[i]? = some x → (k.enc x).set j u = k.enc y) :
    Own k (w.setCell ⟨g, i * k.kind.size + j, none⟩ u) base e (.slice (some ⟨g, 0, none⟩) n c) (xs.set i y) := by
  unfold Own at h ⊢
  rw [List.length_set]
  rw [hn] at h ⊢
  have hs := World.ownsRow.stored h (i * k.kind.size + j) u
  rw [all_set k xs i j y u hj hy] at hs
  exact hs.1
theorem ownsRow_blk {w : World} {base sz n : Nat} {e : TypeId} {v : Value} {cs : List Value} {b : Nat} (h : w.ownsRow base e sz v n cs) (hb : v.ownBlock = some b) : ∃ cur, w.heap[b]? = some (.cells cur e (0, 0)) := by
  rcases h.2 with ⟨rfl, _⟩ | ⟨g, cap, cur, rfl, _, hh, _⟩
  · simp [Value.ownBlock] at hb
  · have : g = b := by simpa [Value.ownBlock] using hb
    subst this
    exact ⟨cur, hh⟩
/-- rows of other types lie apart -/
theorem apart_ty {w : World} {base base' sz sz' n n' : Nat} {e e' : TypeId} {v v' : Value} {cs cs' : List Value} (h : w.ownsRow base e sz v n cs) (h' : w.ownsRow base' e' sz' v' n' cs') (hne : e ≠ e') : v.ownBlock = none ∨ v.ownBlock ≠ v'.ownBlock := by
  cases he : v.ownBlock with
  | none => exact .inl rfl
  | some b =>
    refine .inr fun e2 => ?_
    obtain ⟨c1, h1⟩ := ownsRow_blk h he
    obtain ⟨c2, h2⟩ := ownsRow_blk h' e2.symm
    rw [h1] at h2
    injection h2 with h2
    injection h2 with _ h2 _
    exact hne h2
theorem apart_blk {w : World} {base sz n g : Nat} {e T : TypeId} {v : Value} {cs : List Value} {cur : Array Value} (h : w.ownsRow base e sz v n cs) (hg : w.heap[g]? = some (.cells cur T (0, 0))) (hne : e ≠ T) : v.ownBlock = none ∨ v.ownBlock ≠ some g := by
  refine .inr fun e2 => ?_
  obtain ⟨c1, h1⟩ := ownsRow_blk h e2
  rw [h1] at hg
  injection hg with hg
  injection hg with _ hg _
  exact hne hg

/-- an owned row of rows of texts, each of its own, within K -/
def OwnR (w : World) (B : Nat) (K : Nat → Prop) (v : Value) (rings : List (List Str)) : Prop :=
  ∃ hs : List Value, w.ownsRow 0 23 1 v rings.length hs ∧ (∀ (i : Nat) (x : List Str), rings[i]? = some x → ∃ h, hs[i]? = some h ∧ Own fStr w B 9 h x ∧ ∀ b, h.ownBlock = some b → K b) ∧
    ∀ (i j : Nat) (h h' : Value) (b : Nat), hs[i]? = some h → hs[j]? = some h' → h.ownBlock = some b → h'.ownBlock = some b → i = j
theorem OwnR.nil (w : World) (B : Nat) (K : Nat → Prop) : OwnR w B K (.slice none 0 0) [] := ⟨[], ⟨rfl, .inl ⟨rfl, rfl⟩⟩, fun i x h => by simp at h, fun i j h h' b e => by simp at e⟩
theorem OwnR.keep {w w' : World} {B : Nat} {K : Nat → Prop} {row : Option Nat} {v : Value} {rings : List (List Str)} (h : OwnR w B K v rings) (hg : w.grownBy w' row) (hne : v.ownBlock = none ∨ v.ownBlock ≠ row) (hr : ∀ b, row = some b → ¬ K b) : OwnR w' B K v rings := by
  obtain ⟨hs, h1, h2, h3⟩ := h
  refine ⟨hs, h1.kept hg hne, fun i x hi => ?_, h3⟩
  obtain ⟨u, hu, ho, hk⟩ := h2 i x hi
  refine ⟨u, hu, ho.kept hg ?_, hk⟩
  cases he : u.ownBlock with
  | none => exact .inl rfl
  | some b => exact .inr fun e => hr b e.symm (hk b he)
theorem OwnR.below {w w' : World} {B : Nat} {K : Nat → Prop} {v : Value} {rings : List (List Str)} (h : OwnR w B K v rings) (hb : Below w.heap.size w w') : OwnR w' B K v rings := by
  obtain ⟨hs, h1, h2, h3⟩ := h
  refine ⟨hs, h1.kept (row := none) ⟨hb.os, hb.tape, hb.output, hb.size, fun i hi _ => hb.block i hi⟩ (by cases v.ownBlock <;> simp), fun i x hi => ?_, h3⟩
  obtain ⟨u, hu, ho, hk⟩ := h2 i x hi
  exact ⟨u, hu, ho.below hb, hk⟩
theorem OwnR.more {w : World} {B : Nat} {K K' : Nat → Prop} {v : Value} {rings : List (List Str)} (h : OwnR w B K v rings) (hk : ∀ b, K b → K' b) : OwnR w B K' v rings := by
  obtain ⟨hs, h1, h2, h3⟩ := h
  refine ⟨hs, h1, fun i x hi => ?_, h3⟩
  obtain ⟨u, hu, ho, hk2⟩ := h2 i x hi
  exact ⟨u, hu, ho, fun b hb => hk b (hk2 b hb)⟩

/-- a loading's memory: its own block g of type T with cells cs, its rows; K: what stays as it is -/
structure Hold (w : World) (g : Nat) (T : TypeId) (cs : Array Value) (K : Nat → Prop) (vc vs vr vk : Value) (recs : List RecD) (states : List StateD) (rings : List (List Str)) (stack : List Str) : Prop where
  blk : w.heap[g]? = some (.cells cs T (0, 0))
  gK : ¬ K g
  KS : ∀ b, K b → b < w.heap.size
  recs : Own fRec w 0 39 vc recs
  recsK : ∀ b, vc.ownBlock = some b → ¬ K b
  states : Own fState w 0 79 vs states
  statesK : ∀ b, vs.ownBlock = some b → ¬ K b
  rings : OwnR w g K vr rings
  ringsK : ∀ b, vr.ownBlock = some b → ¬ K b
  stack : Own fStr w 0 9 vk stack
  stackK : ∀ b, vk.ownBlock = some b → ¬ K b
  ty : T ≠ 39 ∧ T ≠ 79 ∧ T ≠ 23 ∧ T ≠ 9
section
variable {w w' : World} {g : Nat} {T : TypeId} {cs : Array Value} {K : Nat → Prop} {vc vs vr vk : Value} {recs : List RecD} {states : List StateD} {rings : List (List Str)} {stack : List Str}
theorem Hold.lt (h : Hold w g T cs K vc vs vr vk recs states rings stack) : g < w.heap.size := (Array.getElem?_eq_some_iff.1 h.blk).1
theorem Hold.below (h : Hold w g T cs K vc vs vr vk recs states rings stack) (hb : Below w.heap.size w w') : Hold w' g T cs K vc vs vr vk recs states rings stack :=
  ⟨(hb.block _ h.lt).trans h.blk, h.gK, fun b hk => Nat.lt_of_lt_of_le (h.KS b hk) hb.size, h.recs.below hb, h.recsK, h.states.below hb, h.statesK, h.rings.below hb, h.ringsK, h.stack.below hb, h.stackK, h.ty⟩
theorem Hold.drewN (h : Hold w g T cs K vc vs vr vk recs states rings stack) (n : Nat) : Hold (w.drewN n) g T cs K vc vs vr vk recs states rings stack := h.below (below_drewN (Below.refl _ _) n)
theorem Hold.drew (h : Hold w g T cs K vc vs vr vk recs states rings stack) : Hold w.drew g T cs K vc vs vr vk recs states rings stack := h.below (Below.drew (Below.refl _ _))
/-- more is kept: blocks that are no row of the loading's -/
theorem Hold.more (h : Hold w g T cs K vc vs vr vk recs states rings stack) {K' : Nat → Prop} (hk : ∀ b, K b → K' b) (hl : ∀ b, K' b → b < w.heap.size) (hg : ¬ K' g) (h1 : ∀ b, vc.ownBlock = some b → ¬ K' b) (h2 : ∀ b, vs.ownBlock = some b → ¬ K' b) (h3 : ∀ b, vr.ownBlock = some b → ¬ K' b) (h4 : ∀ b, vk.ownBlock = some b → ¬ K' b) :
    Hold w g T cs K' vc vs vr vk recs states rings stack := ⟨h.blk, hg, hl, h.recs, h1, h.states, h2, h.rings.more hk, h3, h.stack, h4, h.ty⟩
/-- new blocks are kept, too -/
theorem Hold.fresh (h : Hold w g T cs K vc vs vr vk recs states rings stack) (hb : Below w.heap.size w w') : Hold w' g T cs (fun b => K b ∨ (w.heap.size ≤ b ∧ b < w'.heap.size)) vc vs vr vk recs states rings stack := by
  refine (h.below hb).more (fun b hk => .inl hk) (fun b hk => ?_) (fun hk => ?_) (fun b e hk => ?_) (fun b e hk => ?_) (fun b e hk => ?_) (fun b e hk => ?_)
  · rcases hk with hk | hk
    · exact Nat.lt_of_lt_of_le (h.KS b hk) hb.size
    · exact hk.2
  · rcases hk with hk | hk
    · exact h.gK hk
    · have := h.lt; omega
  · rcases hk with hk | hk
    · exact h.recsK b e hk
    · have := h.recs.lt e; omega
  · rcases hk with hk | hk
    · exact h.statesK b e hk
    · have := h.states.lt e; omega
  · rcases hk with hk | hk
    · exact h.ringsK b e hk
    · obtain ⟨hs, hr, _⟩ := h.rings
      obtain ⟨cur, hcur⟩ := ownsRow_blk hr e
      have := (Array.getElem?_eq_some_iff.1 hcur).1
      omega
  · rcases hk with hk | hk
    · exact h.stackK b e hk
    · have := h.stack.lt e; omega
/-- a cell of its own block is written -/
theorem Hold.set (h : Hold w g T cs K vc vs vr vk recs states rings stack) (i : Nat) (u : Value) : Hold (w.setCell ⟨g, i, none⟩ u) g T (cs.setIfInBounds i u) K vc vs vr vk recs states rings stack ∧ Keep K w (w.setCell ⟨g, i, none⟩ u) := by
  have hg := grown_set w g i u
  have hz : (w.setCell ⟨g, i, none⟩ u).heap.size = w.heap.size := by simp [World.setCell]
  have hne : ∀ b, some g = some b → ¬ K b := fun b e => by injection e with e; subst e; exact h.gK
  obtain ⟨hs, hr, hr2⟩ := h.rings
  exact ⟨⟨blk_set h.blk i u, h.gK, fun b hk => by rw [hz]; exact h.KS b hk, h.recs.kept hg (apart_blk h.recs h.blk (Ne.symm h.ty.1)), h.recsK, h.states.kept hg (apart_blk h.states h.blk (Ne.symm h.ty.2.1)), h.statesK,
    h.rings.keep hg (apart_blk hr h.blk (Ne.symm h.ty.2.2.1)) hne, h.ringsK, h.stack.kept hg (apart_blk h.stack h.blk (Ne.symm h.ty.2.2.2)), h.stackK, h.ty⟩, Keep.of_grown hg hne⟩
theorem not_row {v : Value} {b : Nat} (h : v.ownBlock = none ∨ v.ownBlock ≠ some b) : some b ≠ v.ownBlock := fun e => by
  rcases h with h | h
  · rw [h] at e; cases e
  · exact h e.symm
theorem own_new {v v1 : Value} {n : Nat} (hK : ∀ b, v.ownBlock = some b → ¬ K b) (hl : ∀ b, K b → b < n) (hn : v1.ownBlock = v.ownBlock ∨ ∃ b, v1.ownBlock = some b ∧ n ≤ b) : ∀ b, v1.ownBlock = some b → ¬ K b := fun b e hk => by
  rcases hn with hn | ⟨c, hn, hc⟩
  · exact hK b (hn ▸ e) hk
  · rw [hn] at e
    injection e with e
    subst e
    have := hl _ hk
    omega
/-- the row of records has grown -/
theorem Hold.recs_to (h : Hold w g T cs K vc vs vr vk recs states rings stack) {v1 : Value} {recs1 : List RecD} (ho : Own fRec w' 0 39 v1 recs1) (hg : w.grownBy w' vc.ownBlock) (hn : v1.ownBlock = vc.ownBlock ∨ ∃ b, v1.ownBlock = some b ∧ w.heap.size ≤ b) :
    Hold w' g T cs K v1 vs vr vk recs1 states rings stack ∧ Keep K w w' := by
  obtain ⟨hs, hr, hr2⟩ := h.rings
  exact ⟨⟨(hg.block _ h.lt (not_row (apart_blk h.recs h.blk (Ne.symm h.ty.1)))).trans h.blk, h.gK, fun b hk => Nat.lt_of_lt_of_le (h.KS b hk) hg.size, ho, own_new h.recsK h.KS hn,
    h.states.kept hg (apart_ty h.states h.recs (by decide)), h.statesK, h.rings.keep hg (apart_ty hr h.recs (by decide)) h.recsK, h.ringsK, h.stack.kept hg (apart_ty h.stack h.recs (by decide)), h.stackK, h.ty⟩, Keep.of_grown hg h.recsK⟩
/-- the row of states has turned or grown -/
theorem Hold.states_to (h : Hold w g T cs K vc vs vr vk recs states rings stack) {v1 : Value} {states1 : List StateD} (ho : Own fState w' 0 79 v1 states1) (hg : w.grownBy w' vs.ownBlock) (hn : v1.ownBlock = vs.ownBlock ∨ ∃ b, v1.ownBlock = some b ∧ w.heap.size ≤ b) :
    Hold w' g T cs K vc v1 vr vk recs states1 rings stack ∧ Keep K w w' := by
  obtain ⟨hs, hr, hr2⟩ := h.rings
  exact ⟨⟨(hg.block _ h.lt (not_row (apart_blk h.states h.blk (Ne.symm h.ty.2.1)))).trans h.blk, h.gK, fun b hk => Nat.lt_of_lt_of_le (h.KS b hk) hg.size, h.recs.kept hg (apart_ty h.recs h.states (by decide)), h.recsK, ho, own_new h.statesK h.KS hn,
    h.rings.keep hg (apart_ty hr h.states (by decide)) h.statesK, h.ringsK, h.stack.kept hg (apart_ty h.stack h.states (by decide)), h.stackK, h.ty⟩, Keep.of_grown hg h.statesK⟩
/-- the stack has grown -/
theorem Hold.stack_to (h : Hold w g T cs K vc vs vr vk recs states rings stack) {v1 : Value} {stack1 : List Str} (ho : Own fStr w' 0 9 v1 stack1) (hg : w.grownBy w' vk.ownBlock) (hn : v1.ownBlock = vk.ownBlock ∨ ∃ b, v1.ownBlock = some b ∧ w.heap.size ≤ b) :
    Hold w' g T cs K vc vs vr v1 recs states rings stack1 ∧ Keep K w w' := by
  obtain ⟨hs, hr, hr2⟩ := h.rings
  exact ⟨⟨(hg.block _ h.lt (not_row (apart_blk h.stack h.blk (Ne.symm h.ty.2.2.2)))).trans h.blk, h.gK, fun b hk => Nat.lt_of_lt_of_le (h.KS b hk) hg.size, h.recs.kept hg (apart_ty h.recs h.stack (by decide)), h.recsK, h.states.kept hg (apart_ty h.states h.stack (by decide)), h.statesK,
    h.rings.keep hg (apart_ty hr h.stack (by decide)) h.stackK, h.ringsK, ho, own_new h.stackK h.KS hn, h.ty⟩, Keep.of_grown hg h.stackK⟩
/-- the row of rings has grown -/
theorem Hold.rings_to (h : Hold w g T cs K vc vs vr vk recs states rings stack) {v1 : Value} {rings1 : List (List Str)} (ho : OwnR w' g K v1 rings1) (hg : w.grownBy w' vr.ownBlock) (hn : v1.ownBlock = vr.ownBlock ∨ ∃ b, v1.ownBlock = some b ∧ w.heap.size ≤ b) :
    Hold w' g T cs K vc vs v1 vk recs states rings1 stack ∧ Keep K w w' := by
  obtain ⟨hs, hr, hr2⟩ := h.rings
  exact ⟨⟨(hg.block _ h.lt (not_row (apart_blk hr h.blk (Ne.symm h.ty.2.2.1)))).trans h.blk, h.gK, fun b hk => Nat.lt_of_lt_of_le (h.KS b hk) hg.size, h.recs.kept hg (apart_ty h.recs hr (by decide)), h.recsK, h.states.kept hg (apart_ty h.states hr (by decide)), h.statesK,
    ho, own_new h.ringsK h.KS hn, h.stack.kept hg (apart_ty h.stack hr (by decide)), h.stackK, h.ty⟩, Keep.of_grown hg h.ringsK⟩
end
end Mem
end Go.Proofs.YtkhlicmlnjccdaaGreatDoor
