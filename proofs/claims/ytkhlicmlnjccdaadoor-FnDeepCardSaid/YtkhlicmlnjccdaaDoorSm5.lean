/-
  Walks: the reference's machine: a ring is told.
-/
import Derived.Test.YtkhlicmlnjccdaaDoorSm4
namespace Go.Proofs.YtkhlicmlnjccdaaDoor
open Go.RowKit Mem

namespace Mem
section
variable {P : Program} {ops : Array Oper} {rest : List Oper} {o : Oper} {a : Act} {Q : Exit → Act → World → Prop}
/-- append of one value of one cell -/
theorem append_val {W : World} (hgd : o.guard = none) (s x : Operand) (t e : TypeId) (z : Value) (bytes : Nat)
    (ho : o.op = .call { callee := .builtin .append, args := #[s, x], argTypes := #[t, t] })
    (ht : P.underlying t = some (.slice e)) (hinfo : (P.info? e).map (fun i => (i.zero, i.size, i.bytes)) = some (some z, 1, bytes)) (hz : z.cells.size = 1) (hb0 : 0 < bytes)
    (v : Value) (n : Nat) (hs : List Value) (u : Value) (hu : u.oneCell' = true) (hsv : a.eval s = v) (g : Nat) (hg : W.heap.size = g) (hx : a.eval x = .slice (some ⟨g, 0, none⟩) 1 1)
    (HO : W.ownsRow 0 e 1 v n hs) (hl : (n + 1) * bytes ≤ 140737488355328)
    (h : ∀ v1 w1, w1.ownsRow 0 e 1 v1 (n + 1) (hs ++ [u]) → W.grownBy w1 v.ownBlock → (v1.ownBlock = v.ownBlock ∨ ∃ b, v1.ownBlock = some b ∧ W.heap.size ≤ b) → wpList P ops Q rest (a.put o.dst v1) w1) :
    wpList P ops Q (o :: rest) a (W.alloc (.cells #[u] e)) := by
  subst hg
  obtain ⟨i0, hi, hzz⟩ := Option.map_eq_some_iff.1 hinfo
  simp only [Prod.mk.injEq] at hzz
  obtain ⟨hz0, hz1, hz2⟩ := hzz
  have hlen : n + 1 ≤ 140737488355328 := Nat.le_trans (Nat.le_mul_of_pos_right _ hb0) hl
  refine wpList_append_own_at (W.alloc (.cells #[u] e)) hgd s x t ho 0 e i0 z 1 bytes ht hi hz0 hz1 hz2 hz (by omega) v n hs hsv (World.ownsRow.alloc HO _) ⟨W.heap.size, 0, none⟩ 1 1 [u] hx rfl
    (World.news_of_block (cs := #[u]) (t := e) (fr := (0, 0)) (heap_alloc_new W _)) (by intro y hy; rw [List.mem_singleton] at hy; rw [hy]; exact hu) (by simp only [maxLen]; omega) hl (by simp) ?_
  intro v1 w1 hown hg _ hat
  refine h v1 w1 hown (World.grownBy.trans (World.grownBy_alloc W _ _) hg) ?_
  rcases hat with hat | hat
  · exact .inl hat
  · exact .inr ⟨_, hat, by simp⟩
end
theorem row_form {w : World} {base sz n : Nat} {e : TypeId} {v : Value} {cs : List Value} (h : w.ownsRow base e sz v n cs) : ∃ A c, v = .slice A n c := by
  rcases h.2 with ⟨e, e0⟩ | ⟨g', cap, cur, e, _⟩
  · exact ⟨none, 0, by rw [e, e0]⟩
  · exact ⟨_, cap, e⟩
theorem OwnR.snoc {w w' : World} {B : Nat} {K : Nat → Prop} {v v1 : Value} {rings : List (List Str)} {hs : List Value} {u : Value} {out : List Str} (h2 : ∀ (i : Nat) (x : List Str), rings[i]? = some x → ∃ h, hs[i]? = some h ∧ Own fStr w B 9 h x ∧ ∀ b, h.ownBlock = some b → K b) (h3 : ∀ (i j : Nat) (h h' : Value) (b : Nat), hs[i]? = some h → hs[j]? = some h' → h.ownBlock = some b → h'.ownBlock = some b → i = j) (hl : hs.length = rings.length)
    (hg : w.grownBy w' v.ownBlock) (hr : ∀ b, v.ownBlock = some b → ¬ K b) (hown : w'.ownsRow 0 29 1 v1 (rings.length + 1) (hs ++ [u])) (hu : Own fStr w B 9 u out) (huK : ∀ b, u.ownBlock = some b → K b) (hun : ∀ (i : Nat) (h : Value) (b : Nat), hs[i]? = some h → h.ownBlock = some b → u.ownBlock ≠ some b) : OwnR w' B K v1 (rings ++ [out]) := by
  have hkept : ∀ {h : Value} {x : List Str}, Own fStr w B 9 h x → (∀ b, h.ownBlock = some b → K b) → Own fStr w' B 9 h x := fun {h x} ho hk => ho.kept hg (by
    cases he : h.ownBlock with
    | none => exact .inl rfl
    | some b => exact .inr fun e => hr b e.symm (hk b he))
  have hat : ∀ (i : Nat) (h : Value), (hs ++ [u])[i]? = some h → (i < rings.length ∧ hs[i]? = some h) ∨ (i = rings.length ∧ u = h) := fun i h hi => by
    rcases Nat.lt_or_ge i hs.length with hlt | hge
    · rw [List.getElem?_append_left hlt] at hi
      exact .inl ⟨by omega, hi⟩
    · rw [List.getElem?_append_right hge] at hi
      have hi0 : i - hs.length = 0 := by
        rcases Nat.lt_or_ge (i - hs.length) 1 with h1 | h1
        · omega
        · rw [List.getElem?_eq_none (by simpa using h1)] at hi; simp at hi
      rw [hi0] at hi
      exact .inr ⟨by omega, by simpa using hi⟩
  refine ⟨hs ++ [u], by rw [List.length_append]; exact hown, fun i x hi => ?_, fun i j h h' b hi hj hb hb' => ?_⟩
  · rcases Nat.lt_or_ge i rings.length with h | h
    · rw [List.getElem?_append_left h] at hi
      obtain ⟨y, hy, ho, hk⟩ := h2 i x hi
      exact ⟨y, by rw [List.getElem?_append_left (by omega)]; exact hy, hkept ho hk, hk⟩
    · rw [List.getElem?_append_right h] at hi
      have hi0 : i - rings.length = 0 := by
        rcases Nat.lt_or_ge (i - rings.length) 1 with h1 | h1
        · omega
        · rw [List.getElem?_eq_none (by simpa using h1)] at hi; simp at hi
      rw [hi0] at hi
      obtain rfl : out = x := by simpa using hi
      exact ⟨u, by rw [List.getElem?_append_right (by omega), hl, hi0]; rfl, hkept hu huK, huK⟩
  · rcases hat i h hi with ⟨i1, i2⟩ | ⟨rfl, rfl⟩ <;> rcases hat j h' hj with ⟨j1, j2⟩ | ⟨rfl, rfl⟩
    · exact h3 i j h h' b i2 j2 hb hb'
    · exact absurd hb' (hun i h b i2 hb)
    · exact absurd hb (hun j h' b j2 hb')
    · rfl
end Mem
theorem info_sl : (Tryd.prog.info? 29).map (fun i => (i.zero, i.size, i.bytes)) = some (some (.slice none 0 0), 1, 24) := by kernel_rfl
theorem info_str' : (Tryd.prog.info? 9).map (fun i => (i.zero, i.size, i.bytes)) = some (some (.string ByteArray.empty), 1, 16) := by kernel_rfl

set_option maxRecDepth 100000 in
set_option maxHeartbeats 2000000 in
theorem ring_calls (w : World) (g : Nat) (K : Nat → Prop) (vR vM vF : Value) (D : WorldD) (s : Ld.St) (h : SAt w g K vR vM vF D s) (nm : Str) (hr : s.rings.length ≤ 9000) (hst : s.stack.length ≤ 40) :
    Calls Tryd.prog 109 #[.pointer (some ⟨g, 0, none⟩), .string nm] w fun e w' => e = .returned (.tuple #[]) ∧ STo w w' g K vR vM vF D (s.ring nm) := by
  obtain ⟨vc, vs, vr, vk, hh, hin⟩ := h
  obtain ⟨A8, c8, hv8, hc8, hd8, hs8⟩ := hh.stack.slV
  subst hv8
  obtain ⟨hs, hrow, hrr⟩ := hh.rings
  have hvr := row_form hrow
  obtain ⟨A7, c7, hv7⟩ := hvr
  subst hv7
  have k8 : w.cell? ⟨g, 8, none⟩ = some (.slice A8 s.stack.length c8) := blk_cell hh.blk 8
  have hrg : s.ring nm = { s with rings := s.rings ++ [s.stack.dropWhile fun x => decide (x ≠ nm)] } := rfl
  rw [hrg]
  generalize hrd : s.stack.dropWhile (fun x => decide (x ≠ nm)) = rg
  have HRD := hide hrd
  clear hrd
  have HRW := hide hrow
  have HRR := hide hrr
  have hgl := hh.lt
  clear hrg hrow hrr
  go_enter Tryd.func109, Tryd.ntmps109
  go_wp2_with fail
  go_loopw [4, 5, 7, 13] (fun v on _ i wr => ∃ (k : Nat) (out : List Str) (ob : Bool), i = .int .i64 k ∧ k ≤ s.stack.length ∧ on = .bool ob ∧ Hid (ob = !out.isEmpty) ∧ Hid (out = (s.stack.take k).dropWhile fun x => decide (x ≠ nm)) ∧ out.length ≤ k ∧ Own fStr wr w.heap.size 9 v out ∧ Below w.heap.size w wr) (fun _ _ _ i _ => s.stack.length - (intOf i).toNat)
  case atStart => exact ⟨0, [], false, rfl, by omega, rfl, hide (by simp), hide (by simp), by simp, Own.nil _ _ _, Below.refl _ _⟩
  case round =>
    clear k8
    obtain ⟨k, out, ob, rfl, hk, rfl, HOB, HOUT, hol, HO, HB⟩ := hrel
    by_cases hlt : k < s.stack.length
    · obtain ⟨ad, hA, hc⟩ := (hs8.below HB).get hlt
      subst hA
      have e0 : wr.cell? (ad.add k) = some (.string s.stack[k]) := by simpa [fStr, kStr] using hc.2
      have htk := hide (List.take_succ_eq_append_getElem hlt)
      clear hc
      generalize s.stack[k] = x at e0 htk
      have hnx := hide (show (s.stack.take (k + 1)).dropWhile (fun y => decide (y ≠ nm)) = if out.isEmpty then [x].dropWhile (fun y => decide (y ≠ nm)) else out ++ [x] by
        rw [htk.out, List.dropWhile_append, ← HOUT.out])
      obtain ⟨A9, c9, hv9, _, _, _⟩ := HO.slV
      subst hv9
      cases ob with
      | true =>
        have HN := hide (show (s.stack.take (k + 1)).dropWhile (fun y => decide (y ≠ nm)) = out ++ [x] by
          have := HOB.out
          rw [hnx.out, if_neg (by intro e; rw [e] at this; simp at this)])
        have HO2 := HO
        go_wp2_with (at_builtin; refine append_own_g fStr w.heap.size rfl _ _ 29 9 (.string ByteArray.empty) 16 rfl Tryd.underlying29 info_str' rfl (by omega) (.slice A9 out.length c9) out x #[.string x] rfl rfl wr.heap.size rfl rfl HO HB HB.size (by omega) ?_; intro v1 w5 hown hbel _ _)
        go_roundw
        case rel => exact ⟨k + 1, out ++ [x], true, by go_num, by omega, rfl, hide (by simp), hide HN.out.symm, by simp; omega, hown, hbel⟩
        case measure => simp [intOf]; omega
      | false =>
        have ho0 : out = [] := by
          have := HOB.out
          cases out with
          | nil => rfl
          | cons a r => simp at this
        by_cases hx : x = nm
        · have e1 := beq_t hx
          have HN := hide (show (s.stack.take (k + 1)).dropWhile (fun y => decide (y ≠ nm)) = out ++ [x] by
            rw [hnx.out, ho0]; simp [hx])
          clear hx ho0
          go_wp2_with (at_builtin; refine append_own_g fStr w.heap.size rfl _ _ 29 9 (.string ByteArray.empty) 16 rfl Tryd.underlying29 info_str' rfl (by omega) (.slice A9 out.length c9) out x #[.string x] rfl rfl wr.heap.size rfl rfl HO HB HB.size (by omega) ?_; intro v1 w5 hown hbel _ _)
          go_roundw
          case rel => exact ⟨k + 1, out ++ [x], true, by go_num, by omega, rfl, hide (by simp), hide HN.out.symm, by simp; omega, hown, hbel⟩
          case measure => simp [intOf]; omega
        · have e1 := beq_f hx
          have HN := hide (show (s.stack.take (k + 1)).dropWhile (fun y => decide (y ≠ nm)) = out by
            rw [hnx.out, ho0]; simp [hx])
          clear hx ho0
          go_wp2_with fail
          go_roundw
          case rel => exact ⟨k + 1, out, false, by go_num, by omega, rfl, HOB, hide HN.out.symm, by omega, HO, HB⟩
          case measure => simp [intOf]; omega
    · obtain rfl : k = s.stack.length := by omega
      have hout := HOUT.out
      rw [List.take_length, HRD.out] at hout
      have HRO := hide hout
      obtain ⟨A9, c9, hv9, hc9, hd9, hs9⟩ := HO.slV
      subst hv9
      have hhf := hh.fresh HB
      have q7 : wr.cell? ⟨g, 7, none⟩ = some (.slice A7 s.rings.length c7) := blk_cell hhf.blk 7
      have hrow := HRW.out.kept (row := none) ⟨HB.os, HB.tape, HB.output, HB.size, fun i hi _ => HB.block i hi⟩ (by cases (Value.slice A7 s.rings.length c7).ownBlock <;> simp)
      have hu : Own fStr wr g 9 (.slice A9 out.length c9) out := HO.more (Nat.le_of_lt hgl)
      have huK : ∀ b, (Value.slice A9 out.length c9).ownBlock = some b → K b ∨ (w.heap.size ≤ b ∧ b < wr.heap.size) := fun b hb => .inr ⟨HO.le hb, HO.lt hb⟩
      have hun : ∀ (i : Nat) (h : Value) (b : Nat), hs[i]? = some h → h.ownBlock = some b → (Value.slice A9 out.length c9).ownBlock ≠ some b := fun i h b hi hb e => by
        have h1 := HO.le e
        have hil : i < s.rings.length := by
          have h4 := HRW.out.1
          rcases Nat.lt_or_ge i hs.length with h | h
          · omega
          · rw [List.getElem?_eq_none h] at hi; simp at hi
        obtain ⟨y, hy, _, hk⟩ := HRR.out.1 i _ (List.getElem?_eq_getElem hil)
        obtain rfl : y = h := Option.some.inj (hy.symm.trans hi)
        have := hh.KS b (hk b hb)
        omega
      have hrr2 : ∀ (i : Nat) (x : List Str), s.rings[i]? = some x → ∃ h, hs[i]? = some h ∧ Own fStr wr g 9 h x ∧ ∀ b, h.ownBlock = some b → K b ∨ (w.heap.size ≤ b ∧ b < wr.heap.size) := fun i x hi => by
        obtain ⟨y, hy, ho, hk⟩ := HRR.out.1 i x hi
        exact ⟨y, hy, ho.below HB, fun b hb => .inl (hk b hb)⟩
      have hlen : hs.length = s.rings.length := by have := HRW.out.1; omega
      have HRR2 := hide hrr2
      have HU := hide hu
      have HUK := hide huK
      have HUN := hide hun
      clear hrr2 hs9 hout HOUT HOB hu huK hun
      go_wp2_with (at_builtin; refine append_val rfl _ _ 39 29 (.slice none 0 0) 24 rfl Tryd.underlying39 info_sl rfl (by omega) (.slice A7 s.rings.length c7) s.rings.length hs (.slice A9 out.length c9) rfl rfl wr.heap.size rfl rfl hrow (by omega) ?_; intro v1 w5 hown hgr hnew; have hor := OwnR.snoc (out := out) HRR2.out HRR.out.2 hlen hgr hhf.ringsK hown HU.out HUK.out HUN.out; obtain ⟨hh5, hk5⟩ := hhf.rings_to hor hgr hnew; obtain ⟨A6, c6, hv6⟩ := row_form hown; subst hv6; have q7' : w5.cell? ⟨g, 7, none⟩ = some (.slice A7 s.rings.length c7) := blk_cell hh5.blk 7; have f7 := blk_free hh5.blk 7)
      have hs7 := hh5.set 7 (.slice A6 (s.rings.length + 1) c6)
      have hkw : Keep K w wr := Keep.of_below HB
      go_end0
      rw [← HRO.out]
      refine ⟨rfl, STo.of (K' := fun b => K b ∨ (w.heap.size ≤ b ∧ b < wr.heap.size)) ?_ (fun b hb => .inl hb) (hkw.then (hk5.then hs7.2 (fun b hb => hb)) (fun b hb => .inl hb))⟩
      have hin2 := (((hin.below HB).more (T := fun b => K b ∨ (w.heap.size ≤ b ∧ b < wr.heap.size)) (fun b hb => .inl hb)).same (hk5.same (fun b hb => hb) hhf.KS)).same (hs7.2.same (fun b hb => hb) hh5.KS)
      exact SAtV.sat (vc := vc) (vs := vs) (vr := .slice A6 (s.rings.length + 1) c6) (vk := .slice A8 s.stack.length c8) ⟨hs7.1, hin2⟩
end Go.Proofs.YtkhlicmlnjccdaaDoor
