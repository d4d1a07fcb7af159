/-
  Walks: the program's machine: an import, given what a body does.
-/
import Derived.Test.YtkhlicmlnjccdaaGreatDoorKt30
import Derived.Deep.CutBlock
import Derived.Deep.DeepCutAuto
namespace Go.Proofs.YtkhlicmlnjccdaaGreatDoor
open Go.RowKit Mem Go.Maps Go.ChangeMaps Go.WideMaps

namespace Mem
section
variable {P : Program} {ops : Array Oper} {o : Oper} {a : Act} {K : Act → World → Prop} {Q : Exit → Act → World → Prop} {E : Prop}
/-- append(v, ys...) of texts, at a step of a region that draws -/
theorem step_strs {W : World} {S : Nat → Prop} (base : Nat) (hgd : o.guard = none) (s x : Operand) (t e : TypeId)
    (ho : o.op = .call { callee := .builtin .append, args := #[s, x], argTypes := #[t, t] })
    (ht : P.underlying t = some (.slice e)) (hinfo : (P.info? e).map (fun i => (i.zero, i.size, i.bytes)) = some (some (.string ByteArray.empty), 1, 16))
    (v : Value) (xs ys : List Str) (A : Option Addr) (n c : Nat) (hs : a.eval s = v) (hx : a.eval x = .slice A n c) (hn : ys.length = n)
    (HO : Own fStr W base e v xs) (HS : Sl kStr W S A ys) (hbase : base ≤ W.heap.size) (hl : (xs.length + ys.length) * 16 ≤ 140737488355328)
    (h : ∀ v1 w1, Own fStr w1 base e v1 (xs ++ ys) → W.grownBy w1 v.ownBlock → (v1.ownBlock = v.ownBlock ∨ v1.ownBlock = some W.heap.size) → K (a.put o.dst v1) w1) :
    if Region.wanted o (yielded ops a.tmps) = true then Oper.wp P o a W K Q else E := by
  have hw : Region.wanted o (yielded ops a.tmps) = true := by simp [Region.wanted, hgd]
  rw [if_pos hw]
  subst hn
  obtain ⟨v1, w1, hr, h2, h3, h4⟩ := run_append_strs (P := P) base t o.type e ht hinfo v xs ys A c HO HS hbase hl
  unfold Oper.wp execOp
  simp only [ho, resolve, invoke, builtin, Sem.run_bind, Sem.run_pure, Result.andThen_ok, List.map_toArray, List.map_cons, List.map_nil, hs, hx, hr]
  exact h v1 w1 h2 h3 h4
/-- append of one value of one cell, at a step of a region that draws -/
theorem step_val {W : World} (hgd : o.guard = none) (s x : Operand) (t e : TypeId) (z : Value) (bytes : Nat)
    (ho : o.op = .call { callee := .builtin .append, args := #[s, x], argTypes := #[t, t] })
    (ht : P.underlying t = some (.slice e)) (hinfo : (P.info? e).map (fun i => (i.zero, i.size, i.bytes)) = some (some z, 1, bytes)) (hz : z.cells.size = 1) (hb0 : 0 < bytes)
    (v : Value) (n : Nat) (hs : List Value) (u : Value) (hu : u.oneCell' = true) (hsv : a.eval s = v) (g : Nat) (hx : a.eval x = .slice (some ⟨g, 0, none⟩) 1 1)
    (hblk : W.heap[g]? = some (.cells #[u] e (0, 0))) (HO : W.ownsRow 0 e 1 v n hs) (hl : (n + 1) * bytes ≤ 140737488355328)
    (h : ∀ v1 w1, w1.ownsRow 0 e 1 v1 (n + 1) (hs ++ [u]) → W.grownBy w1 v.ownBlock → (v1.ownBlock = v.ownBlock ∨ ∃ b, v1.ownBlock = some b ∧ W.heap.size ≤ b) → K (a.put o.dst v1) w1) :
    if Region.wanted o (yielded ops a.tmps) = true then Oper.wp P o a W K Q else E := by
  have hw : Region.wanted o (yielded ops a.tmps) = true := by simp [Region.wanted, hgd]
  rw [if_pos hw]
  obtain ⟨i0, hi, hzz⟩ := Option.map_eq_some_iff.1 hinfo
  simp only [Prod.mk.injEq] at hzz
  obtain ⟨hz0, hz1, hz2⟩ := hzz
  have hlen : n + 1 ≤ 140737488355328 := Nat.le_trans (Nat.le_mul_of_pos_right _ hb0) hl
  obtain ⟨v1, w1, hr, h2, h3, _, h5⟩ := run_append_own_at (P := P) W 0 t o.type e i0 z 1 bytes ht hi hz0 hz1 hz2 hz (by omega) v n hs HO ⟨g, 0, none⟩ 1 1 [u] rfl
    (World.news_of_block (cs := #[u]) (t := e) (fr := (0, 0)) hblk) (by intro y hy; rw [List.mem_singleton] at hy; rw [hy]; exact hu) (by simp only [maxLen]; omega) hl (Nat.zero_le _)
  unfold Oper.wp execOp
  simp only [ho, resolve, invoke, builtin, Sem.run_bind, Sem.run_pure, Result.andThen_ok, List.map_toArray, List.map_cons, List.map_nil, hsv, hx, hr]
  exact h v1 w1 h2 h3 (by
    rcases h5 with h5 | h5
    · exact .inl h5
    · exact .inr ⟨_, h5, Nat.le_refl _⟩)
end
theorem Sl.drop {α : Type} {k : Kind α} {w : World} {S : Nat → Prop} {g : Nat} {xs : List α} (h : Sl k w S (some ⟨g, 0, none⟩) xs) (n : Nat) : Sl k w S (some ⟨g, n * k.size, none⟩) (xs.drop n) := fun hne => by
  obtain ⟨ad, hA, hx⟩ := h (fun e => hne (by rw [e]; simp))
  injection hA with hA
  subst hA
  refine ⟨_, rfl, fun i x hi => ?_⟩
  rw [List.getElem?_drop] at hi
  have := hx (n + i) x hi
  rw [add_plain] at this ⊢
  rwa [show n * k.size + i * k.size = 0 + (n + i) * k.size by rw [Nat.add_mul]; omega]
end Mem
theorem ownsRow_below {w w' : World} {base sz n : Nat} {e : TypeId} {v : Value} {cs : List Value} (h : w.ownsRow base e sz v n cs) (hb : Below w.heap.size w w') : w'.ownsRow base e sz v n cs :=
  h.kept (row := none) ⟨hb.os, hb.tape, hb.output, hb.size, fun i hi _ => hb.block i hi⟩ (by cases v.ownBlock <;> simp)
/-- a ring was copied and put behind the others -/
theorem ring_done {w2 w3 : World} {g : Nat} {T : TypeId} {cs : Array Value} {K : Nat → Prop} {vc vs vr vk : Value} {recs : List RecD} {states : List StateD} {rings : List (List Str)} {stack : List Str} {rs : List Value} {u : Value} {out : List Str}
    (HH : Hold w2 g T cs K vc vs vr vk recs states rings stack) (hrow : w2.ownsRow 0 23 1 vr rings.length rs) (hrr : (∀ (i : Nat) (x : List Str), rings[i]? = some x → ∃ h, rs[i]? = some h ∧ Own fStr w2 g 9 h x ∧ ∀ b, h.ownBlock = some b → K b) ∧
      ∀ (i j : Nat) (h h' : Value) (b : Nat), rs[i]? = some h → rs[j]? = some h' → h.ownBlock = some b → h'.ownBlock = some b → i = j)
    (hb3 : Below w2.heap.size w2 w3) (hu : Own fStr w3 g 9 u out) (hn : u.ownBlock = none ∨ u.ownBlock = some w2.heap.size) {v2 : Value} {w4 : World} (hown : w4.ownsRow 0 23 1 v2 (rings.length + 1) (rs ++ [u]))
    (hgr : (w3.alloc (.cells #[u] 23)).grownBy w4 vr.ownBlock) (hnew : v2.ownBlock = vr.ownBlock ∨ ∃ b, v2.ownBlock = some b ∧ (w3.alloc (.cells #[u] 23)).heap.size ≤ b) :
    Hold w4 g T cs (fun b => K b ∨ (w2.heap.size ≤ b ∧ b < w3.heap.size)) vc vs v2 vk recs states (rings ++ [out]) stack ∧ Keep K w2 w4 := by
  have hba : Below w3.heap.size w3 (w3.alloc (.cells #[u] 23)) := Below.alloc (Below.refl _ _) (Nat.le_refl _) _
  have hHf := (HH.fresh hb3).below hba
  have hbb : Below w2.heap.size w2 (w3.alloc (.cells #[u] 23)) := below_then hb3 hb3.size hba
  have hlen : rs.length = rings.length := by have := hrow.1; omega
  have hor := OwnR.snoc (out := out) (B := g) (K := fun b => K b ∨ (w2.heap.size ≤ b ∧ b < w3.heap.size)) (fun i x hi => by
    obtain ⟨y, hy, ho, hk⟩ := hrr.1 i x hi
    exact ⟨y, hy, ho.below hbb, fun b hb => .inl (hk b hb)⟩) hrr.2 hlen hgr hHf.ringsK hown (hu.below hba) (fun b hb => by
    rcases hn with hn | hn
    · rw [hn] at hb; cases hb
    · rw [hn] at hb
      injection hb with hb
      have := hu.lt hn
      exact .inr (by omega)) (fun i h b hi hb e => by
    have hil : i < rings.length := by
      rcases Nat.lt_or_ge i rs.length with h | h
      · omega
      · rw [List.getElem?_eq_none h] at hi; simp at hi
    obtain ⟨y, hy, _, hk⟩ := hrr.1 i _ (List.getElem?_eq_getElem hil)
    obtain rfl : y = h := Option.some.inj (hy.symm.trans hi)
    have h1 := HH.KS b (hk b hb)
    rcases hn with hn | hn
    · rw [hn] at e; cases e
    · rw [hn] at e
      injection e with e
      omega)
  obtain ⟨h1, h2⟩ := hHf.rings_to hor hgr hnew
  exact ⟨h1, (Keep.of_below (K := K) hbb).then h2 (fun b hb => .inl hb)⟩
def numOf (c : Int) (s : Ld.St) : Int := if c = 6 then s.thrown else 0
def LoadP (g : Nat) (vR vM vF : Value) (bm bf : Nat) (D : WorldD) (f : Nat) : Prop :=
  ∀ (w : World) (K : Nat → Prop) (s : Ld.St) (b : Nat) (frm name : Str), PAt w g K vR vM vF bm bf D s → Ld.Good D s (b + 1) → f + s.stack.length = 40 → frm.size ≤ 1048576 → name.size ≤ 1048576 →
    Calls Tryz.prog 28 #[.pointer (some ⟨g, 0, none⟩), .string frm, .string name] w fun e w' => e = .returned (.tuple #[.int .i64 (Ld.get D f frm name s).2.1, .string (Ld.get D f frm name s).1, .int .i64 (numOf (Ld.get D f frm name s).2.1 (Ld.get D f frm name s).2.2)]) ∧ PTo w w' g K vR vM vF bm bf D (Ld.get D f frm name s).2.2
def PBodyP (g : Nat) (vR vM vF : Value) (bm bf : Nat) (D : WorldD) (f : Nat) : Prop :=
  ∀ (w : World) (K : Nat → Prop) (s : Ld.St) (b : Nat) (n : Str) (m : ModD) (A : Option Addr) (c : Nat) (i : Nat), PAt w g K vR vM vF bm bf D s → Ld.Good D s (b + 1) → f + 1 + s.stack.length = 40 → Ld.stAt s.states n = none → Ld.modAt D.mods n = some i → D.mods[i]? = some m →
    m.lines.length ≤ c → c ≤ maxLen → Sl kLine w K A m.lines →
    Calls Tryz.prog 74 #[.pointer (some ⟨g, 0, none⟩), .agg #[.string n, .slice A m.lines.length c]] w fun e w' => e = .returned (.tuple #[.int .i64 (Ld.body (Ld.get D f) D n s).1, .int .i64 (numOf (Ld.body (Ld.get D f) D n s).1 (Ld.body (Ld.get D f) D n s).2)]) ∧ PTo w w' g K vR vM vF bm bf D (Ld.body (Ld.get D f) D n s).2
theorem zero_mod : ∀ w : World, (zeroValue 75).run Tryz.prog w = .ok (.agg #[.string ⟨#[]⟩, .slice none 0 0]) w := fun _ => by kernel_rfl
theorem zero_bool : ∀ w : World, (zeroValue 4).run Tryz.prog w = .ok (.bool false) w := fun _ => by kernel_rfl
theorem look_str_wf {s : Str} (h : s.size ≤ 60) : keyOf Tryz.prog 9 (.string s) = some (.string s.data.toList) := keyOf_string_mk Tryz.underlying9 (by unfold maxLen; omega)
theorem look_int_wf {n : Nat} (h : n ≤ 400) : keyOf Tryz.prog 3 (.int .i64 (n : Int)) = some (.int .i64 (n : Int)) := keyOf_int_mk Tryz.underlying3 (by
  simp only [Lit.wf, Bool.and_eq_true, decide_eq_true_eq]
  have h1 : IntKind.i64.min = -9223372036854775808 := by decide +kernel
  have h2 : IntKind.i64.max = 9223372036854775807 := by decide +kernel
  rw [h1, h2]
  omega)

theorem first_in : ∀ {l : List Str} {n : Str}, n ∈ l → ∃ p, p < l.length ∧ l[p]? = some n ∧ (∀ (j : Nat) (x : Str), j < p → l[j]? = some x → x ≠ n) ∧ l.dropWhile (fun x => decide (x ≠ n)) = l.drop p
  | [], n, h => by simp at h
  | a :: r, n, h => by
    by_cases ha : a = n
    · exact ⟨0, by simp, by simp [ha], fun j x hj => by omega, by simp [ha]⟩
    · have hr : n ∈ r := by
        rcases List.mem_cons.1 h with h | h
        · exact absurd h.symm ha
        · exact h
      obtain ⟨p, h1, h2, h3, h4⟩ := first_in hr
      refine ⟨p + 1, by simp; omega, by simpa using h2, fun j x hj hx => ?_, by rw [List.dropWhile_cons_of_pos (by simpa using ha), h4]; rfl⟩
      rcases j with _ | j
      · obtain rfl : a = x := by simpa using hx
        exact ha
      · exact h3 j x (by omega) (by simpa using hx)

set_option maxRecDepth 100000 in
set_option maxHeartbeats 4000000 in
theorem load_step (g : Nat) (vR vM vF : Value) (bm bf : Nat) (D : WorldD) (hD : DOk D) (f : Nat) (hbody : ∀ f', f = f' + 1 → PBodyP g vR vM vF bm bf D f') : LoadP g vR vM vF bm bf D f := by
  intro w K s b frm name h hG hf hfs hns
  have h0 := h
  obtain ⟨vc, vs, vr, vk, hh, hin⟩ := h0
  obtain ⟨A1, c1, hv, hc1, hd1, hR⟩ := hin.inw.R
  subst hv
  have k0 : w.cell? ⟨g, 0, none⟩ = some (.slice A1 D.roots.length c1) := blk_cell hh.blk 0
  have hct := iTries_calls A1 c1 D.roots.length D.roots frm name K w hR rfl (by omega) hD.sz.r (by omega) (by omega) hin.ml
  have hfd : Ld.find D frm name s = if Nm.tries D.roots frm name = [] then (⟨#[]⟩, 1, s) else Ld.look D (Nm.tries D.roots frm name) s := rfl
  have hfo := Ld.find_ok D frm name s (b + 1) hG
  have hne : ∀ x ∈ Nm.tries D.roots frm name, x ≠ ⟨#[]⟩ ∧ x.size ≤ 60 := fun x hx => ⟨Nm.tries_ne hx, Nm.clean_short (by rw [(Nm.tries_fine D.roots frm name).1 x hx])⟩
  have hget := Ld.get_after D f frm name s
  generalize Ld.get D f frm name s = res at hget ⊢
  generalize Nm.tries D.roots frm name = ts at hct hfd hfo hne
  generalize Ld.find D frm name s = fres at hfd hget hfo
  have HFD := hide hfd
  have HFO := hide hfo
  have HCT := hide hct
  have HG0 := hide hG
  have HNE := hide hne
  have HGE := hide hget
  have HF := hide hf
  clear hct hfd hh hin hR hG hne hget hf hfo
  go_enter Tryz.func28, Tryz.ntmps28
  go_wp2_with fail
  refine (unhide HCT).mono ?_
  rintro e w1 ⟨v8, rfl, H8, hb1⟩
  obtain ⟨A8, c8, hv8, hc8, hd8, _⟩ := H8.slV
  subst hv8
  have hsl := H8.slIn (K := K)
  have hsat := h.fresh hb1
  have hk1 := Keep.of_below (K := K) hb1
  have hlm := mem_maxLen _ (show ts.length ≤ maxLen by omega)
  clear H8 hb1 HCT k0
  by_cases he : ts = []
  · have HQ := hide (HFD.out.trans (if_pos he))
    have HR := hide (show res = (⟨#[]⟩, 1, s) by rw [HGE.out, HQ.out]; exact if_pos (by simp))
    subst he
    go_wp2_with fail
    go_ret3
    rw [HR.out]
    exact ⟨rfl, PTo.of hsat (fun b hb => .inl hb) hk1⟩
  replace HFD := hide (HFD.out.trans (if_neg he))
  have hpos : 0 < ts.length := Nat.pos_of_ne_zero (fun e => he (List.eq_nil_of_length_eq_zero e))
  have hposI : (0 : Int) < ts.length := by omega
  have hb0 : ((ts.length : Int) == 0) = false := by simp; omega
  clear he
  go_upto_block 0 with fail
  go_cut [10] (fun x wx => ∃ (n : Str) (c : Int) (s1 : Ld.St), x = .string n ∧ Hid ((n = ⟨#[]⟩ ∧ c = 2) ∨ (n ≠ ⟨#[]⟩ ∧ n.size ≤ 60 ∧ c = 0)) ∧ Hid (Ld.look D ts s = (n, c, s1)) ∧ PAt wx g (fun b => K b ∨ (w.heap.size ≤ b ∧ b < w1.heap.size)) (.slice A1 D.roots.length c1) vM vF bm bf D s1 ∧ Keep K w wx)
  case first =>
    go_wp2_with fail
    go_loopw [10, 12, 13, 14, 15, 33] (fun x _ _ _ _ i wr => ∃ (k : Nat) (s1 : Ld.St), x = .string ⟨#[]⟩ ∧ i = .int .i64 k ∧ k ≤ ts.length ∧ Hid (Ld.look D ts s = Ld.look D (ts.drop k) s1) ∧ PAt wr g (fun b => K b ∨ (w.heap.size ≤ b ∧ b < w1.heap.size)) (.slice A1 D.roots.length c1) vM vF bm bf D s1 ∧ Keep (fun b => K b ∨ (w.heap.size ≤ b ∧ b < w1.heap.size)) w1 wr ∧ Hid (Ld.Good D s1 (b + 1))) (fun _ _ _ _ _ i _ => ts.length - (intOf i).toNat)
    case atStart => exact ⟨0, s, rfl, rfl, by omega, rfl, hsat, Keep.refl _ _, HG0⟩
    case round =>
      clear hsat
      obtain ⟨k, s1, rfl, rfl, hk, HL, hsat, hkp, HG⟩ := hrel
      have hkk := hk1.then hkp (fun b hb => .inl hb)
      by_cases hlt : k < ts.length
      · obtain ⟨ad, hA, hc⟩ := (hsl.keep hkp).get hlt
        subst hA
        have e0 : wr.cell? (ad.add k) = some (.string ts[k]) := by simpa [fStr, kStr] using hc.2
        have hdr := drop_eq hlt
        have hnn := HNE.out _ (List.getElem_mem hlt)
        clear hc
        generalize ts[k] = n at e0 hdr hnn
        have HL2 := hide (HL.out.trans (by rw [hdr]))
        have hnz := hnn.2
        have HNN := hide hnn.1
        have hsat' := hsat
        obtain ⟨vc, vs, vr, vk, hh, hin⟩ := hsat'
        obtain ⟨A5, c5, hv5, hc5, hd5, hs5⟩ := hh.states.slV
        subst hv5
        have k7 : wr.cell? ⟨g, 7, none⟩ = some (.slice A5 (s1.states.map hid).length c5) := blk_cell hh.blk 7
        have k8 : wr.cell? ⟨g, 8, none⟩ = some (.int .i64 s1.reads) := blk_cell hh.blk 8
        have hcs := at_calls g A5 c5 (s1.states.map hid).length (s1.states.map hid) n _ wr k7 hs5 rfl (by omega)
        rw [stAt_hid] at hcs
        clear hdr hh hin hs5 hnn
        cases hst : Ld.stAt s1.states n with
        | some i =>
          rw [hst] at hcs
          replace hcs : Calls Tryz.prog 72 #[.pointer (some ⟨g, 0, none⟩), .string n] wr fun e w' => e = .returned (.int .i64 (i : Int)) ∧ Below wr.heap.size wr w' := hcs
          have HCS := hide hcs
          have HQ := hide (show Ld.look D ts s = (n, 0, s1) by rw [HL2.out]; unfold Ld.look; rw [hst]; rfl)
          clear hcs hst k7 k8
          go_wp2_with fail
          refine (unhide HCS).mono ?_
          rintro e w2 ⟨rfl, hb2⟩
          go_wp2_with fail
          go_meet
          exact ⟨n, 0, s1, rfl, hide (.inr ⟨HNN.out, hnz, rfl⟩), HQ, hsat.below hb2, hkk.then (Keep.of_below hb2) (fun b hb => hb)⟩
        | none =>
          rw [hst] at hcs
          replace hcs : Calls Tryz.prog 72 #[.pointer (some ⟨g, 0, none⟩), .string n] wr fun e w' => e = .returned (.int .i64 (-1)) ∧ Below wr.heap.size wr w' := hcs
          have HCS := hide hcs
          have hre := HG.out.reads
          have hrr := HG.out.room
          have HST := hide hst
          clear hcs hst k7 k8
          go_wp2_with fail
          refine (unhide HCS).mono ?_
          rintro e w2 ⟨rfl, hb2⟩
          have hsat2 := hsat.below hb2
          have hkp2 := hkp.then (Keep.of_below (K := fun b => K b ∨ (w.heap.size ≤ b ∧ b < w1.heap.size)) hb2) (fun b hb => hb)
          have hkk2 := hk1.then hkp2 (fun b hb => .inl hb)
          clear hb2 HCS e0 hsat hkp hkk
          obtain ⟨vc, vs, vr, vk, hh, hin⟩ := id hsat2
          have k8 : w2.cell? ⟨g, 8, none⟩ = some (.int .i64 s1.reads) := blk_cell hh.blk 8
          by_cases h400 : s1.reads = 400
          · have HQ := hide (show Ld.look D ts s = (⟨#[]⟩, 3, s1) by rw [HL2.out]; unfold Ld.look; rw [HST.out, if_neg (by simp), if_pos h400])
            have HR := hide (show res = (⟨#[]⟩, 3, s1) by rw [HGE.out, HFD.out, HQ.out]; exact if_pos (by simp))
            have e4 : ((s1.reads : Int) == 400) = true := by simp; omega
            clear h400 hh hin
            go_wp2_with fail
            go_ret3
            rw [HR.out]
            exact ⟨rfl, PTo.of hsat2 (fun b hb => .inl hb) hkk2⟩
          have hlc := Ld.look_cons D n (ts.drop (k + 1)) s1 HST.out h400
          have HGN := hide (HG.out.readNote h400 ⟨1, n, Ld.rcode D s1 n, 0⟩)
          have e4 : ((s1.reads : Int) == 400) = false := by simp; omega
          have HLC := hide (HL2.out.trans hlc)
          have hr4 : s1.reads < 400 := by omega
          have k8' := k8
          have f8 := blk_free hh.blk 8
          have hset := hh.set 8 (.int .i64 ((s1.reads : Int) + 1))
          have hin3 := hin.same (hset.2.same (fun b hb => hb) hh.KS)
          have hp3 : PAt (w2.setCell ⟨g, 8, none⟩ (.int .i64 ((s1.reads : Int) + 1))) g (fun b => K b ∨ (w.heap.size ≤ b ∧ b < w1.heap.size)) (.slice A1 D.roots.length c1) vM vF bm bf D s1.read := PAtV.pat (vc := vc) (vs := vs) (vr := vr) (vk := vk) ⟨hset.1, hin3⟩
          have hkp3 := hkp2.then hset.2 (fun b hb => hb)
          have hkk3 := hk1.then hkp3 (fun b hb => .inl hb)
          have HH3 := hide hset.1.blk
          clear hlc hset hh hin h400 hkp2 hkk2 k8'
          go_upto_region 14 with fail
          generalize w2.setCell ⟨g, 8, none⟩ (.int .i64 ((s1.reads : Int) + 1)) = W3 at hin3 hp3 hkp3 hkk3 HH3 ⊢
          clear k8 f8 hsat2
          have k3 : W3.cell? ⟨g, 3, none⟩ = some (.map (some bm)) := blk_cell HH3.out 3
          have k4 : W3.cell? ⟨g, 4, none⟩ = some (.map (some bf)) := blk_cell HH3.out 4
          obtain ⟨ff, fn, hmf, hfv⟩ := hin3.faults.is
          have hlk := hmf.look (int_keyed Tryz.underlying3) Tryz.underlying70 (zero_bool W3) (look_int_wf (n := s1.reads) (by omega)) trivial
          rw [hfv] at hlk
          obtain ⟨fm, mn, hmm, hm0, hm1⟩ := hin3.mods.is
          have hlm' := hmm.look_ok (string_keyed Tryz.underlying9) Tryz.underlying69 (zero_mod W3) (look_str_wf hnz) trivial
          by_cases hfl : (s1.reads : Int) ∈ D.faults
          · rw [if_pos hfl] at hlk
            have hrc : Ld.rcode D s1 n = 3 := by unfold Ld.rcode; rw [if_pos hfl]
            have HQ := hide (show Ld.look D ts s = (n, 3, s1.read.note ⟨1, n, 3, 0⟩) by rw [HLC.out, hrc]; rfl)
            have HR := hide (show res = (n, 3, s1.read.note ⟨1, n, 3, 0⟩) by rw [HGE.out, HFD.out, HQ.out]; exact if_pos (by simp))
            clear hfl hrc hlm' hm0 hm1 hmm hfv hmf hin3
            go_wp2_with fail
            refine (note_calls W3 g _ _ vM vF bm bf D s1.read hp3 1 3 0 n (show s1.recs.length ≤ 9000 by omega)).mono ?_
            rintro e w4 ⟨rfl, hp4, hk4⟩
            go_wp2_with fail
            go_ret3
            rw [HR.out]
            exact ⟨rfl, PTo.of hp4 (fun b hb => .inl hb) (hkk3.then hk4 (fun b hb => .inl hb))⟩
          rw [if_neg hfl] at hlk
          cases hmo : Ld.modAt D.mods n with
          | none =>
            rw [hm0 n hmo] at hlm'
            have hrc : Ld.rcode D s1 n = 2 := by unfold Ld.rcode; rw [if_neg hfl, hmo]; rfl
            have HQ := hide (show Ld.look D ts s = Ld.look D (ts.drop (k + 1)) (s1.read.note ⟨1, n, 2, 0⟩) by rw [HLC.out, hrc, if_neg (by decide), if_neg (by decide)])
            rw [hrc] at HGN
            have HGN2 := hide HGN.out
            have hlk' : (Instr.lookup 70 (.map (some bf)) (.int .i64 s1.reads) false).run Tryz.prog W3 = .ok (.bool false) W3 := hlk
            have hlm2 : (Instr.lookup 69 (.map (some bm)) (.string n) true).run Tryz.prog W3 = .ok (.tuple #[.agg #[.string ⟨#[]⟩, .slice none 0 0], .bool false]) W3 := hlm'
            have hbA : Below W3.heap.size W3 (W3.alloc (Obj.cells #[.string ⟨#[]⟩, .slice none 0 0] 75)) := by (repeat (first | with_reducible exact Below.refl _ _ | with_reducible assumption | with_reducible refine Below.alloc ?_ (by first | exact Nat.le_refl _ | exact Below.size (by assumption) | exact Nat.le_trans (Below.size (by assumption)) (by simp; done) | (simp; done) | (simp; omega) | omega) _ | with_reducible refine below_drewN ?_ _ | with_reducible refine Below.drew ?_ | with_reducible refine Below.setCell ?_ (by first | exact Nat.le_refl _ | (simp; done) | (simp; omega) | omega) _))
            have hpA := hp3.below hbA
            have hkpA := hkp3.then (Keep.of_below (K := fun b => K b ∨ (w.heap.size ≤ b ∧ b < w1.heap.size)) hbA) (fun b hb => hb)
            clear hfl hrc hlm' hm0 hm1 hmm hfv hmf hin3 hmo HGN hlk
            go_wp2_with fail
            refine (note_calls _ g _ _ vM vF bm bf D s1.read hpA 1 2 0 n (show s1.recs.length ≤ 9000 by omega)).mono ?_
            rintro e w4 ⟨rfl, hp4, hk4⟩
            have hkp4 := hkpA.then hk4 (fun b hb => hb)
            clear hpA hkpA hk4 hp3 hkp3 hlk' hlm2 hbA
            go_wp2_with fail
            go_roundw
            case rel => exact ⟨k + 1, _, rfl, by go_num, by omega, HQ, hp4, hkp4, HGN2⟩
            case measure => simp [intOf]; omega
          | some i =>
            obtain ⟨m, hmi, hmn⟩ := Ld.modAt_some hmo
            obtain ⟨v, hfm, A4, c4, rfl, hl4, hm4, hs4⟩ := hm1 n i m hmo hmi
            rw [hfm] at hlm'
            have hrc : Ld.rcode D s1 n = 0 := by unfold Ld.rcode; rw [if_neg hfl, hmo]; rfl
            have HQ := hide (show Ld.look D ts s = (n, 0, s1.read.note ⟨1, n, 0, 0⟩) by rw [HLC.out, hrc]; rfl)
            have hlk' : (Instr.lookup 70 (.map (some bf)) (.int .i64 s1.reads) false).run Tryz.prog W3 = .ok (.bool false) W3 := hlk
            have hlm2 : (Instr.lookup 69 (.map (some bm)) (.string n) true).run Tryz.prog W3 = .ok (.tuple #[.agg #[.string m.name, .slice A4 m.lines.length c4], .bool true]) W3 := hlm'
            have hbA : Below W3.heap.size W3 (W3.alloc (Obj.cells #[.string m.name, .slice A4 m.lines.length c4] 75)) := by (repeat (first | with_reducible exact Below.refl _ _ | with_reducible assumption | with_reducible refine Below.alloc ?_ (by first | exact Nat.le_refl _ | exact Below.size (by assumption) | exact Nat.le_trans (Below.size (by assumption)) (by simp; done) | (simp; done) | (simp; omega) | omega) _ | with_reducible refine below_drewN ?_ _ | with_reducible refine Below.drew ?_ | with_reducible refine Below.setCell ?_ (by first | exact Nat.le_refl _ | (simp; done) | (simp; omega) | omega) _))
            have hpA := hp3.below hbA
            have hkpA := hkp3.then (Keep.of_below (K := fun b => K b ∨ (w.heap.size ≤ b ∧ b < w1.heap.size)) hbA) (fun b hb => hb)
            clear hfl hrc hlm' hm0 hm1 hmm hfv hmf hin3 hmo hlk hfm hmi hmn hs4
            go_wp2_with fail
            refine (note_calls _ g _ _ vM vF bm bf D s1.read hpA 1 0 0 n (show s1.recs.length ≤ 9000 by omega)).mono ?_
            rintro e w4 ⟨rfl, hp4, hk4⟩
            have hkp4 := hkpA.then hk4 (fun b hb => hb)
            clear hpA hkpA hk4 hp3 hkp3 hlk' hlm2 hbA
            go_wp2_with fail
            go_meet
            exact ⟨n, 0, _, rfl, hide (.inr ⟨HNN.out, hnz, rfl⟩), HQ, hp4, hk1.then hkp4 (fun b hb => .inl hb)⟩
      · obtain rfl : k = ts.length := by omega
        have HQ := hide (show Ld.look D ts s = (⟨#[]⟩, 2, s1) by rw [HL.out, List.drop_length]; rfl)
        go_wp2_with fail
        go_meet
        exact ⟨⟨#[]⟩, 2, s1, rfl, hide (.inl ⟨rfl, rfl⟩), HQ, hsat, hkk⟩
  case rest =>
    clear hsat hk1 hsl
    obtain ⟨n, c, s1, rfl, HCD, HQL, hsat, hk1⟩ := hcut
    rcases HCD.out with ⟨rfl, rfl⟩ | ⟨hn0, hnz, rfl⟩
    · have HR := hide (show res = (⟨#[]⟩, 2, s1) by rw [HGE.out, HFD.out, HQL.out]; exact if_pos (by simp))
      go_wp2_with fail
      go_ret3
      rw [HR.out]
      exact ⟨rfl, PTo.of hsat (fun b hb => .inl hb) hk1⟩
    have hq := HFD.out.trans HQL.out
    have hfo := HFO.out
    have HRES := hide (show res = (n, Ld.after D f n s1) by rw [HGE.out, hq]; rfl)
    rw [hq] at hfo
    obtain ⟨G1, E1, E2, E3, E4, F6, E5⟩ := hfo
    clear E3 E4 E5
    replace G1 : Ld.Good D s1 (b + 1) := G1
    replace E1 : s1.states = s.states := E1
    replace E2 : s1.stack = s.stack := E2
    have HF6 := hide (F6 rfl)
    replace HF6 : Hid (n ∈ ts ∧ (Ld.stAt s.states n = none → (Ld.modAt D.mods n).isSome = true)) := HF6
    have HG1 := hide G1
    have HE1 := hide E1
    have HE2 := hide E2
    have e5 := tl_n hn0
    clear G1 E1 E2 F6 hq hn0 HFD HGE HQL HFO HCD HG0
    obtain ⟨vc, vs, vr, vk, hh, hin⟩ := id hsat
    obtain ⟨A5, c5, hv5, hc5, hd5, hs5⟩ := hh.states.slV
    subst hv5
    have k7 : wc.cell? ⟨g, 7, none⟩ = some (.slice A5 (s1.states.map hid).length c5) := blk_cell hh.blk 7
    have hcs := at_calls g A5 c5 (s1.states.map hid).length (s1.states.map hid) n _ wc k7 hs5 rfl (by omega)
    rw [stAt_hid] at hcs
    cases hst : Ld.stAt s1.states n with
    | some i =>
      rw [hst] at hcs
      replace hcs : Calls Tryz.prog 72 #[.pointer (some ⟨g, 0, none⟩), .string n] wc fun e w' => e = .returned (.int .i64 (i : Int)) ∧ Below wc.heap.size wc w' := hcs
      have HCS := hide hcs
      obtain ⟨t, hti, htn⟩ := Ld.stAt_some hst
      have hil0 : i < s1.states.length := by
        rcases Nat.lt_or_ge i s1.states.length with h | h
        · exact h
        · rw [List.getElem?_eq_none h] at hti; simp at hti
      have hil : i < (s1.states.map hid).length := by rw [List.length_map]; exact hil0
      obtain ⟨bd, hA, _, l1, _⟩ := hs5.get hil
      subst hA
      have ht : (s1.states.map hid)[i] = hid t := by have := map_hid_at hti; rw [List.getElem?_eq_getElem hil] at this; exact Option.some.inj this
      rw [ht, hid_now] at l1
      have e6 : wc.cell? ⟨(bd.add (i * 4)).block, (bd.add (i * 4)).off + 1, none⟩ = some (.int .i64 t.now) := by have := l1.2; rwa [add_pos _ _ (by omega)] at this
      have hilI : (i : Int) < (s1.states.map hid).length := by omega
      have hres2 : res = (n, if decide (t.now = 1) = true then ((4 : Int), s1.ring n) else if decide (t.now = 3) = true then (5, s1) else (0, s1)) := by
        rw [HRES.out]
        congr 1
        cases f with
        | zero =>
          show Ld.deep s1 n = _
          unfold Ld.deep
          rw [hst]
          simp only [any_now hti]
        | succ f' =>
          show Ld.enter _ _ n s1 = _
          unfold Ld.enter
          rw [hst]
          simp only [any_now hti]
      have HR2 := hide hres2
      have hroom := HG1.out.room
      have hstk := HG1.out.stack
      have HLD := hide (fun h1 => htn ▸ HG1.out.load t (List.mem_of_getElem? hti) h1)
      clear hcs hst l1 ht hti hs5 hres2 hh hin htn
      go_wp2_with fail
      refine (unhide HCS).mono ?_
      rintro e w2 ⟨rfl, hb2⟩
      have q7 : w2.cell? ⟨g, 7, none⟩ = some (.slice (some bd) (s1.states.map hid).length c5) := (hb2.cell (p := ⟨g, 7, none⟩) (World.block_lt_of_cell? _ _ k7)).trans k7
      have q6 : w2.cell? ⟨(bd.add (i * 4)).block, (bd.add (i * 4)).off + 1, none⟩ = some (.int .i64 t.now) := (hb2.cell (World.block_lt_of_cell? _ _ e6)).trans e6
      have hs2 := hsat.below hb2
      have hk2 := hk1.then (Keep.of_below (K := K) hb2) (fun b hb => hb)
      clear k7 e6 hb2 hsat hk1 HCS
      by_cases n1 : t.now = 1
      · have b1 : (t.now == 1) = true := by simpa using n1
        have HQ := hide (HR2.out.trans (show _ = (n, (4 : Int), s1.ring n) by simp [n1]))
        have hmem := HLD.out n1
        clear n1 HR2 HLD
        go_upto_block 3 with fail
        obtain ⟨pp, hp1, hp2, hp3, hp4⟩ := first_in hmem
        have HP2 := hide hp2
        have HP3 := hide hp3
        have HP4 := hide hp4
        obtain ⟨vc, vs, vr, vk, hh, hin⟩ := id hs2
        have hkne : s1.stack ≠ [] := by intro h0; rw [h0] at hp1; simp at hp1
        obtain ⟨gk, ck, hxk, _, hgk, hck, hck2, hokb, hslk⟩ := hh.stack.form hkne
        subst hxk
        obtain ⟨rs, hrow, hrr⟩ := hh.rings
        obtain ⟨A7, c7, hv7⟩ := row_form hrow
        subst hv7
        have k9 : w2.cell? ⟨g, 9, none⟩ = some (.slice A7 s1.rings.length c7) := blk_cell hh.blk 9
        have k10 : w2.cell? ⟨g, 10, none⟩ = some (.slice (some ⟨gk, 0, none⟩) s1.stack.length ck) := blk_cell hh.blk 10
        have HH := hide hh
        have HIN := hide hin
        have HRW := hide hrow
        have HRR := hide hrr
        clear hp2 hp3 hp4 hmem hokb q7 q6 hh hin hrow hrr
        have hlk := mem_maxLen _ (show s1.stack.length ≤ maxLen by unfold maxLen; omega)
        go_wp2_with fail
        go_loop [17] (fun x => ∃ k : Nat, x = .int .i64 k ∧ k ≤ pp) (fun x => pp - (intOf x).toNat)
        case atStart => exact ⟨0, rfl, by omega⟩
        case round =>
          obtain ⟨k, rfl, hk⟩ := hrel
          have hkl : k < s1.stack.length := by omega
          obtain ⟨ad, hA, hc⟩ := hslk.get hkl
          injection hA with hA
          subst hA
          have e7 : w2.cell? ⟨gk, k, none⟩ = some (.string s1.stack[k]) := by
            have := hc.2
            rw [add_plain] at this
            simpa [fStr, kStr] using this
          have hkI : (k : Int) < s1.stack.length := by omega
          have hx := hide (List.getElem?_eq_getElem hkl)
          clear hc
          generalize s1.stack[k] = x at e7 hx
          by_cases hkp : k = pp
          · subst hkp
            have hxn : x = n := by have := hx.out.symm.trans HP2.out; exact Option.some.inj this
            subst hxn
            have e8 : (!x.toList == x.toList) = false := by simp
            have hcI : (k : Int) ≤ ck := by omega
            go_wp2_with fail
            have hdr := Sl.drop hslk k
            rw [show k * fStr.kind.size = k from Nat.mul_one k] at hdr
            have hdl : (s1.stack.drop k).length = s1.stack.length - k := List.length_drop
            have hgl2 := HH.out.lt
            have hkn : k ≤ s1.stack.length := by omega
            have hck3 : ¬ ck = k := by omega
            clear e7 e8 hslk
            go_region_law (first
              | ((refine step_strs g (by rfl) _ _ 23 9 (by rfl) Tryz.underlying23 info_str' (.slice none 0 0) [] (s1.stack.drop k) (some ⟨gk, k, none⟩) _ _ (by rfl) (by rfl) (by rw [hdl]) (Own.nil _ _ _) (Sl.below hdr (by (repeat (first | with_reducible exact Below.refl _ _ | with_reducible assumption | with_reducible refine Below.alloc ?_ (by first | exact Nat.le_refl _ | exact Below.size (by assumption) | exact Nat.le_trans (Below.size (by assumption)) (by simp; done) | (simp; done) | (simp; omega) | omega) _ | with_reducible refine below_drewN ?_ _ | with_reducible refine Below.drew ?_ | with_reducible refine Below.setCell ?_ (by first | exact Nat.le_refl _ | (simp; done) | (simp; omega) | omega) _)))) (by show g ≤ w2.heap.size; omega) (by rw [hdl]; simp; omega) ?_; intro v1 w3 hown hgr hnew; rw [List.nil_append] at hown; have hb3 : Below w2.heap.size w2 w3 := ⟨hgr.os, hgr.tape, hgr.output, hgr.size, fun b hb => hgr.block b hb (by simp [Value.ownBlock])⟩; obtain ⟨B1, d1, hv1, _, _, _⟩ := hown.slV; rw [hdl] at hv1; subst hv1; have hn1 : (Value.slice B1 (s1.stack.length - k) d1).ownBlock = none ∨ (Value.slice B1 (s1.stack.length - k) d1).ownBlock = some w2.heap.size := hnew; have k9' : w3.cell? ⟨g, 9, none⟩ = some (.slice A7 s1.rings.length c7) := blk_cell (HH.out.below hb3).blk 9; have gl3 : g < w3.heap.size := Nat.lt_of_lt_of_le hgl2 hb3.size; clear hgr hnew))
              | ((refine step_val (by rfl) _ _ 32 23 (.slice none 0 0) 24 (by rfl) Tryz.underlying32 info_sl rfl (by omega) (.slice A7 s1.rings.length c7) s1.rings.length rs _ rfl (by rfl) _ (by rfl) (by exact heap_alloc_new _ _) (ownsRow_below HRW.out (by (repeat (first | with_reducible exact Below.refl _ _ | with_reducible assumption | with_reducible refine Below.alloc ?_ (by first | exact Nat.le_refl _ | exact Below.size (by assumption) | exact Nat.le_trans (Below.size (by assumption)) (by simp; done) | (simp; done) | (simp; omega) | omega) _ | with_reducible refine below_drewN ?_ _ | with_reducible refine Below.drew ?_ | with_reducible refine Below.setCell ?_ (by first | exact Nat.le_refl _ | (simp; done) | (simp; omega) | omega) _)))) (by omega) ?_; intro v2 w4 hown2 hgr2 hnew2; obtain ⟨hh4, hk4⟩ := ring_done HH.out HRW.out HRR.out hb3 hown hn1 hown2 hgr2 hnew2; obtain ⟨A6, c6, hv6⟩ := row_form hown2; subst hv6; have q9 : w4.cell? ⟨g, 9, none⟩ = some (.slice A7 s1.rings.length c7) := blk_cell hh4.blk 9; have f9 := blk_free hh4.blk 9; clear hown2 hgr2 hnew2)))
            all_goals
              have hs9 := hh4.set 9 (.slice A6 (s1.rings.length + 1) c6)
              have hkA := hk4.then hs9.2 (fun b hb => .inl hb)
              have hin9 := (HIN.out.same (hkA.same (fun b hb => hb) HH.out.KS)).more (K' := fun b => (K b ∨ (w.heap.size ≤ b ∧ b < w1.heap.size)) ∨ (w2.heap.size ≤ b ∧ b < w3.heap.size)) (fun b hb => .inl hb)
              have hrg : s1.ring x = { s1 with rings := s1.rings ++ [s1.stack.drop k] } := by unfold Ld.St.ring; rw [HP4.out]
              have hpt : PAt (w4.setCell ⟨g, 9, none⟩ (.slice A6 (s1.rings.length + 1) c6)) g (fun b => (K b ∨ (w.heap.size ≤ b ∧ b < w1.heap.size)) ∨ (w2.heap.size ≤ b ∧ b < w3.heap.size)) (.slice A1 D.roots.length c1) vM vF bm bf D { s1 with rings := s1.rings ++ [s1.stack.drop k] } :=
                PAtV.pat (vc := vc) (vs := vs) (vr := .slice A6 (s1.rings.length + 1) c6) (vk := .slice (some ⟨gk, 0, none⟩) s1.stack.length ck) ⟨hs9.1, hin9⟩
              have HRG := hide hrg
              clear hs9 hin9 hrg hh4 q9 f9
              go_wp2_with fail
              go_ret3
              rw [HQ.out, HRG.out]
              exact ⟨rfl, PTo.of hpt (fun b hb => .inl (.inl hb)) (hk2.then hkA (fun b hb => .inl hb))⟩
          · have hxn : x ≠ n := HP3.out k x (by omega) hx.out
            have e8 := nbeq_f hxn
            have HXN := hide hxn
            clear hxn
            go_wp2_with fail
            go_round
            case rel => exact ⟨k + 1, by go_num, by omega⟩
            case measure => simp [intOf]; omega
      · have b1 : (t.now == 1) = false := by simpa using n1
        by_cases n3 : t.now = 3
        · have b3 : (t.now == 3) = true := by simpa using n3
          have HQ := hide (HR2.out.trans (show _ = (n, (5 : Int), s1) by simp [n3]))
          clear n1 n3 HR2
          go_wp2_with fail
          go_ret3
          rw [HQ.out]
          exact ⟨rfl, PTo.of hs2 (fun b hb => .inl hb) hk2⟩
        · have b3 : (t.now == 3) = false := by simpa using n3
          have HQ := hide (HR2.out.trans (show _ = (n, (0 : Int), s1) by simp [n1, n3]))
          clear n1 n3 HR2
          go_wp2_with fail
          go_ret3
          rw [HQ.out]
          exact ⟨rfl, PTo.of hs2 (fun b hb => .inl hb) hk2⟩
    | none =>
      rw [hst] at hcs
      replace hcs : Calls Tryz.prog 72 #[.pointer (some ⟨g, 0, none⟩), .string n] wc fun e w' => e = .returned (.int .i64 (-1)) ∧ Below wc.heap.size wc w' := hcs
      have HCS := hide hcs
      have HST := hide hst
      have hsk : s1.stack.length = s.stack.length := by rw [HE2.out]
      clear hcs hst hs5 hh hin k7
      go_wp2_with fail
      refine (unhide HCS).mono ?_
      rintro e w2 ⟨rfl, hb2⟩
      have hs2 := hsat.below hb2
      have hk2 := hk1.then (Keep.of_below (K := K) hb2) (fun b hb => hb)
      clear hb2 hsat hk1 HCS
      obtain ⟨vc, vs, vr, vk, hh, hin⟩ := id hs2
      obtain ⟨A8', c8', hv8', _, _, _⟩ := hh.stack.slV
      subst hv8'
      have k10 : w2.cell? ⟨g, 10, none⟩ = some (.slice A8' s1.stack.length c8') := blk_cell hh.blk 10
      cases f with
      | zero =>
        have h40 : (40 : Int) ≤ s1.stack.length := by have := HF.out; omega
        have HQ := hide (HRES.out.trans (show _ = (n, (7 : Int), s1) by show (n, Ld.deep s1 n) = _; unfold Ld.deep; rw [HST.out]))
        clear HRES hh hin
        go_wp2_with fail
        go_ret3
        rw [HQ.out]
        exact ⟨rfl, PTo.of hs2 (fun b hb => .inl hb) hk2⟩
      | succ f' =>
        have h40 : (s1.stack.length : Int) < 40 := by have := HF.out; omega
        have HQ := hide (HRES.out.trans (show _ = (n, Ld.body (Ld.get D f') D n s1) by show (n, Ld.enter _ _ n s1) = _; unfold Ld.enter; rw [HST.out]))
        have hmm := HF6.out.2 (by rw [← HE1.out]; exact HST.out)
        obtain ⟨mi, hmi⟩ := Option.isSome_iff_exists.1 hmm
        obtain ⟨m, hmmi, hmn⟩ := Ld.modAt_some hmi
        obtain ⟨fm, mn, hmp, hm0, hm1⟩ := hin.mods.is
        obtain ⟨v, hfm, A4, c4, rfl, hl4, hm4, hs4⟩ := hm1 n mi m hmi hmmi
        rw [hmn] at hfm
        have hlk := hmp.look (string_keyed Tryz.underlying9) Tryz.underlying69 (zero_mod w2) (look_str_wf hnz) trivial
        rw [hfm] at hlk
        have hlk' : (Instr.lookup 69 (.map (some bm)) (.string n) false).run Tryz.prog w2 = .ok (.agg #[.string n, .slice A4 m.lines.length c4]) w2 := hlk
        have k3 : w2.cell? ⟨g, 3, none⟩ = some (.map (some bm)) := blk_cell hh.blk 3
        have hbc := hbody f' rfl w2 _ s1 b n m A4 c4 mi hs2 HG1.out (by have := HF.out; omega) HST.out hmi hmmi hl4 hm4 hs4
        have HBC := hide hbc
        clear HRES hmm hlk hfm hm0 hm1 hmp hmi hmmi hmn hbc hs4 hh hin
        go_wp2_with fail
        refine (unhide HBC).mono ?_
        rintro e w3 ⟨rfl, hto⟩
        go_wp2_with fail
        go_ret3
        rw [HQ.out]
        exact ⟨rfl, PTo.then (fun b hb => .inl hb) hk2 hto⟩
end Go.Proofs.YtkhlicmlnjccdaaGreatDoor
