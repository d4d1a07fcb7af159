/-
  Walks: the program's machine: where a name stands, a record.
-/
import Derived.Test.YtkhlicmlnjccdaaGreatDoorKt27
import Derived.Test.YtkhlicmlnjccdaaGreatDoorKt28
import Derived.Deep.RegionLaw
import Derived.Deep.DrawnRows
namespace Go.Proofs.YtkhlicmlnjccdaaGreatDoor
open Go.RowKit Mem Go.Maps Go.ChangeMaps Go.WideMaps

namespace Mem
section
variable {P : Program} {ops : Array Oper} {o : Oper} {a : Act} {K : Act → World → Prop} {Q : Exit → Act → World → Prop} {E : Prop}
/-- append of one element that was built just ahead, at a step of a region that draws -/
theorem step_own {α : Type} (k : Flat α) {W : World} (base : Nat) (hgd : o.guard = none) (s x : Operand) (t e : TypeId) (z : Value) (bytes : Nat)
    (ho : o.op = .call { callee := .builtin .append, args := #[s, x], argTypes := #[t, t] })
    (ht : P.underlying t = some (.slice e)) (hinfo : (P.info? e).map (fun i => (i.zero, i.size, i.bytes)) = some (some z, k.kind.size, bytes)) (hz : z.cells.size = k.kind.size) (hb0 : 0 < bytes)
    (v : Value) (xs : List α) (y : α) (cs : Array Value) (hcs : cs.toList = k.enc y) (hs : a.eval s = v) (g : Nat) (hx : a.eval x = .slice (some ⟨g, 0, none⟩) 1 1)
    (hblk : W.heap[g]? = some (.cells cs e (0, 0))) (HO : Own k W base e v xs) (hbase : base ≤ W.heap.size) (hl : (xs.length + 1) * bytes ≤ 140737488355328)
    (h : ∀ v1 w1, Own k w1 base e v1 (xs ++ [y]) → W.grownBy w1 v.ownBlock → (v1.ownBlock = v.ownBlock ∨ ∃ b, v1.ownBlock = some b ∧ W.heap.size ≤ b) → K (a.put o.dst v1) w1) :
    if Region.wanted o (yielded ops a.tmps) = true then Oper.wp P o a W K Q else E := by
  have hw : Region.wanted o (yielded ops a.tmps) = true := by simp [Region.wanted, hgd]
  rw [if_pos hw]
  obtain ⟨i0, hi, hzz⟩ := Option.map_eq_some_iff.1 hinfo
  simp only [Prod.mk.injEq] at hzz
  obtain ⟨hz0, hz1, hz2⟩ := hzz
  have hlen : xs.length + 1 ≤ 140737488355328 := Nat.le_trans (Nat.le_mul_of_pos_right _ hb0) hl
  obtain ⟨v1, w1, hr, h2, h3, _, h5⟩ := run_append_own_at (P := P) W base t o.type e i0 z k.kind.size bytes ht hi hz0 hz1 hz2 hz k.pos v xs.length (k.all xs) HO ⟨g, 0, none⟩ 1 1 cs.toList (by rw [hcs, k.len, Nat.one_mul])
    (World.news_of_block hblk) (by rw [hcs]; exact k.one y) (by simp only [maxLen]; omega) hl hbase
  unfold Oper.wp execOp
  simp only [ho, resolve, invoke, builtin, Sem.run_bind, Sem.run_pure, Result.andThen_ok, List.map_toArray, List.map_cons, List.map_nil, hs, hx, hr]
  have h6 : Own k w1 base e v1 (xs ++ [y]) := by
    unfold Own
    rw [k.all_append, k.all_one, ← hcs, List.length_append, List.length_singleton]
    exact h2
  exact h v1 w1 h6 h3 (by
    rcases h5 with h5 | h5
    · exact .inl h5
    · exact .inr ⟨_, h5, Nat.le_refl _⟩)
end
end Mem

/-- how the program's machine holds a state: what a module gives is not told before its end -/
def hid (t : StateD) : StateD := if t.now = 1 then { t with give := 0 } else t
theorem hid_name (t : StateD) : (hid t).name = t.name := by unfold hid; split <;> rfl
theorem hid_now (t : StateD) : (hid t).now = t.now := by unfold hid; split <;> rfl
theorem hid_code (t : StateD) : (hid t).code = t.code := by unfold hid; split <;> rfl
theorem hid_other {t : StateD} (h : t.now ≠ 1) : hid t = t := if_neg h
theorem stAt_hid (l : List StateD) (n : Str) : Ld.stAt (l.map hid) n = Ld.stAt l n := by
  unfold Ld.stAt
  rw [List.findIdx?_map]
  congr 1
  funext s
  simp [hid_name]
theorem map_hid_len (l : List StateD) : (l.map hid).length = l.length := List.length_map _
theorem map_hid_at {l : List StateD} {i : Nat} {t : StateD} (h : l[i]? = some t) : (l.map hid)[i]? = some (hid t) := by rw [List.getElem?_map, h]; rfl

/-- a module as the map of modules holds it -/
def ModV (w : World) (K : Nat → Prop) (m : ModD) (v : Value) : Prop := ∃ A c, v = .agg #[.string m.name, .slice A m.lines.length c] ∧ m.lines.length ≤ c ∧ c ≤ maxLen ∧ Sl kLine w K A m.lines
structure ModsAt (w : World) (K : Nat → Prop) (bm : Nat) (D : WorldD) : Prop where
  inK : K bm
  is : ∃ f n, MapIs w Tryz.prog 9 bm n f ∧ (∀ nm : Str, Ld.modAt D.mods nm = none → f (.string nm.data.toList) = none) ∧
    ∀ (nm : Str) (i : Nat) (m : ModD), Ld.modAt D.mods nm = some i → D.mods[i]? = some m → ∃ v, f (.string nm.data.toList) = some v ∧ ModV w K m v
structure FaultsAt (w : World) (K : Nat → Prop) (bf : Nat) (D : WorldD) : Prop where
  inK : K bf
  is : ∃ f n, MapIs w Tryz.prog 3 bf n f ∧ ∀ x : Int, f (.int .i64 x) = if x ∈ D.faults then some (.bool true) else none
theorem ModV.same {w w' : World} {K : Nat → Prop} {m : ModD} {v : Value} (h : ModV w K m v) (hs : Same K w w') : ModV w' K m v := by
  obtain ⟨A, c, h1, h2, h3, h4⟩ := h
  exact ⟨A, c, h1, h2, h3, h4.same hs⟩
theorem ModV.more {w : World} {K K' : Nat → Prop} {m : ModD} {v : Value} (h : ModV w K m v) (hk : ∀ b, K b → K' b) : ModV w K' m v := by
  obtain ⟨A, c, h1, h2, h3, h4⟩ := h
  exact ⟨A, c, h1, h2, h3, h4.more hk⟩
theorem ModsAt.same {w w' : World} {K : Nat → Prop} {bm : Nat} {D : WorldD} (h : ModsAt w K bm D) (hs : Same K w w') : ModsAt w' K bm D := by
  obtain ⟨f, n, h1, h2, h3⟩ := h.is
  exact ⟨h.inK, f, n, h1.same (hs bm h.inK), h2, fun nm i m hi hm => by
    obtain ⟨v, hv, hmv⟩ := h3 nm i m hi hm
    exact ⟨v, hv, hmv.same hs⟩⟩
theorem ModsAt.more {w : World} {K K' : Nat → Prop} {bm : Nat} {D : WorldD} (h : ModsAt w K bm D) (hk : ∀ b, K b → K' b) : ModsAt w K' bm D := by
  obtain ⟨f, n, h1, h2, h3⟩ := h.is
  exact ⟨hk _ h.inK, f, n, h1, h2, fun nm i m hi hm => by
    obtain ⟨v, hv, hmv⟩ := h3 nm i m hi hm
    exact ⟨v, hv, hmv.more hk⟩⟩
theorem FaultsAt.same {w w' : World} {K : Nat → Prop} {bf : Nat} {D : WorldD} (h : FaultsAt w K bf D) (hs : Same K w w') : FaultsAt w' K bf D := by
  obtain ⟨f, n, h1, h2⟩ := h.is
  exact ⟨h.inK, f, n, h1.same (hs bf h.inK), h2⟩
theorem FaultsAt.more {w : World} {K K' : Nat → Prop} {bf : Nat} {D : WorldD} (h : FaultsAt w K bf D) (hk : ∀ b, K b → K' b) : FaultsAt w K' bf D := ⟨hk _ h.inK, h.is⟩

/-- the program's machine -/
def pCells (vR vM vF : Value) (bm bf : Nat) (vc vs vr vk : Value) (reads : Nat) : Array Value := #[vR, vM, vF, .map (some bm), .map (some bf), .int .i64 0, vc, vs, .int .i64 reads, vr, vk]
structure PIn (w : World) (K : Nat → Prop) (vR vM vF : Value) (bm bf : Nat) (D : WorldD) : Prop where
  inw : WIn w K vR vM vF D
  mods : ModsAt w K bm D
  faults : FaultsAt w K bf D
  ml : ML w
  mlK : K 3
theorem PIn.same {w w' : World} {K : Nat → Prop} {vR vM vF : Value} {bm bf : Nat} {D : WorldD} (h : PIn w K vR vM vF bm bf D) (hs : Same K w w') : PIn w' K vR vM vF bm bf D :=
  ⟨h.inw.same hs, h.mods.same hs, h.faults.same hs, h.ml.same (hs _ h.mlK), h.mlK⟩
theorem PIn.more {w : World} {K K' : Nat → Prop} {vR vM vF : Value} {bm bf : Nat} {D : WorldD} (h : PIn w K vR vM vF bm bf D) (hk : ∀ b, K b → K' b) : PIn w K' vR vM vF bm bf D :=
  ⟨h.inw.more hk, h.mods.more hk, h.faults.more hk, h.ml, hk _ h.mlK⟩
structure PAtV (w : World) (g : Nat) (K : Nat → Prop) (vR vM vF : Value) (bm bf : Nat) (D : WorldD) (vc vs vr vk : Value) (s : Ld.St) : Prop where
  hold : Hold w g 72 (pCells vR vM vF bm bf vc vs vr vk s.reads) K vc vs vr vk s.recs (s.states.map hid) s.rings s.stack
  inp : PIn w K vR vM vF bm bf D
def PAt (w : World) (g : Nat) (K : Nat → Prop) (vR vM vF : Value) (bm bf : Nat) (D : WorldD) (s : Ld.St) : Prop := ∃ vc vs vr vk, PAtV w g K vR vM vF bm bf D vc vs vr vk s
theorem PAtV.pat {w : World} {g : Nat} {K : Nat → Prop} {vR vM vF : Value} {bm bf : Nat} {D : WorldD} {vc vs vr vk : Value} {s : Ld.St} (h : PAtV w g K vR vM vF bm bf D vc vs vr vk s) : PAt w g K vR vM vF bm bf D s := ⟨vc, vs, vr, vk, h⟩
theorem PAt.below {w w' : World} {g : Nat} {K : Nat → Prop} {vR vM vF : Value} {bm bf : Nat} {D : WorldD} {s : Ld.St} (h : PAt w g K vR vM vF bm bf D s) (hb : Below w.heap.size w w') : PAt w' g K vR vM vF bm bf D s := by
  obtain ⟨vc, vs, vr, vk, h⟩ := h
  exact ⟨vc, vs, vr, vk, h.hold.below hb, h.inp.same (fun b hk => hb.block b (h.hold.KS b hk))⟩
theorem PAt.lt {w : World} {g : Nat} {K : Nat → Prop} {vR vM vF : Value} {bm bf : Nat} {D : WorldD} {s : Ld.St} (h : PAt w g K vR vM vF bm bf D s) : g < w.heap.size := by
  obtain ⟨vc, vs, vr, vk, h⟩ := h
  exact h.hold.lt
theorem PAt.fresh {w w' : World} {g : Nat} {K : Nat → Prop} {vR vM vF : Value} {bm bf : Nat} {D : WorldD} {s : Ld.St} (h : PAt w g K vR vM vF bm bf D s) (hb : Below w.heap.size w w') : PAt w' g (fun b => K b ∨ (w.heap.size ≤ b ∧ b < w'.heap.size)) vR vM vF bm bf D s := by
  obtain ⟨vc, vs, vr, vk, h⟩ := h
  exact ⟨vc, vs, vr, vk, h.hold.fresh hb, (h.inp.same (fun b hk => hb.block b (h.hold.KS b hk))).more (fun b hb => .inl hb)⟩
/-- what a call on the machine leaves -/
def PTo (w w' : World) (g : Nat) (K : Nat → Prop) (vR vM vF : Value) (bm bf : Nat) (D : WorldD) (s' : Ld.St) : Prop := ∃ K' : Nat → Prop, (∀ b, K b → K' b) ∧ PAt w' g K' vR vM vF bm bf D s' ∧ Keep K w w'
theorem PTo.of {w w' : World} {g : Nat} {K K' : Nat → Prop} {vR vM vF : Value} {bm bf : Nat} {D : WorldD} {s' : Ld.St} (h : PAt w' g K' vR vM vF bm bf D s') (hK : ∀ b, K b → K' b) (hk : Keep K w w') : PTo w w' g K vR vM vF bm bf D s' := ⟨K', hK, h, hk⟩
theorem PTo.then {w w1 w2 : World} {g : Nat} {K K1 : Nat → Prop} {vR vM vF : Value} {bm bf : Nat} {D : WorldD} {s2 : Ld.St} (hK : ∀ b, K b → K1 b) (hk : Keep K w w1) (h2 : PTo w1 w2 g K1 vR vM vF bm bf D s2) : PTo w w2 g K vR vM vF bm bf D s2 := by
  obtain ⟨K2, h3, h4, h5⟩ := h2
  exact ⟨K2, fun b hb => h3 b (hK b hb), h4, hk.then h5 hK⟩

set_option maxRecDepth 100000 in
set_option maxHeartbeats 400000 in
theorem at_calls (g : Nat) (A : Option Addr) (c n : Nat) (sts : List StateD) (nm : Str) (S : Nat → Prop) (w : World) (hg : w.cell? ⟨g, 7, none⟩ = some (.slice A n c)) (h : Sl kState w S A sts) (hn : sts.length = n) (hl : n ≤ maxLen) :
    Calls Tryz.prog 72 #[.pointer (some ⟨g, 0, none⟩), .string nm] w fun e w' => e = .returned (.int .i64 (idxI (Ld.stAt sts nm))) ∧ Below w.heap.size w w' := by
  subst hn
  replace hl := mem_maxLen _ hl
  go_enter Tryz.func72, Tryz.ntmps72
  go_wp2_with fail
  go_loopw [5, 6, 13] (fun _ _ i wr => ∃ k : Nat, i = .int .i64 k ∧ k ≤ sts.length ∧ Hid (∀ j, j < k → ∀ u, sts[j]? = some u → u.name ≠ nm) ∧ Below w.heap.size w wr) (fun _ _ i _ => sts.length - (intOf i).toNat)
  case atStart => exact ⟨0, rfl, by omega, hide (fun j hj => absurd hj (by omega)), Below.refl _ _⟩
  case round =>
    clear hg
    obtain ⟨k, rfl, hk, HN, HB⟩ := hrel
    by_cases hlt : k < sts.length
    · obtain ⟨ad, hA, l0, l1, l2, l3⟩ := (h.below HB).get hlt
      subst hA
      have e0 : wr.cell? (ad.add (k * 4)) = some (.string sts[k].name) := l0.2
      have e1 : wr.cell? ⟨(ad.add (k * 4)).block, (ad.add (k * 4)).off + 1, none⟩ = some (.int .i64 sts[k].now) := by have := l1.2; rwa [add_pos _ _ (by omega)] at this
      have e2 : wr.cell? ⟨(ad.add (k * 4)).block, (ad.add (k * 4)).off + 2, none⟩ = some (.int .i64 sts[k].give) := by have := l2.2; rwa [add_pos _ _ (by omega)] at this
      have e3 : wr.cell? ⟨(ad.add (k * 4)).block, (ad.add (k * 4)).off + 3, none⟩ = some (.int .i64 sts[k].code) := by have := l3.2; rwa [add_pos _ _ (by omega)] at this
      have hx := hide (List.getElem?_eq_getElem hlt)
      clear l0 l1 l2 l3 h
      generalize sts[k] = x at e0 e1 e2 e3 hx
      obtain ⟨xn, x1, x2, x3⟩ := x
      replace e0 : wr.cell? (ad.add (k * 4)) = some (.string xn) := e0
      by_cases he : xn = nm
      · have e4 := beq_t he
        have HQ := hide (Ld.stAt_at hx.out he HN.out)
        clear he
        go_wp2_with fail
        go_ret
        exact ⟨ret_int (by rw [HQ.out]; rfl), by (repeat (first | with_reducible exact Below.refl _ _ | with_reducible assumption | with_reducible refine Below.alloc ?_ (by first | exact Nat.le_refl _ | exact Below.size (by assumption) | exact Nat.le_trans (Below.size (by assumption)) (by simp; done) | (simp; done) | (simp; omega) | omega) _ | with_reducible refine below_drewN ?_ _ | with_reducible refine Below.drew ?_ | with_reducible refine Below.setCell ?_ (by first | exact Nat.le_refl _ | (simp; done) | (simp; omega) | omega) _))⟩
      · have e4 := beq_f he
        have HE := hide he
        clear he
        go_wp2_with fail
        go_roundw
        case rel =>
          refine ⟨k + 1, by go_num, by omega, hide (fun j hj u hu => ?_), by (repeat (first | with_reducible exact Below.refl _ _ | with_reducible assumption | with_reducible refine Below.alloc ?_ (by first | exact Nat.le_refl _ | exact Below.size (by assumption) | exact Nat.le_trans (Below.size (by assumption)) (by simp; done) | (simp; done) | (simp; omega) | omega) _ | with_reducible refine below_drewN ?_ _ | with_reducible refine Below.drew ?_ | with_reducible refine Below.setCell ?_ (by first | exact Nat.le_refl _ | (simp; done) | (simp; omega) | omega) _))⟩
          rcases Nat.lt_or_ge j k with h | h
          · exact HN.out j h u hu
          · obtain rfl : j = k := by omega
            rw [hx.out] at hu
            obtain rfl := Option.some.inj hu
            exact HE.out
        case measure => simp [intOf]; omega
    · obtain rfl : k = sts.length := by omega
      have HQ := hide (Ld.stAt_no (l := sts) (n := nm) (fun j u hu => HN.out j (by
        rcases Nat.lt_or_ge j sts.length with h | h
        · exact h
        · rw [List.getElem?_eq_none h] at hu; simp at hu) u hu))
      go_wp2_with fail
      go_ret
      exact ⟨ret_int (by rw [HQ.out]; rfl), by (repeat (first | with_reducible exact Below.refl _ _ | with_reducible assumption | with_reducible refine Below.alloc ?_ (by first | exact Nat.le_refl _ | exact Below.size (by assumption) | exact Nat.le_trans (Below.size (by assumption)) (by simp; done) | (simp; done) | (simp; omega) | omega) _ | with_reducible refine below_drewN ?_ _ | with_reducible refine Below.drew ?_ | with_reducible refine Below.setCell ?_ (by first | exact Nat.le_refl _ | (simp; done) | (simp; omega) | omega) _))⟩

set_option maxRecDepth 100000 in
set_option maxHeartbeats 1000000 in
theorem note_calls (w : World) (g : Nat) (K : Nat → Prop) (vR vM vF : Value) (bm bf : Nat) (D : WorldD) (s : Ld.St) (h : PAt w g K vR vM vF bm bf D s) (kind code num : Int) (nm : Str) (hr : s.recs.length ≤ 9000) :
    Calls Tryz.prog 73 #[.pointer (some ⟨g, 0, none⟩), .agg #[.int .i64 kind, .string nm, .int .i64 code, .int .i64 num]] w fun e w' => e = .returned (.tuple #[]) ∧ PAt w' g K vR vM vF bm bf D (s.note ⟨kind, nm, code, num⟩) ∧ Keep K w w' := by
  obtain ⟨vc, vs, vr, vk, hh0, hin0⟩ := h
  have hb0 : Below w.heap.size w (w.alloc (Obj.cells #[.int .i64 kind, .string nm, .int .i64 code, .int .i64 num] 39)) := by (repeat (first | with_reducible exact Below.refl _ _ | with_reducible assumption | with_reducible refine Below.alloc ?_ (by first | exact Nat.le_refl _ | exact Below.size (by assumption) | exact Nat.le_trans (Below.size (by assumption)) (by simp; done) | (simp; done) | (simp; omega) | omega) _ | with_reducible refine below_drewN ?_ _ | with_reducible refine Below.drew ?_ | with_reducible refine Below.setCell ?_ (by first | exact Nat.le_refl _ | (simp; done) | (simp; omega) | omega) _))
  have hh := hh0.below hb0
  have hin := hin0.same (fun b hk => hb0.block b (hh0.KS b hk))
  have hk0 := Keep.of_below (K := K) hb0
  have hnw := heap_alloc_new w (Obj.cells #[.int .i64 kind, .string nm, .int .i64 code, .int .i64 num] 39)
  have hzw : w.heap.size < (w.alloc (Obj.cells #[.int .i64 kind, .string nm, .int .i64 code, .int .i64 num] 39)).heap.size := by simp
  clear hh0 hin0 hb0
  go_enter Tryz.func73, Tryz.ntmps73
  go_wp2_with fail
  generalize w.alloc (Obj.cells #[.int .i64 kind, .string nm, .int .i64 code, .int .i64 num] 39) = W at hh hin hk0 hnw hzw ⊢
  obtain ⟨A, c, rfl, hc, hd, _⟩ := hh.recs.slV
  have k6 : W.cell? ⟨g, 6, none⟩ = some (.slice A s.recs.length c) := blk_cell hh.blk 6
  have n0 : W.cell? ⟨w.heap.size, 0, none⟩ = some (.int .i64 kind) := blk_cell hnw 0
  have n1 : W.cell? ⟨w.heap.size, 1, none⟩ = some (.string nm) := blk_cell hnw 1
  have n2 : W.cell? ⟨w.heap.size, 2, none⟩ = some (.int .i64 code) := blk_cell hnw 2
  have n3 : W.cell? ⟨w.heap.size, 3, none⟩ = some (.int .i64 num) := blk_cell hnw 3
  have hgl := hh.lt
  go_region_law ((refine step_own fRec 0 (by rfl) _ _ 30 39 (.agg #[.int .i64 0, .string ByteArray.empty, .int .i64 0, .int .i64 0]) 40 (by rfl) Tryz.underlying30 info_rec rfl (by omega) (.slice A s.recs.length c) s.recs ⟨kind, nm, code, num⟩ #[.int .i64 kind, .string nm, .int .i64 code, .int .i64 num] rfl (by rfl) W.heap.size (by rfl) (by exact heap_alloc_new _ _) (hh.recs.alloc _) (Nat.zero_le _) (by omega) ?_; intro v1 w1 hown hgr hnew; obtain ⟨hh1, hk1⟩ := Hold.recs_to (hh.below (by (repeat (first | with_reducible exact Below.refl _ _ | with_reducible assumption | with_reducible refine Below.alloc ?_ (by first | exact Nat.le_refl _ | exact Below.size (by assumption) | exact Nat.le_trans (Below.size (by assumption)) (by simp; done) | (simp; done) | (simp; omega) | omega) _ | with_reducible refine below_drewN ?_ _ | with_reducible refine Below.drew ?_ | with_reducible refine Below.setCell ?_ (by first | exact Nat.le_refl _ | (simp; done) | (simp; omega) | omega) _)))) hown hgr hnew; have hkp := (Keep.of_below (K := K) (show Below W.heap.size W _ by (repeat (first | with_reducible exact Below.refl _ _ | with_reducible assumption | with_reducible refine Below.alloc ?_ (by first | exact Nat.le_refl _ | exact Below.size (by assumption) | exact Nat.le_trans (Below.size (by assumption)) (by simp; done) | (simp; done) | (simp; omega) | omega) _ | with_reducible refine below_drewN ?_ _ | with_reducible refine Below.drew ?_ | with_reducible refine Below.setCell ?_ (by first | exact Nat.le_refl _ | (simp; done) | (simp; omega) | omega) _)))).then hk1 (fun b hb => hb); obtain ⟨A1, c1, hv1, hc1, hd1, _⟩ := hown.slV; subst hv1; have q6 : w1.cell? ⟨g, 6, none⟩ = some (.slice A s.recs.length c) := blk_cell hh1.blk 6; have f6 := blk_free hh1.blk 6; clear hgr hnew))
  all_goals
    have hl : (s.recs ++ [(⟨kind, nm, code, num⟩ : RecD)]).length = s.recs.length + 1 := by simp
    rw [hl] at hh1
    have hs := hh1.set 6 (.slice A1 (s.recs.length + 1) c1)
    go_end0
    have hin2 := hin.same ((hkp.then hs.2 (fun b hb => hb)).same (fun b hb => hb) hh.KS)
    refine ⟨rfl, ?_, hk0.then (hkp.then hs.2 (fun b hb => hb)) (fun b hb => hb)⟩
    exact PAtV.pat (vc := .slice A1 (s.recs.length + 1) c1) (vs := vs) (vr := vr) (vk := vk) ⟨hs.1, hin2⟩
end Go.Proofs.YtkhlicmlnjccdaaGreatDoor
