/-
  Walks: the reference's machine: where a name stands, a record.
-/
import Derived.Test.YtkhlicmlnjccdaaGreatDoorProg
import Derived.Test.YtkhlicmlnjccdaaGreatDoorKt17
import Derived.Outline
import Derived.Deep.QuietTactic
import Derived.BigQuiet
namespace Go.Proofs.YtkhlicmlnjccdaaGreatDoor
open Go.RowKit Mem

set_option maxRecDepth 100000 in
set_option maxHeartbeats 400000 in
theorem l2find_calls (vR vF : Value) (A : Option Addr) (c n : Nat) (mods : List ModD) (nm : Str) (S : Nat → Prop) (w : World) (h : Sl kMod w S A mods) (hn : mods.length = n) (hl : n ≤ maxLen) :
    Calls Tryz.prog 64 #[.agg #[vR, .slice A n c, vF], .string nm] w fun e w' => e = .returned (.int .i64 (idxI (Ld.modAt mods nm))) ∧ Below w.heap.size w w' := by
  subst hn
  replace hl := mem_maxLen _ hl
  have hb0 : Below w.heap.size w (w.alloc (Obj.cells #[vR, .slice A mods.length c, vF] 27)) := by (repeat (first | with_reducible exact Below.refl _ _ | with_reducible assumption | with_reducible refine Below.alloc ?_ (by first | exact Nat.le_refl _ | exact Below.size (by assumption) | exact Nat.le_trans (Below.size (by assumption)) (by simp; done) | (simp; done) | (simp; omega) | omega) _ | with_reducible refine below_drewN ?_ _ | with_reducible refine Below.drew ?_ | with_reducible refine Below.setCell ?_ (by first | exact Nat.le_refl _ | (simp; done) | (simp; omega) | omega) _))
  go_enter Tryz.func64, Tryz.ntmps64
  go_wp2_with fail
  go_loopw [5, 6, 10] (fun _ _ i wr => ∃ k : Nat, i = .int .i64 k ∧ k ≤ mods.length ∧ Hid (∀ j, j < k → ∀ u, mods[j]? = some u → u.name ≠ nm) ∧ Below w.heap.size w wr) (fun _ _ i _ => mods.length - (intOf i).toNat)
  case atStart => exact ⟨0, rfl, by omega, hide (fun j hj => absurd hj (by omega)), hb0⟩
  case round =>
    clear hb0
    obtain ⟨k, rfl, hk, HN, HB⟩ := hrel
    by_cases hlt : k < mods.length
    · obtain ⟨ad, hA, hc0, A4, c4, hc4, hl4, hm4, hs4⟩ := (h.below HB).get hlt
      subst hA
      have e0 : wr.cell? (ad.add (k * 2)) = some (.string mods[k].name) := hc0.2
      have e1 : wr.cell? ⟨(ad.add (k * 2)).block, (ad.add (k * 2)).off + 1, none⟩ = some (.slice A4 mods[k].lines.length c4) := by have := hc4.2; rwa [add_pos _ _ (by omega)] at this
      have hx := hide (List.getElem?_eq_getElem hlt)
      clear hc0 hc4 hs4 h
      generalize mods[k] = x at e0 e1 hx hl4
      obtain ⟨xn, xl⟩ := x
      replace e0 : wr.cell? (ad.add (k * 2)) = some (.string xn) := e0
      by_cases he : xn = nm
      · have e2 := beq_t he
        have HQ := hide (Ld.modAt_at hx.out he HN.out)
        clear he
        go_wp2_with fail
        go_ret
        exact ⟨ret_int (by rw [HQ.out]; rfl), by (repeat (first | with_reducible exact Below.refl _ _ | with_reducible assumption | with_reducible refine Below.alloc ?_ (by first | exact Nat.le_refl _ | exact Below.size (by assumption) | exact Nat.le_trans (Below.size (by assumption)) (by simp; done) | (simp; done) | (simp; omega) | omega) _ | with_reducible refine below_drewN ?_ _ | with_reducible refine Below.drew ?_ | with_reducible refine Below.setCell ?_ (by first | exact Nat.le_refl _ | (simp; done) | (simp; omega) | omega) _))⟩
      · have e2 := beq_f he
        have HE := hide he
        clear he
        go_wp2_with fail
        go_roundw
        case rel =>
          refine ⟨k + 1, by go_num, by omega, hide (fun j hj u hu => ?_), by (repeat (first | with_reducible exact Below.refl _ _ | with_reducible assumption | with_reducible refine Below.alloc ?_ (by first | exact Nat.le_refl _ | exact Below.size (by assumption) | exact Nat.le_trans (Below.size (by assumption)) (by simp; done) | (simp; done) | (simp; omega) | omega) _ | with_reducible refine below_drewN ?_ _ | with_reducible refine Below.drew ?_ | with_reducible refine Below.setCell ?_ (by first | exact Nat.le_refl _ | (simp; done) | (simp; omega) | omega) _))⟩
          rcases Nat.lt_or_ge j k with h | h
          · exact HN.out j h u hu
          · obtain rfl : j = k := by omega
            rw [hx.out] at hu
            obtain rfl := Option.some.inj hu
            exact HE.out
        case measure => simp [intOf]; omega
    · obtain rfl : k = mods.length := by omega
      have HQ := hide (Ld.modAt_no (l := mods) (n := nm) (fun j u hu => HN.out j (by
        rcases Nat.lt_or_ge j mods.length with h | h
        · exact h
        · rw [List.getElem?_eq_none h] at hu; simp at hu) u hu))
      go_wp2_with fail
      go_ret
      exact ⟨ret_int (by rw [HQ.out]; rfl), by (repeat (first | with_reducible exact Below.refl _ _ | with_reducible assumption | with_reducible refine Below.alloc ?_ (by first | exact Nat.le_refl _ | exact Below.size (by assumption) | exact Nat.le_trans (Below.size (by assumption)) (by simp; done) | (simp; done) | (simp; omega) | omega) _ | with_reducible refine below_drewN ?_ _ | with_reducible refine Below.drew ?_ | with_reducible refine Below.setCell ?_ (by first | exact Nat.le_refl _ | (simp; done) | (simp; omega) | omega) _))⟩

set_option maxRecDepth 100000 in
set_option maxHeartbeats 400000 in
theorem state_calls (g : Nat) (A : Option Addr) (c n : Nat) (sts : List StateD) (nm : Str) (S : Nat → Prop) (w : World) (hg : w.cell? ⟨g, 5, none⟩ = some (.slice A n c)) (h : Sl kState w S A sts) (hn : sts.length = n) (hl : n ≤ maxLen) :
    Calls Tryz.prog 68 #[.pointer (some ⟨g, 0, none⟩), .string nm] w fun e w' => e = .returned (.int .i64 (idxI (Ld.stAt sts nm))) ∧ Below w.heap.size w w' := by
  subst hn
  replace hl := mem_maxLen _ hl
  go_enter Tryz.func68, Tryz.ntmps68
  go_wp2_with fail
  go_loopw [5, 6, 13] (fun _ _ i wr => ∃ k : Nat, i = .int .i64 k ∧ k ≤ sts.length ∧ Hid (∀ j, j < k → ∀ u, sts[j]? = some u → u.name ≠ nm) ∧ Below w.heap.size w wr) (fun _ _ i _ => sts.length - (intOf i).toNat)
  case atStart => exact ⟨0, rfl, by omega, hide (fun j hj => absurd hj (by omega)), Below.refl _ _⟩
  case round =>
    clear hg
    obtain ⟨k, rfl, hk, HN, HB⟩ := hrel
    by_cases hlt : k < sts.length
    · obtain ⟨ad, hA, l0, l1, l2, l3⟩ := (h.below HB).get hlt
      subst hA
      have e0 : wr.cell? (ad.add (k * 4)) = some (.string sts[k].name) := l0.2
      have e1 : wr.cell? ⟨(ad.add (k * 4)).block, (ad.add (k * 4)).off + 1, none⟩ = some (.int .i64 sts[k].now) := by have := l1.2; rwa [add_pos _ _ (by omega)] at this
      have e2 : wr.cell? ⟨(ad.add (k * 4)).block, (ad.add (k * 4)).off + 2, none⟩ = some (.int .i64 sts[k].give) := by have := l2.2; rwa [add_pos _ _ (by omega)] at this
      have e3 : wr.cell? ⟨(ad.add (k * 4)).block, (ad.add (k * 4)).off + 3, none⟩ = some (.int .i64 sts[k].code) := by have := l3.2; rwa [add_pos _ _ (by omega)] at this
      have hx := hide (List.getElem?_eq_getElem hlt)
      clear l0 l1 l2 l3 h
      generalize sts[k] = x at e0 e1 e2 e3 hx
      obtain ⟨xn, x1, x2, x3⟩ := x
      replace e0 : wr.cell? (ad.add (k * 4)) = some (.string xn) := e0
      by_cases he : xn = nm
      · have e4 := beq_t he
        have HQ := hide (Ld.stAt_at hx.out he HN.out)
        clear he
        go_wp2_with fail
        go_ret
        exact ⟨ret_int (by rw [HQ.out]; rfl), by (repeat (first | with_reducible exact Below.refl _ _ | with_reducible assumption | with_reducible refine Below.alloc ?_ (by first | exact Nat.le_refl _ | exact Below.size (by assumption) | exact Nat.le_trans (Below.size (by assumption)) (by simp; done) | (simp; done) | (simp; omega) | omega) _ | with_reducible refine below_drewN ?_ _ | with_reducible refine Below.drew ?_ | with_reducible refine Below.setCell ?_ (by first | exact Nat.le_refl _ | (simp; done) | (simp; omega) | omega) _))⟩
      · have e4 := beq_f he
        have HE := hide he
        clear he
        go_wp2_with fail
        go_roundw
        case rel =>
          refine ⟨k + 1, by go_num, by omega, hide (fun j hj u hu => ?_), by (repeat (first | with_reducible exact Below.refl _ _ | with_reducible assumption | with_reducible refine Below.alloc ?_ (by first | exact Nat.le_refl _ | exact Below.size (by assumption) | exact Nat.le_trans (Below.size (by assumption)) (by simp; done) | (simp; done) | (simp; omega) | omega) _ | with_reducible refine below_drewN ?_ _ | with_reducible refine Below.drew ?_ | with_reducible refine Below.setCell ?_ (by first | exact Nat.le_refl _ | (simp; done) | (simp; omega) | omega) _))⟩
          rcases Nat.lt_or_ge j k with h | h
          · exact HN.out j h u hu
          · obtain rfl : j = k := by omega
            rw [hx.out] at hu
            obtain rfl := Option.some.inj hu
            exact HE.out
        case measure => simp [intOf]; omega
    · obtain rfl : k = sts.length := by omega
      have HQ := hide (Ld.stAt_no (l := sts) (n := nm) (fun j u hu => HN.out j (by
        rcases Nat.lt_or_ge j sts.length with h | h
        · exact h
        · rw [List.getElem?_eq_none h] at hu; simp at hu) u hu))
      go_wp2_with fail
      go_ret
      exact ⟨ret_int (by rw [HQ.out]; rfl), by (repeat (first | with_reducible exact Below.refl _ _ | with_reducible assumption | with_reducible refine Below.alloc ?_ (by first | exact Nat.le_refl _ | exact Below.size (by assumption) | exact Nat.le_trans (Below.size (by assumption)) (by simp; done) | (simp; done) | (simp; omega) | omega) _ | with_reducible refine below_drewN ?_ _ | with_reducible refine Below.drew ?_ | with_reducible refine Below.setCell ?_ (by first | exact Nat.le_refl _ | (simp; done) | (simp; omega) | omega) _))⟩

/-- the reference's machine -/
def sCells (vR vM vF vc vs vr vk : Value) (reads : Nat) (thrown : Int) : Array Value := #[vR, vM, vF, .int .i64 0, vc, vs, .int .i64 reads, vr, vk, .int .i64 thrown]
structure SAtV (w : World) (g : Nat) (K : Nat → Prop) (vR vM vF : Value) (D : WorldD) (vc vs vr vk : Value) (s : Ld.St) : Prop where
  hold : Hold w g 65 (sCells vR vM vF vc vs vr vk s.reads s.thrown) K vc vs vr vk s.recs s.states s.rings s.stack
  inw : WIn w K vR vM vF D
def SAt (w : World) (g : Nat) (K : Nat → Prop) (vR vM vF : Value) (D : WorldD) (s : Ld.St) : Prop := ∃ vc vs vr vk, SAtV w g K vR vM vF D vc vs vr vk s
theorem SAtV.sat {w : World} {g : Nat} {K : Nat → Prop} {vR vM vF : Value} {D : WorldD} {vc vs vr vk : Value} {s : Ld.St} (h : SAtV w g K vR vM vF D vc vs vr vk s) : SAt w g K vR vM vF D s := ⟨vc, vs, vr, vk, h⟩
theorem SAt.below {w w' : World} {g : Nat} {K : Nat → Prop} {vR vM vF : Value} {D : WorldD} {s : Ld.St} (h : SAt w g K vR vM vF D s) (hb : Below w.heap.size w w') : SAt w' g K vR vM vF D s := by
  obtain ⟨vc, vs, vr, vk, h⟩ := h
  exact ⟨vc, vs, vr, vk, h.hold.below hb, h.inw.below hb⟩
theorem SAt.lt {w : World} {g : Nat} {K : Nat → Prop} {vR vM vF : Value} {D : WorldD} {s : Ld.St} (h : SAt w g K vR vM vF D s) : g < w.heap.size := by
  obtain ⟨vc, vs, vr, vk, h⟩ := h
  exact h.hold.lt
theorem SAt.fresh {w w' : World} {g : Nat} {K : Nat → Prop} {vR vM vF : Value} {D : WorldD} {s : Ld.St} (h : SAt w g K vR vM vF D s) (hb : Below w.heap.size w w') : SAt w' g (fun b => K b ∨ (w.heap.size ≤ b ∧ b < w'.heap.size)) vR vM vF D s := by
  obtain ⟨vc, vs, vr, vk, h⟩ := h
  exact ⟨vc, vs, vr, vk, h.hold.fresh hb, (h.inw.below hb).more (fun b hb => .inl hb)⟩
/-- what a call on the machine leaves: the machine at s', K kept and, it may be, more -/
def STo (w w' : World) (g : Nat) (K : Nat → Prop) (vR vM vF : Value) (D : WorldD) (s' : Ld.St) : Prop := ∃ K' : Nat → Prop, (∀ b, K b → K' b) ∧ SAt w' g K' vR vM vF D s' ∧ Keep K w w'
theorem info_rec : (Tryz.prog.info? 39).map (fun i => (i.zero, i.size, i.bytes)) = some (some (.agg #[.int .i64 0, .string ByteArray.empty, .int .i64 0, .int .i64 0]), 4, 40) := by kernel_rfl

set_option maxRecDepth 100000 in
set_option maxHeartbeats 1000000 in
theorem rec_strong (w : World) (g : Nat) (K : Nat → Prop) (vR vM vF : Value) (D : WorldD) (s : Ld.St) (h : SAt w g K vR vM vF D s) (kind code num : Int) (nm : Str) (hr : s.recs.length ≤ 9000) :
    Calls Tryz.prog 93 #[.pointer (some ⟨g, 0, none⟩), .int .i64 kind, .string nm, .int .i64 code, .int .i64 num] w fun e w' => e = .returned (.tuple #[]) ∧ SAt w' g K vR vM vF D (s.note ⟨kind, nm, code, num⟩) ∧ Keep K w w' ∧ (∀ i, i ≠ 4 → w'.cell? ⟨g, i, none⟩ = w.cell? ⟨g, i, none⟩) ∧ ∀ (b : Nat) (cs : Array Value), w.heap[b]? = some (Obj.cells cs 79 (0, 0)) → w'.heap[b]? = w.heap[b]? := by
  obtain ⟨vc, vs, vr, vk, hh, hin⟩ := h
  obtain ⟨A, c, rfl, hc, hd, _⟩ := hh.recs.slV
  have k4 : w.cell? ⟨g, 4, none⟩ = some (.slice A s.recs.length c) := blk_cell hh.blk 4
  have hgl := hh.lt
  go_enter Tryz.func93, Tryz.ntmps93
  have hn : w.heap.size < w.heap.size + 1 := by omega
  go_wp2_with (at_builtin; refine append_own_g fRec 0 rfl _ _ 30 39 (.agg #[.int .i64 0, .string ByteArray.empty, .int .i64 0, .int .i64 0]) 40 rfl Tryz.underlying30 info_rec rfl (by omega) (.slice A s.recs.length c) s.recs ⟨kind, nm, code, num⟩ #[.int .i64 kind, .string nm, .int .i64 code, .int .i64 num] rfl rfl w.heap.size rfl rfl hh.recs (Below.refl 0 w) (Nat.zero_le _) (by omega) ?_; intro v1 w1 hown _ hgr hnew; obtain ⟨hh1, hk1⟩ := hh.recs_to hown hgr hnew; obtain ⟨A1, c1, hv1, hc1, hd1, _⟩ := hown.slV; subst hv1; have q4 : w1.cell? ⟨g, 4, none⟩ = some (.slice A s.recs.length c) := blk_cell hh1.blk 4; have f4 := blk_free hh1.blk 4)
  have hl : (s.recs ++ [(⟨kind, nm, code, num⟩ : RecD)]).length = s.recs.length + 1 := by simp
  rw [hl] at hh1
  have hs := hh1.set 4 (.slice A1 (s.recs.length + 1) c1)
  go_end0
  have hin2 := (hin.same (hk1.same (fun b hb => hb) hh.KS)).same (hs.2.same (fun b hb => hb) hh1.KS)
  refine ⟨rfl, ?_, hk1.then hs.2 (fun b hb => hb), fun i hi => ?_, fun b cs hb => ?_⟩
  · exact SAtV.sat (vc := .slice A1 (s.recs.length + 1) c1) (vs := vs) (vr := vr) (vk := vk) ⟨hs.1, hin2⟩
  · rw [blk_cell hs.1.blk i, blk_cell hh.blk i, Array.getElem?_setIfInBounds, if_neg (Ne.symm hi)]
  · have hbl := (Array.getElem?_eq_some_iff.1 hb).1
    have hbg : b ≠ g := fun e => by
      subst e
      rw [hh.blk] at hb
      injection hb with hb
      injection hb with _ hb _
      exact hh.ty.2.1 hb
    have hbr : some b ≠ (Value.slice A s.recs.length c).ownBlock := fun e => by
      obtain ⟨cur, hcur⟩ := ownsRow_blk hh.recs e.symm
      rw [hcur] at hb
      injection hb with hb
      injection hb with _ hb _
      revert hb
      decide
    rw [Below.heap_setCell _ ⟨g, 4, none⟩ _ b hbg]
    exact hgr.block b hbl hbr
theorem rec_calls (w : World) (g : Nat) (K : Nat → Prop) (vR vM vF : Value) (D : WorldD) (s : Ld.St) (h : SAt w g K vR vM vF D s) (kind code num : Int) (nm : Str) (hr : s.recs.length ≤ 9000) :
    Calls Tryz.prog 93 #[.pointer (some ⟨g, 0, none⟩), .int .i64 kind, .string nm, .int .i64 code, .int .i64 num] w fun e w' => e = .returned (.tuple #[]) ∧ SAt w' g K vR vM vF D (s.note ⟨kind, nm, code, num⟩) ∧ Keep K w w' :=
  (rec_strong w g K vR vM vF D s h kind code num nm hr).mono fun _ _ h => ⟨h.1, h.2.1, h.2.2.1⟩
end Go.Proofs.YtkhlicmlnjccdaaGreatDoor
