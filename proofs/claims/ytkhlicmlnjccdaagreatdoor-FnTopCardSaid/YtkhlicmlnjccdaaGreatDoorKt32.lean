/-
  The reference's drawing: a world that is being made (the cursor exactly), as memory holds it (no program in sight but its types).
-/
import Derived.Test.YtkhlicmlnjccdaaGreatDoorKt13
import Derived.Test.YtkhlicmlnjccdaaGreatDoorKt31
namespace Go.Proofs.YtkhlicmlnjccdaaGreatDoor
open Go.RowKit Mem
namespace Mem
/-- a drawn line: a short name, a small number -/
def Lok (l : LineD) : Prop := l.name.size ≤ 25 ∧ 0 ≤ l.num ∧ l.num ≤ 1000
/-- where the lines of a head lie -/
def HdrD.row (h : HdrD) : Value := .slice h.A h.n h.c
/-- the lines of different modules lie apart -/
def HApart (hs : List HdrD) : Prop := ∀ (i j : Nat) (h h' : HdrD), hs[i]? = some h → hs[j]? = some h' → i ≠ j → h.row.ownBlock = none ∨ h.row.ownBlock ≠ h'.row.ownBlock
theorem HApart.nil : HApart [] := fun i j h h' e => by simp at e
theorem HApart.snoc {hs : List HdrD} (k : HApart hs) {h : HdrD} (hn : h.row.ownBlock = none) : HApart (hs ++ [h]) := by
  have hc : ∀ (i : Nat) (x : HdrD), (hs ++ [h])[i]? = some x → hs[i]? = some x ∨ x = h := fun i x e => by
    rcases Nat.lt_or_ge i hs.length with hl | hl
    · rw [List.getElem?_append_left hl] at e; exact .inl e
    · rw [List.getElem?_append_right hl] at e
      have := List.mem_of_getElem? e
      exact .inr (by simpa using this)
  intro i j a b ea eb hij
  rcases hc i a ea with ha | rfl
  · rcases hc j b eb with hb | rfl
    · exact k i j a b ha hb hij
    · cases he : a.row.ownBlock with
      | none => exact .inl rfl
      | some x => exact .inr (by rw [hn]; simp)
  · exact .inl hn
/-- what is about a world that is being made: its boxes, the cursor -/
structure WBase (w0 w : World) (g : Nat) (A : Option Addr) (n cp : Nat) (code : Cur) (K : Nat) (vR vM vF : Value) : Prop where
  out : w0.grownBy w (some g)
  glt : g < w0.heap.size
  res : w.heap[w0.heap.size]? = some (Obj.cells #[.slice none 0 0, .slice none 0 0, .slice none 0 0] 27 (0, 0))
  box : w.heap[w0.heap.size + 1]? = some (Obj.cells #[vR, vM, vF] 27 (0, 0))
  cur : CurIn w g A n cp code K
  code : CodeBelow A n w0.heap.size
section
variable {w0 w w1 : World} {g n cp K : Nat} {A : Option Addr} {code : Cur} {vR vM vF v : Value}
theorem WBase.lt (h : WBase w0 w g A n cp code K vR vM vF) : w0.heap.size + 1 < w.heap.size := (Array.getElem?_eq_some_iff.1 h.box).1
theorem WBase.below (h : WBase w0 w g A n cp code K vR vM vF) (hb : Below w.heap.size w w1) : WBase w0 w1 g A n cp code K vR vM vF := by
  have hl := h.lt
  exact ⟨⟨hb.os.trans h.out.os, hb.tape.trans h.out.tape, hb.output.trans h.out.output, Nat.le_trans h.out.size hb.size, fun i hi hn => (hb.block i (Nat.lt_of_lt_of_le hi h.out.size)).trans (h.out.block i hi hn)⟩, h.glt, (hb.block _ (by omega)).trans h.res, (hb.block _ hl).trans h.box, h.cur.below hb, h.code⟩
theorem WBase.cur' {K1 : Nat} {code1 : Cur} (h : WBase w0 w g A n cp code K vR vM vF) (hc : CurIn w1 g A n cp code1 K1) (hg : w.grownBy w1 (some g)) : WBase w0 w1 g A n cp code1 K1 vR vM vF := by
  have hl := h.lt
  have h2 := h.glt
  exact ⟨World.grownBy.trans h.out hg, h.glt, (hg.block _ (by omega) (by simp; omega)).trans h.res, (hg.block _ hl (by simp; omega)).trans h.box, hc, h.code⟩
theorem WBase.more {K1 : Nat} (h : WBase w0 w g A n cp code K vR vM vF) (hk : K ≤ K1) : WBase w0 w g A n cp code K1 vR vM vF := ⟨h.out, h.glt, h.res, h.box, h.cur.more hk, h.code⟩
theorem WBase.row {α : Type} {k : Flat α} {e : TypeId} {xs : List α} (h : WBase w0 w g A n cp code K vR vM vF) (ho : Own k w (w0.heap.size + 2) e v xs) (he : e ≠ 60) (hg : w.grownBy w1 v.ownBlock) : WBase w0 w1 g A n cp code K vR vM vF := by
  have hl := h.lt
  have h2 := h.glt
  have hne : ∀ b, b < w0.heap.size + 2 → some b ≠ v.ownBlock := fun b hb e => by have := ho.le e.symm; omega
  exact ⟨⟨hg.os.trans h.out.os, hg.tape.trans h.out.tape, hg.output.trans h.out.output, Nat.le_trans h.out.size hg.size, fun i hi hn => (hg.block i (Nat.lt_of_lt_of_le hi h.out.size) (hne i (by omega))).trans (h.out.block i hi hn)⟩, h.glt, (hg.block _ (by omega) (hne _ (by omega))).trans h.res, (hg.block _ hl (hne _ (by omega))).trans h.box, h.cur.other (ho.more (Nat.le_add_right _ _)) he hg h.code, h.code⟩
theorem WBase.set (h : WBase w0 w g A n cp code K vR vM vF) (i : Nat) (u vR' vM' vF' : Value) (hs : (#[vR, vM, vF] : Array Value).setIfInBounds i u = #[vR', vM', vF']) : WBase w0 (w.setCell ⟨w0.heap.size + 1, i, none⟩ u) g A n cp code K vR' vM' vF' := by
  have hg := grown_set w (w0.heap.size + 1) i u
  have hl := h.lt
  have h2 := h.glt
  have hne : ∀ b, b < w0.heap.size + 1 → some b ≠ some (w0.heap.size + 1) := fun b hb e => by have := Option.some.inj e; omega
  obtain ⟨c, h1, h3, h4⟩ := h.cur
  refine ⟨⟨hg.os.trans h.out.os, hg.tape.trans h.out.tape, hg.output.trans h.out.output, Nat.le_trans h.out.size hg.size, fun i hi hn => (hg.block i (Nat.lt_of_lt_of_le hi h.out.size) (hne i (by omega))).trans (h.out.block i hi hn)⟩, h.glt, (hg.block _ (by omega) (hne _ (by omega))).trans h.res, ?_, ⟨c, h1.grown hg (fun b hb => ⟨fun e => ?_, fun hcn ad hA e => ?_⟩), h3, h4⟩, h.code⟩
  · rw [blk_set h.box i u, hs]
  · have := Option.some.inj hb; omega
  · have := Option.some.inj hb
    have := h.code (fun e => hcn (List.eq_nil_of_length_eq_zero (h1.len.trans e))) ad hA
    omega
end
/-- a world that is being made -/
structure WAt (w0 w : World) (g : Nat) (A : Option Addr) (n cp : Nat) (code : Cur) (K : Nat) (vR vM vF : Value) (roots : List Str) (hs : List HdrD) (ms : List ModD) (fs : List Int) : Prop where
  base : WBase w0 w g A n cp code K vR vM vF
  R : Own fStr w (w0.heap.size + 2) 9 vR roots
  M : OwnH w (w0.heap.size + 2) vM hs ms
  ap : HApart hs
  F : Own fInt w (w0.heap.size + 2) 3 vF fs
  rsz : ∀ x ∈ roots, x.size ≤ 25
  msz : ∀ m ∈ ms, m.name.size ≤ 25 ∧ ∀ l ∈ m.lines, Lok l
  lsz : ∀ m ∈ ms, m.lines.length ≤ 9
section
variable {w0 w w1 : World} {g n cp K : Nat} {A : Option Addr} {code : Cur} {vR vM vF v1 : Value} {roots : List Str} {hs : List HdrD} {ms : List ModD} {fs : List Int}
theorem WAt.below (h : WAt w0 w g A n cp code K vR vM vF roots hs ms fs) (hb : Below w.heap.size w w1) : WAt w0 w1 g A n cp code K vR vM vF roots hs ms fs :=
  ⟨h.base.below hb, h.R.below hb, h.M.below hb, h.ap, h.F.below hb, h.rsz, h.msz, h.lsz⟩
theorem WAt.more {K1 : Nat} (h : WAt w0 w g A n cp code K vR vM vF roots hs ms fs) (hk : K ≤ K1) : WAt w0 w g A n cp code K1 vR vM vF roots hs ms fs := ⟨h.base.more hk, h.R, h.M, h.ap, h.F, h.rsz, h.msz, h.lsz⟩
theorem WAt.cur' {K1 : Nat} {code1 : Cur} (h : WAt w0 w g A n cp code K vR vM vF roots hs ms fs) (hc : CurIn w1 g A n cp code1 K1) (hg : w.grownBy w1 (some g)) : WAt w0 w1 g A n cp code1 K1 vR vM vF roots hs ms fs :=
  ⟨h.base.cur' hc hg, h.R.kept hg (h.base.cur.ne h.R (by decide)), h.M.kept hg (h.base.cur.ne h.M.row (by decide)) (fun _ _ a => h.base.cur.ne a.own (by decide)), h.ap, h.F.kept hg (h.base.cur.ne h.F (by decide)), h.rsz, h.msz, h.lsz⟩
theorem WAt.setR {xs : List Str} (h : WAt w0 w g A n cp code K vR vM vF roots hs ms fs) (ho : Own fStr w1 (w0.heap.size + 2) 9 v1 xs) (hg : w.grownBy w1 vR.ownBlock) (hz : ∀ x ∈ xs, x.size ≤ 25) :
    WAt w0 (w1.setCell ⟨w0.heap.size + 1, 0, none⟩ v1) g A n cp code K v1 vM vF xs hs ms fs := by
  have hb := h.base.row h.R (by decide) hg
  have hM := h.M.kept hg (apart_ty h.M.row h.R (by decide)) (fun _ _ a => apart_ty a.own h.R (by decide))
  have hF := h.F.kept hg (apart_ty h.F h.R (by decide))
  have hg2 := grown_set w1 (w0.heap.size + 1) 0 v1
  exact ⟨hb.set 0 v1 v1 vM vF rfl, ho.kept hg2 (apart_blk ho hb.box (by decide)), hM.kept hg2 (apart_blk hM.row hb.box (by decide)) (fun _ _ a => apart_blk a.own hb.box (by decide)), h.ap, hF.kept hg2 (apart_blk hF hb.box (by decide)), hz, h.msz, h.lsz⟩
theorem WAt.setF {xs : List Int} (h : WAt w0 w g A n cp code K vR vM vF roots hs ms fs) (ho : Own fInt w1 (w0.heap.size + 2) 3 v1 xs) (hg : w.grownBy w1 vF.ownBlock) :
    WAt w0 (w1.setCell ⟨w0.heap.size + 1, 2, none⟩ v1) g A n cp code K vR vM v1 roots hs ms xs := by
  have hb := h.base.row h.F (by decide) hg
  have hM := h.M.kept hg (apart_ty h.M.row h.F (by decide)) (fun _ _ a => apart_ty a.own h.F (by decide))
  have hR := h.R.kept hg (apart_ty h.R h.F (by decide))
  have hg2 := grown_set w1 (w0.heap.size + 1) 2 v1
  exact ⟨hb.set 2 v1 vR vM v1 rfl, hR.kept hg2 (apart_blk hR hb.box (by decide)), hM.kept hg2 (apart_blk hM.row hb.box (by decide)) (fun _ _ a => apart_blk a.own hb.box (by decide)), h.ap, ho.kept hg2 (apart_blk ho hb.box (by decide)), h.rsz, h.msz, h.lsz⟩
theorem WAt.snoc {nm : Str} (h : WAt w0 w g A n cp code K vR vM vF roots hs ms fs) (ho : Own fHdr w1 (w0.heap.size + 2) 75 v1 (hs ++ [⟨nm, none, 0, 0⟩])) (hg : w.grownBy w1 vM.ownBlock) (hz : nm.size ≤ 25) :
    WAt w0 (w1.setCell ⟨w0.heap.size + 1, 1, none⟩ v1) g A n cp code K vR v1 vF roots (hs ++ [⟨nm, none, 0, 0⟩]) (ms ++ [⟨nm, []⟩]) fs := by
  have hb := h.base.row h.M.row (by decide) hg
  have hM := h.M.snoc (h := ⟨nm, none, 0, 0⟩) (m := ⟨nm, []⟩) ⟨rfl, rfl, Nat.le_refl _, Nat.zero_le _, Own.nil _ _ _⟩ hg ho
  have hR := h.R.kept hg (apart_ty h.R h.M.row (by decide))
  have hF := h.F.kept hg (apart_ty h.F h.M.row (by decide))
  have hg2 := grown_set w1 (w0.heap.size + 1) 1 v1
  exact ⟨hb.set 1 v1 vR v1 vF rfl, hR.kept hg2 (apart_blk hR hb.box (by decide)), hM.kept hg2 (apart_blk hM.row hb.box (by decide)) (fun _ _ a => apart_blk a.own hb.box (by decide)), h.ap.snoc rfl, hF.kept hg2 (apart_blk hF hb.box (by decide)), h.rsz, fun m hm => by
    rcases List.mem_append.1 hm with hm | hm
    · exact h.msz m hm
    · rw [List.mem_singleton.1 hm]; exact ⟨hz, fun l hl => by simp at hl⟩, fun m hm => by
    rcases List.mem_append.1 hm with hm | hm
    · exact h.lsz m hm
    · rw [List.mem_singleton.1 hm]; exact Nat.zero_le _⟩
theorem WAt.names {vN : Value} {names : List Str} (h : WAt w0 w g A n cp code K vR vM vF roots hs ms fs) (hN : Own fStr w (w0.heap.size + 2) 9 vN names) (hg : w.grownBy w1 vN.ownBlock) (hap : vR.ownBlock = none ∨ vR.ownBlock ≠ vN.ownBlock) : WAt w0 w1 g A n cp code K vR vM vF roots hs ms fs :=
  ⟨h.base.row hN (by decide) hg, h.R.kept hg hap, h.M.kept hg (apart_ty h.M.row hN (by decide)) (fun _ _ a => apart_ty a.own hN (by decide)), h.ap, h.F.kept hg (apart_ty h.F hN (by decide)), h.rsz, h.msz, h.lsz⟩
theorem set_get {α : Type} {l : List α} {i j : Nat} {a b : α} (h : (l.set i a)[j]? = some b) : (i = j ∧ b = a) ∨ (i ≠ j ∧ l[j]? = some b) := by
  by_cases hij : i = j
  · subst hij
    rcases Nat.lt_or_ge i l.length with hl | hl
    · rw [List.getElem?_set_self hl] at h; exact .inl ⟨rfl, (Option.some.inj h).symm⟩
    · rw [List.getElem?_eq_none (by simpa using hl)] at h; cases h
  · rw [List.getElem?_set_ne hij] at h; exact .inr ⟨hij, h⟩
theorem msz_set {i : Nat} {nm : Str} {ls l0 : List LineD} (hz : ∀ m ∈ ms, m.name.size ≤ 25 ∧ ∀ l ∈ m.lines, Lok l) (hm : ms[i]? = some ⟨nm, l0⟩) (hl : ∀ l ∈ ls, Lok l) : ∀ m ∈ ms.set i ⟨nm, ls⟩, m.name.size ≤ 25 ∧ ∀ l ∈ m.lines, Lok l := fun m hmm => by
  obtain ⟨j, hj⟩ := List.getElem?_of_mem hmm
  rcases set_get hj with ⟨_, rfl⟩ | ⟨_, hj⟩
  · exact ⟨(hz _ (List.mem_of_getElem? hm)).1, hl⟩
  · exact hz m (List.mem_of_getElem? hj)
theorem lsz_set {i : Nat} {nm : Str} {ls : List LineD} (hz : ∀ m ∈ ms, m.lines.length ≤ 9) (hl : ls.length ≤ 9) : ∀ m ∈ ms.set i ⟨nm, ls⟩, m.lines.length ≤ 9 := fun m hmm => by
  obtain ⟨j, hj⟩ := List.getElem?_of_mem hmm
  rcases set_get hj with ⟨_, rfl⟩ | ⟨_, hj⟩
  · exact hl
  · exact hz m (List.mem_of_getElem? hj)
/-- lines change where they lie -/
theorem WAt.lines_at {i : Nat} {hd : HdrD} {nm : Str} {l0 ls : List LineD} (h : WAt w0 w g A n cp code K vR vM vF roots hs ms fs) (hi : hs[i]? = some hd) (hm : ms[i]? = some ⟨nm, l0⟩) (ho : Own fLine w1 (w0.heap.size + 2) 106 hd.row ls) (hg : w.grownBy w1 hd.row.ownBlock) (hn : ls.length = l0.length) (hz : ∀ l ∈ ls, Lok l) :
    WAt w0 w1 g A n cp code K vR vM vF roots hs (ms.set i ⟨nm, ls⟩) fs := by
  have hk := h.M.each i hd _ hi hm
  have hL : Own fLine w (w0.heap.size + 2) 106 hd.row l0 := hk.own
  refine ⟨h.base.row hL (by decide) hg, h.R.kept hg (apart_ty h.R hL (by decide)), ⟨h.M.row.kept hg (apart_ty h.M.row hL (by decide)), by rw [List.length_set]; exact h.M.len, fun j x m e1 e2 => ?_⟩, h.ap, h.F.kept hg (apart_ty h.F hL (by decide)), h.rsz, msz_set h.msz hm hz, lsz_set h.lsz (by rw [hn]; exact h.lsz _ (List.mem_of_getElem? hm))⟩
  rcases set_get e2 with ⟨rfl, rfl⟩ | ⟨hne, e2⟩
  · obtain rfl : hd = x := by rw [hi] at e1; exact Option.some.inj e1
    exact ⟨hk.name, hk.n.trans hn.symm, hk.nc, hk.cm, ho⟩
  · have a := h.M.each j x m e1 e2
    exact ⟨a.name, a.n, a.nc, a.cm, a.own.kept hg (h.ap j i x hd e1 hi (fun e => hne e.symm))⟩
/-- the lines of one module grow -/
theorem WAt.lines_up {i gM nM cM n' c' : Nat} {A' : Option Addr} {hd : HdrD} {nm : Str} {l0 ls : List LineD} (h : WAt w0 w g A n cp code K vR (.slice (some ⟨gM, 0, none⟩) nM cM) vF roots hs ms fs) (hi : hs[i]? = some hd) (hm : ms[i]? = some ⟨nm, l0⟩) (ho : Own fLine w1 (w0.heap.size + 2) 106 (.slice A' n' c') ls) (hg : w.grownBy w1 hd.row.ownBlock)
    (hnew : (Value.slice A' n' c').ownBlock = hd.row.ownBlock ∨ ∃ b, (Value.slice A' n' c').ownBlock = some b ∧ w.heap.size ≤ b) (hn : ls.length = n') (hz : ∀ l ∈ ls, Lok l) (hl9 : ls.length ≤ 9) :
    WAt w0 (w1.setCell ⟨gM, i * 2 + 1, none⟩ (.slice A' n' c')) g A n cp code K vR (.slice (some ⟨gM, 0, none⟩) nM cM) vF roots (hs.set i ⟨nm, A', n', c'⟩) (ms.set i ⟨nm, ls⟩) fs := by
  have hk := h.M.each i hd _ hi hm
  have hL : Own fLine w (w0.heap.size + 2) 106 hd.row l0 := hk.own
  have hb1 := h.base.row hL (by decide) hg
  have hR1 := h.R.kept hg (apart_ty h.R hL (by decide))
  have hF1 := h.F.kept hg (apart_ty h.F hL (by decide))
  have hM1 := h.M.row.kept hg (apart_ty h.M.row hL (by decide))
  have hlen : hs.length = nM := by
    obtain ⟨A2, c2, hv, _⟩ := h.M.row.slV
    injection hv with _ h1 _
    exact h1.symm
  have hst := hM1.store hlen i 1 ⟨nm, A', n', c'⟩ (.slice A' n' c') (by show 1 < 2; omega) (fun x hx => by
    rw [hi] at hx
    obtain rfl := Option.some.inj hx
    have : hd.name = nm := hk.name
    show [Value.string hd.name, _].set 1 _ = [Value.string nm, _]
    rw [this]; rfl)
  obtain ⟨cur, hblk⟩ := ownsRow_blk hM1 (show (Value.slice (some ⟨gM, 0, none⟩) nM cM).ownBlock = some gM from rfl)
  have hg2 := grown_set w1 gM (i * 2 + 1) (.slice A' n' c')
  have hg2' : w1.grownBy (w1.setCell ⟨gM, i * 2 + 1, none⟩ (.slice A' n' c')) (Value.slice (some ⟨gM, 0, none⟩) nM cM).ownBlock := hg2
  obtain ⟨A2, c2, hv2, hc1, hc2, _⟩ := ho.slV
  injection hv2 with hA2 hn2 hcc2
  subst hA2 hcc2
  have hnew' : ∀ (j : Nat) (x : HdrD), i ≠ j → hs[j]? = some x → x.row.ownBlock = none ∨ x.row.ownBlock ≠ (Value.slice A' n' c').ownBlock := fun j x hne e => by
    rcases hnew with e2 | ⟨b, e2, hb⟩
    · rw [e2]; exact h.ap j i x hd e hi (fun e => hne e.symm)
    · rw [e2]
      refine .inr fun e3 => ?_
      have hjl : j < ms.length := by
        rw [← h.M.len]
        rcases Nat.lt_or_ge j hs.length with h | h
        · exact h
        · rw [List.getElem?_eq_none h] at e; cases e
      have a := h.M.each j x _ e (List.getElem?_eq_getElem hjl)
      have := Own.lt a.own e3
      omega
  refine ⟨hb1.row hM1 (by decide) hg2', hR1.kept hg2 (apart_blk hR1 hblk (by decide)), ⟨hst, by rw [List.length_set, List.length_set]; exact h.M.len, fun j x m e1 e2 => ?_⟩, fun j k x y e1 e2 hjk => ?_, hF1.kept hg2 (apart_blk hF1 hblk (by decide)), h.rsz, msz_set h.msz hm hz, lsz_set h.lsz hl9⟩
  · rcases set_get e1 with ⟨rfl, rfl⟩ | ⟨hne, e1⟩
    · rcases set_get e2 with ⟨_, rfl⟩ | ⟨hne, _⟩
      · exact ⟨rfl, hn.symm, by show n' ≤ c'; omega, hc2, ho.kept hg2 (apart_blk ho hblk (by decide))⟩
      · exact absurd rfl hne
    · rcases set_get e2 with ⟨rfl, _⟩ | ⟨_, e2⟩
      · exact absurd rfl hne
      · have a := h.M.each j x m e1 e2
        have a1 := a.own.kept hg (h.ap j i x hd e1 hi (fun e => hne e.symm))
        exact ⟨a.name, a.n, a.nc, a.cm, a1.kept hg2 (apart_blk a1 hblk (by decide))⟩
  · rcases set_get e1 with ⟨rfl, rfl⟩ | ⟨hne, e1⟩
    · rcases set_get e2 with ⟨rfl, _⟩ | ⟨hne2, e2⟩
      · exact absurd rfl hjk
      · have := hnew' k y hne2 e2
        show (Value.slice A' n' c').ownBlock = none ∨ (Value.slice A' n' c').ownBlock ≠ y.row.ownBlock
        cases he : (Value.slice A' n' c').ownBlock with
        | none => exact .inl rfl
        | some b =>
          rw [he] at this
          exact .inr (fun e => by
            rcases this with h | h
            · rw [h] at e; cases e
            · exact h e.symm)
    · rcases set_get e2 with ⟨rfl, rfl⟩ | ⟨_, e2⟩
      · exact hnew' j x hne e1
      · exact h.ap j k x y e1 e2 hjk
/-- where a head and its lines stand -/
theorem WAt.at_ {i gM nM cM : Nat} {hd : HdrD} (h : WAt w0 w g A n cp code K vR (.slice (some ⟨gM, 0, none⟩) nM cM) vF roots hs ms fs) (hi : hs[i]? = some hd) : w.cell? ⟨gM, i * 2 + 1, none⟩ = some (.slice hd.A hd.n hd.c) ∧ w.frozen? ⟨gM, i * 2 + 1, none⟩ = false :=
  ⟨h.M.row.cellAt (j := 1) hi rfl, h.M.row.free _⟩
theorem WAt.hd {i : Nat} {m : ModD} (h : WAt w0 w g A n cp code K vR vM vF roots hs ms fs) (hm : ms[i]? = some m) : ∃ hd, hs[i]? = some hd ∧ HdrOk w (w0.heap.size + 2) hd m := by
  have hl : i < hs.length := by
    rw [h.M.len]
    rcases Nat.lt_or_ge i ms.length with h | h
    · exact h
    · rw [List.getElem?_eq_none h] at hm; cases hm
  exact ⟨_, List.getElem?_eq_getElem hl, h.M.each i _ m (List.getElem?_eq_getElem hl) hm⟩
/-- the end: the world as one's own -/
theorem WAt.done (h : WAt w0 w g A n cp code K vR vM vF roots hs ms fs) : WIn w (fun b => w0.heap.size + 2 ≤ b) vR vM vF ⟨roots, ms, fs⟩ ∧ WSz ⟨roots, ms, fs⟩ ∧ ∀ m ∈ ms, ∀ l ∈ m.lines, 0 ≤ l.num ∧ l.num ≤ 1000 :=
  ⟨⟨h.R.slS (fun b hb => hb), h.M.slV, h.F.slS (fun b hb => hb)⟩, ⟨fun x hx => by have := h.rsz x hx; omega, fun x hx => by have := (h.msz x hx).1; omega, fun x hx y hy => by have := ((h.msz x hx).2 y hy).1; omega⟩, fun x hx y hy => ((h.msz x hx).2 y hy).2⟩
theorem CurIn.set {b0 : Nat} (h : CurIn w g A n cp code K) (hg : g < b0) (hcb : CodeBelow A n b0) (i : Nat) (u : Value) : CurIn (w.setCell ⟨b0, i, none⟩ u) g A n cp code K := by
  obtain ⟨c, h1, h3, h4⟩ := h
  refine ⟨c, h1.grown (grown_set w b0 i u) (fun b hb => ⟨fun e => ?_, fun hcn ad hA e => ?_⟩), h3, h4⟩
  · have := Option.some.inj hb; omega
  · have := Option.some.inj hb
    have := hcb (fun e => hcn (List.eq_nil_of_length_eq_zero (h1.len.trans e))) ad hA
    omega
/-- handed out through the result's cells -/
theorem WAt.ends (h : WAt w0 w g A n cp code K vR vM vF roots hs ms fs) (u0 u1 u2 : Value) : WIn (((w.setCell ⟨w0.heap.size, 0, none⟩ u0).setCell ⟨w0.heap.size, 1, none⟩ u1).setCell ⟨w0.heap.size, 2, none⟩ u2) (fun b => w0.heap.size ≤ b) vR vM vF ⟨roots, ms, fs⟩ ∧
    CurIn (((w.setCell ⟨w0.heap.size, 0, none⟩ u0).setCell ⟨w0.heap.size, 1, none⟩ u1).setCell ⟨w0.heap.size, 2, none⟩ u2) g A n cp code K ∧ w0.grownBy (((w.setCell ⟨w0.heap.size, 0, none⟩ u0).setCell ⟨w0.heap.size, 1, none⟩ u1).setCell ⟨w0.heap.size, 2, none⟩ u2) (some g) := by
  have hk : ∀ b, b ≠ w0.heap.size → (((w.setCell ⟨w0.heap.size, 0, none⟩ u0).setCell ⟨w0.heap.size, 1, none⟩ u1).setCell ⟨w0.heap.size, 2, none⟩ u2).heap[b]? = w.heap[b]? := fun b hb => by
    simp only [World.setCell]
    repeat rw [Array.getElem?_modify, if_neg (by omega)]
  refine ⟨(h.done.1.same (fun b hb => hk b (by omega))).more (fun b hb => by omega), CurIn.set (CurIn.set (CurIn.set h.base.cur h.base.glt h.base.code _ _) h.base.glt h.base.code _ _) h.base.glt h.base.code _ _, ?_⟩
  have ho := h.base.out
  exact ⟨ho.os, ho.tape, ho.output, by have := ho.size; simpa [World.setCell] using this, fun i hi hn => (hk i (by omega)).trans (ho.block i hi hn)⟩
end
/-- the same, and the names beside it -/
structure WRN (w0 w : World) (g : Nat) (A : Option Addr) (n cp : Nat) (code : Cur) (K : Nat) (vN vR vM vF : Value) (names roots : List Str) (hs : List HdrD) (ms : List ModD) (fs : List Int) : Prop where
  W : WAt w0 w g A n cp code K vR vM vF roots hs ms fs
  N : Own fStr w (w0.heap.size + 2) 9 vN names
  ap : ∀ b1 b2, vN.ownBlock = some b1 → vR.ownBlock = some b2 → b1 ≠ b2
section
variable {w0 w w1 : World} {g n cp K : Nat} {A : Option Addr} {code : Cur} {vN vR vM vF v1 : Value} {names roots : List Str} {hs : List HdrD} {ms : List ModD} {fs : List Int}
theorem WRN.below (h : WRN w0 w g A n cp code K vN vR vM vF names roots hs ms fs) (hb : Below w.heap.size w w1) : WRN w0 w1 g A n cp code K vN vR vM vF names roots hs ms fs := ⟨h.W.below hb, h.N.below hb, h.ap⟩
theorem WRN.more {K1 : Nat} (h : WRN w0 w g A n cp code K vN vR vM vF names roots hs ms fs) (hk : K ≤ K1) : WRN w0 w g A n cp code K1 vN vR vM vF names roots hs ms fs := ⟨h.W.more hk, h.N, h.ap⟩
theorem WRN.cur' {K1 : Nat} {code1 : Cur} (h : WRN w0 w g A n cp code K vN vR vM vF names roots hs ms fs) (hc : CurIn w1 g A n cp code1 K1) (hg : w.grownBy w1 (some g)) : WRN w0 w1 g A n cp code1 K1 vN vR vM vF names roots hs ms fs :=
  ⟨h.W.cur' hc hg, h.N.kept hg (h.W.base.cur.ne h.N (by decide)), h.ap⟩
theorem WRN.root {s : Str} (h : WRN w0 w g A n cp code K vN vR vM vF names roots hs ms fs) (ho : Own fStr w1 (w0.heap.size + 2) 9 v1 (roots ++ [s])) (hg : w.grownBy w1 vR.ownBlock) (hnew : v1.ownBlock = vR.ownBlock ∨ ∃ b, v1.ownBlock = some b ∧ w.heap.size ≤ b) (hs' : s.size ≤ 25) :
    WRN w0 (w1.setCell ⟨w0.heap.size + 1, 0, none⟩ v1) g A n cp code K vN v1 vM vF names (roots ++ [s]) hs ms fs := by
  have hap : vN.ownBlock = none ∨ vN.ownBlock ≠ vR.ownBlock := by
    cases he : vN.ownBlock with
    | none => exact .inl rfl
    | some b => exact .inr (fun e => h.ap b b he e.symm rfl)
  have hN := h.N.kept hg hap
  have hb := h.W.base.row h.W.R (by decide) hg
  refine ⟨h.W.setR ho hg (fun x hx => ?_), hN.kept (grown_set w1 (w0.heap.size + 1) 0 v1) (apart_blk hN hb.box (by decide)), fun b1 b2 e1 e2 => ?_⟩
  · rcases List.mem_append.1 hx with hx | hx
    · exact h.W.rsz x hx
    · rw [List.mem_singleton.1 hx]; exact hs'
  · rcases hnew with e | ⟨b, e, hb⟩
    · exact h.ap b1 b2 e1 (e ▸ e2)
    · have := h.N.lt e1
      rw [e] at e2
      have := Option.some.inj e2
      omega
theorem WRN.noRoots (h : WRN w0 w g A n cp code K vN vR vM vF names roots hs ms fs) : WRN w0 (w.setCell ⟨w0.heap.size + 1, 0, none⟩ (.slice none 0 0)) g A n cp code K vN (.slice none 0 0) vM vF names [] hs ms fs :=
  ⟨h.W.setR (Own.nil _ _ _) (World.grownBy.refl _ _) (fun x hx => by simp at hx), h.N.kept (grown_set w (w0.heap.size + 1) 0 (.slice none 0 0)) (apart_blk h.N h.W.base.box (by decide)), fun b1 b2 _ e2 => by cases e2⟩
theorem WRN.lines_at {i : Nat} {hd : HdrD} {nm : Str} {l0 ls : List LineD} (h : WRN w0 w g A n cp code K vN vR vM vF names roots hs ms fs) (hi : hs[i]? = some hd) (hm : ms[i]? = some ⟨nm, l0⟩) (ho : Own fLine w1 (w0.heap.size + 2) 106 hd.row ls) (hg : w.grownBy w1 hd.row.ownBlock) (hn : ls.length = l0.length) (hz : ∀ l ∈ ls, Lok l) :
    WRN w0 w1 g A n cp code K vN vR vM vF names roots hs (ms.set i ⟨nm, ls⟩) fs := by
  have hL : Own fLine w (w0.heap.size + 2) 106 hd.row l0 := (h.W.M.each i hd _ hi hm).own
  exact ⟨h.W.lines_at hi hm ho hg hn hz, h.N.kept hg (apart_ty h.N hL (by decide)), h.ap⟩
theorem WRN.lines_up {i gM nM cM n' c' : Nat} {A' : Option Addr} {hd : HdrD} {nm : Str} {l0 ls : List LineD} (h : WRN w0 w g A n cp code K vN vR (.slice (some ⟨gM, 0, none⟩) nM cM) vF names roots hs ms fs) (hi : hs[i]? = some hd) (hm : ms[i]? = some ⟨nm, l0⟩) (ho : Own fLine w1 (w0.heap.size + 2) 106 (.slice A' n' c') ls) (hg : w.grownBy w1 hd.row.ownBlock)
    (hnew : (Value.slice A' n' c').ownBlock = hd.row.ownBlock ∨ ∃ b, (Value.slice A' n' c').ownBlock = some b ∧ w.heap.size ≤ b) (hn : ls.length = n') (hz : ∀ l ∈ ls, Lok l) (hl9 : ls.length ≤ 9) :
    WRN w0 (w1.setCell ⟨gM, i * 2 + 1, none⟩ (.slice A' n' c')) g A n cp code K vN vR (.slice (some ⟨gM, 0, none⟩) nM cM) vF names roots (hs.set i ⟨nm, A', n', c'⟩) (ms.set i ⟨nm, ls⟩) fs := by
  have hL : Own fLine w (w0.heap.size + 2) 106 hd.row l0 := (h.W.M.each i hd _ hi hm).own
  have hN := h.N.kept hg (apart_ty h.N hL (by decide))
  have hM := h.W.M.row.kept hg (apart_ty h.W.M.row hL (by decide))
  obtain ⟨cur, hblk⟩ := ownsRow_blk hM (show (Value.slice (some ⟨gM, 0, none⟩) nM cM).ownBlock = some gM from rfl)
  exact ⟨h.W.lines_up hi hm ho hg hnew hn hz hl9, hN.kept (grown_set w1 gM (i * 2 + 1) (.slice A' n' c')) (apart_blk hN hblk (by decide)), h.ap⟩
end
/-- a line that is being made, in a box of its own behind W -/
structure LBox (W wx : World) (g : Nat) (A : Option Addr) (n cp : Nat) (code : Cur) (K : Nat) (a : Int) (s : Str) (b c : Int) : Prop where
  cur : CurIn wx g A n cp code K
  out : W.grownBy wx (some g)
  glt : g < W.heap.size
  code : CodeBelow A n W.heap.size
  box : wx.heap[W.heap.size]? = some (Obj.cells #[.int .i64 a, .string s, .int .i64 b, .int .i64 c] 106 (0, 0))
section
variable {W w w1 : World} {g n cp K : Nat} {A : Option Addr} {code : Cur} {a b c : Int} {s : Str}
theorem LBox.start (hc : CurIn W g A n cp code K) (hg : g < W.heap.size) (hcb : CodeBelow A n W.heap.size) : LBox W (W.alloc (Obj.cells #[.int .i64 a, .string s, .int .i64 b, .int .i64 c] 106)) g A n cp code K a s b c := by
  have hb : Below W.heap.size W (W.alloc (Obj.cells #[.int .i64 a, .string s, .int .i64 b, .int .i64 c] 106)) := Below.alloc (Below.refl _ _) (Nat.le_refl _) _
  exact ⟨hc.below hb, ⟨hb.os, hb.tape, hb.output, hb.size, fun i hi _ => hb.block i hi⟩, hg, hcb, heap_alloc_new W _⟩
theorem LBox.cur' {K1 : Nat} {code1 : Cur} (h : LBox W w g A n cp code K a s b c) (hc : CurIn w1 g A n cp code1 K1) (hg : w.grownBy w1 (some g)) : LBox W w1 g A n cp code1 K1 a s b c :=
  ⟨hc, World.grownBy.trans h.out hg, h.glt, h.code, (hg.block _ (Array.getElem?_eq_some_iff.1 h.box).1 (by have := h.glt; simp; omega)).trans h.box⟩
theorem LBox.more {K1 : Nat} (h : LBox W w g A n cp code K a s b c) (hk : K ≤ K1) : LBox W w g A n cp code K1 a s b c := ⟨h.cur.more hk, h.out, h.glt, h.code, h.box⟩
theorem LBox.below (h : LBox W w g A n cp code K a s b c) (hb : Below w.heap.size w w1) : LBox W w1 g A n cp code K a s b c :=
  ⟨h.cur.below hb, ⟨hb.os.trans h.out.os, hb.tape.trans h.out.tape, hb.output.trans h.out.output, Nat.le_trans h.out.size hb.size, fun i hi hn => (hb.block i (Nat.lt_of_lt_of_le hi h.out.size)).trans (h.out.block i hi hn)⟩, h.glt, h.code, (hb.block _ (Array.getElem?_eq_some_iff.1 h.box).1).trans h.box⟩
theorem LBox.set (h : LBox W w g A n cp code K a s b c) (i : Nat) (u : Value) (a' : Int) (s' : Str) (b' c' : Int) (hs : (#[.int .i64 a, .string s, .int .i64 b, .int .i64 c] : Array Value).setIfInBounds i u = #[.int .i64 a', .string s', .int .i64 b', .int .i64 c']) : LBox W (w.setCell ⟨W.heap.size, i, none⟩ u) g A n cp code K a' s' b' c' := by
  have hg := grown_set w W.heap.size i u
  have hne : ∀ b, b < W.heap.size → some b ≠ some W.heap.size := fun b hb e => by have := Option.some.inj e; omega
  obtain ⟨c, h1, h3, h4⟩ := h.cur
  have hgl := h.glt
  refine ⟨⟨c, h1.grown hg (fun b hb => ⟨fun e => ?_, fun hcn ad hA e => ?_⟩), h3, h4⟩, ⟨hg.os.trans h.out.os, hg.tape.trans h.out.tape, hg.output.trans h.out.output, Nat.le_trans h.out.size hg.size, fun i hi hn => (hg.block i (Nat.lt_of_lt_of_le hi h.out.size) (hne i hi)).trans (h.out.block i hi hn)⟩, h.glt, h.code, by rw [blk_set h.box i u, hs]⟩
  · have := Option.some.inj hb; omega
  · have := Option.some.inj hb
    have := h.code (fun e => hcn (List.eq_nil_of_length_eq_zero (h1.len.trans e))) ad hA
    omega
end
theorem LBox.all {W w : World} {g n cp K : Nat} {A : Option Addr} {code : Cur} {a b c : Int} {s : Str} (h : LBox W w g A n cp code K a s b c) (a' : Int) (s' : Str) (b' c' : Int) :
    LBox W ((((w.setCell ⟨W.heap.size, 0, none⟩ (.int .i64 a')).setCell ⟨W.heap.size, 1, none⟩ (.string s')).setCell ⟨W.heap.size, 2, none⟩ (.int .i64 b')).setCell ⟨W.heap.size, 3, none⟩ (.int .i64 c')) g A n cp code K a' s' b' c' :=
  (((h.set 0 _ a' s b c rfl).set 1 _ a' s' b c rfl).set 2 _ a' s' b' c rfl).set 3 _ a' s' b' c' rfl
theorem pick_inI {w : World} {g n cp k : Nat} {A : Option Addr} {code : Cur} (m : Int) (h : CurIn w g A n cp code k) (hk : k ≤ 1073741000) (hm : 0 < m) (hm2 : m ≤ 1048576) : Calls Tryz.prog 54 #[.pointer (some ⟨g, 0, none⟩), .int .i64 m] w fun e w' => ∃ r : Nat, e = .returned (.int .i64 r) ∧ (r : Int) < m ∧ CurIn w' g A n cp (code.pick m.toNat).2 (k + 2) ∧ w.grownBy w' (some g) ∧ Hid (r = (code.pick m.toNat).1) := by
  obtain ⟨j, rfl⟩ := Int.eq_ofNat_of_zero_le (Int.le_of_lt hm)
  refine (pick_in j h hk (by omega) (by omega)).mono ?_
  rintro e w' ⟨r, h1, h2, h3⟩
  exact ⟨r, h1, by omega, h3⟩
theorem ask_inN {w : World} {g n cp k B m c2 : Nat} {A N : Option Addr} {code : Cur} {names : List Str} (h : CurIn w g A n cp code k) (hk : k ≤ 1073740000) (hgl : g < B) (ho : Own fStr w B 9 (.slice N m c2) names) (hm : m ≤ 1000) (hz : ∀ x ∈ names, x.size ≤ 20) :
    Calls Tryz.prog 66 #[.pointer (some ⟨g, 0, none⟩), .slice N m c2] w (RetStr w g A n cp (code.ask names) (k + 18) 25) := by
  obtain ⟨c, h1, rfl, h3⟩ := h
  obtain ⟨N', c', hv, _, _, hsl⟩ := ho.slV
  injection hv with e1 e2 e3
  subst e1 e3
  refine (ask_calls w g n cp m c2 A N c names h1 (hsl.more (fun b hb => by omega)) e2.symm hm hz (by omega)).mono ?_
  rintro e w' ⟨rfl, t⟩
  have o := ask_ok c names h1.small hz
  exact ⟨_, rfl, o.2, ⟨_, t.1, rfl, by have := o.1.pos; omega⟩, t.2, rfl⟩
end Mem
end Go.Proofs.YtkhlicmlnjccdaaGreatDoor
