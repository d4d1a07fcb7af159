/-
A world of one's own that may be turned: its rows. No program in sight but its types.
The reference's drawing: a world that is being spoilt or made great, as memory holds it (no program in sight but its types).
The reference's drawing: a world made great: one module laid by hand (no program in sight but its types).
-/
import Derived.Test.YtkhlicmlnjccdaaGreatDoorKs31
import Derived.Test.YtkhlicmlnjccdaaGreatDoorKs3
import Derived.Test.YtkhlicmlnjccdaaGreatDoorKs30
import Derived.Test.YtkhlicmlnjccdaaGreatDoorKs15
namespace Go.Proofs.YtkhlicmlnjccdaaGreatDoor
open Go.RowKit Mem
namespace Mem
structure OW (w : World) (B N : Nat) (vR vM vF : Value) (roots : List Str) (hs : List HdrD) (ms : List ModD) (fs : List Int) : Prop where
  R : Own fStr w B 9 vR roots
  M : OwnH w B vM hs ms
  ap : HApart hs
  F : Own fInt w B 3 vF fs
  rz : roots.length ≤ N ∧ ∀ x ∈ roots, x.size ≤ 200
  mz : ms.length ≤ N ∧ ∀ m ∈ ms, m.name.size ≤ 200 ∧ m.lines.length ≤ N ∧ ∀ l ∈ m.lines, l.name.size ≤ 200
  fz : fs.length ≤ N
section
variable {w w1 : World} {B N : Nat} {vR vM vF v1 : Value} {roots : List Str} {hs : List HdrD} {ms : List ModD} {fs : List Int}
theorem OW.below (h : OW w B N vR vM vF roots hs ms fs) (hb : Below w.heap.size w w1) : OW w1 B N vR vM vF roots hs ms fs :=
  ⟨h.R.below hb, h.M.below hb, h.ap, h.F.below hb, h.rz, h.mz, h.fz⟩
theorem OW.more {N' : Nat} (h : OW w B N vR vM vF roots hs ms fs) (hn : N ≤ N') : OW w B N' vR vM vF roots hs ms fs :=
  ⟨h.R, h.M, h.ap, h.F, ⟨Nat.le_trans h.rz.1 hn, h.rz.2⟩, ⟨Nat.le_trans h.mz.1 hn, fun m hm => ⟨(h.mz.2 m hm).1, Nat.le_trans (h.mz.2 m hm).2.1 hn, (h.mz.2 m hm).2.2⟩⟩, Nat.le_trans h.fz hn⟩
theorem OW.kept {row : Option Nat} (h : OW w B N vR vM vF roots hs ms fs) (hg : w.grownBy w1 row) (hR : vR.ownBlock = none ∨ vR.ownBlock ≠ row) (hM : vM.ownBlock = none ∨ vM.ownBlock ≠ row)
    (hL : ∀ (x : HdrD) (m : ModD), HdrOk w B x m → (Value.slice x.A x.n x.c).ownBlock = none ∨ (Value.slice x.A x.n x.c).ownBlock ≠ row) (hF : vF.ownBlock = none ∨ vF.ownBlock ≠ row) : OW w1 B N vR vM vF roots hs ms fs :=
  ⟨h.R.kept hg hR, h.M.kept hg hM hL, h.ap, h.F.kept hg hF, h.rz, h.mz, h.fz⟩
theorem OW.cur {g n cp K : Nat} {A : Option Addr} {code : List Int} (h : OW w B N vR vM vF roots hs ms fs) (hc : CurIn w g A n cp code K) (hg : w.grownBy w1 (some g)) : OW w1 B N vR vM vF roots hs ms fs :=
  h.kept hg (hc.ne h.R (by decide)) (hc.ne h.M.row (by decide)) (fun _ _ a => hc.ne a.own (by decide)) (hc.ne h.F (by decide))
/-- a box of another type is turned -/
theorem OW.box {b : Nat} {cs : Array Value} {T : TypeId} (h : OW w B N vR vM vF roots hs ms fs) (hb : w.heap[b]? = some (.cells cs T (0, 0))) (h1 : 9 ≠ T) (h2 : 75 ≠ T) (h3 : 106 ≠ T) (h4 : 3 ≠ T) (i : Nat) (u : Value) : OW (w.setCell ⟨b, i, none⟩ u) B N vR vM vF roots hs ms fs :=
  h.kept (grown_set w b i u) (apart_blk h.R hb h1) (apart_blk h.M.row hb h2) (fun _ _ a => apart_blk a.own hb h3) (apart_blk h.F hb h4)
theorem OW.setR {xs : List Str} (h : OW w B N vR vM vF roots hs ms fs) (ho : Own fStr w1 B 9 v1 xs) (hg : w.grownBy w1 vR.ownBlock) (hz : xs.length ≤ N ∧ ∀ x ∈ xs, x.size ≤ 200) : OW w1 B N v1 vM vF xs hs ms fs :=
  ⟨ho, h.M.kept hg (apart_ty h.M.row h.R (by decide)) (fun _ _ a => apart_ty a.own h.R (by decide)), h.ap, h.F.kept hg (apart_ty h.F h.R (by decide)), hz, h.mz, h.fz⟩
theorem OW.setF {xs : List Int} (h : OW w B N vR vM vF roots hs ms fs) (ho : Own fInt w1 B 3 v1 xs) (hg : w.grownBy w1 vF.ownBlock) (hz : xs.length ≤ N) : OW w1 B N vR vM v1 roots hs ms xs :=
  ⟨h.R.kept hg (apart_ty h.R h.F (by decide)), h.M.kept hg (apart_ty h.M.row h.F (by decide)) (fun _ _ a => apart_ty a.own h.F (by decide)), h.ap, ho, h.rz, h.mz, hz⟩
theorem OW.snoc {nm : Str} (h : OW w B N vR vM vF roots hs ms fs) (ho : Own fHdr w1 B 75 v1 (hs ++ [⟨nm, none, 0, 0⟩])) (hg : w.grownBy w1 vM.ownBlock) (hz : nm.size ≤ 200) : OW w1 B (N + 1) vR v1 vF roots (hs ++ [⟨nm, none, 0, 0⟩]) (ms ++ [⟨nm, []⟩]) fs := by
  refine ⟨h.R.kept hg (apart_ty h.R h.M.row (by decide)), h.M.snoc (h := ⟨nm, none, 0, 0⟩) (m := ⟨nm, []⟩) ⟨rfl, rfl, Nat.le_refl _, Nat.zero_le _, Own.nil _ _ _⟩ hg ho, h.ap.snoc rfl, h.F.kept hg (apart_ty h.F h.M.row (by decide)), ⟨by have := h.rz.1; omega, h.rz.2⟩, ⟨by have := h.mz.1; simp; omega, fun m hm => ?_⟩, by have := h.fz; omega⟩
  rcases List.mem_append.1 hm with hm | hm
  · have := h.mz.2 m hm
    exact ⟨this.1, by omega, this.2.2⟩
  · rw [List.mem_singleton.1 hm]; exact ⟨hz, Nat.zero_le _, fun l hl => by simp at hl⟩
theorem OW.mz_set {i : Nat} {nm : Str} {ls l0 : List LineD} (hz : ms.length ≤ N ∧ ∀ m ∈ ms, m.name.size ≤ 200 ∧ m.lines.length ≤ N ∧ ∀ l ∈ m.lines, l.name.size ≤ 200) (hm : ms[i]? = some ⟨nm, l0⟩) (hn : ls.length ≤ N) (hl : ∀ l ∈ ls, l.name.size ≤ 200) :
    (ms.set i ⟨nm, ls⟩).length ≤ N ∧ ∀ m ∈ ms.set i ⟨nm, ls⟩, m.name.size ≤ 200 ∧ m.lines.length ≤ N ∧ ∀ l ∈ m.lines, l.name.size ≤ 200 :=
  ⟨by rw [List.length_set]; exact hz.1, fun m hmm => by
    obtain ⟨j, hj⟩ := List.getElem?_of_mem hmm
    rcases set_get hj with ⟨_, rfl⟩ | ⟨_, hj⟩
    · exact ⟨(hz.2 _ (List.mem_of_getElem? hm)).1, hn, hl⟩
    · exact hz.2 m (List.mem_of_getElem? hj)⟩
/-- lines change where they lie -/
theorem OW.lines_at {i : Nat} {hd : HdrD} {nm : Str} {l0 ls : List LineD} (h : OW w B N vR vM vF roots hs ms fs) (hi : hs[i]? = some hd) (hm : ms[i]? = some ⟨nm, l0⟩) (ho : Own fLine w1 B 106 hd.row ls) (hg : w.grownBy w1 hd.row.ownBlock) (hn : ls.length = l0.length) (hz : ∀ l ∈ ls, l.name.size ≤ 200) :
    OW w1 B N vR vM vF roots hs (ms.set i ⟨nm, ls⟩) fs := by
  have hk := h.M.each i hd _ hi hm
  have hL : Own fLine w B 106 hd.row l0 := hk.own
  refine ⟨h.R.kept hg (apart_ty h.R hL (by decide)), ⟨h.M.row.kept hg (apart_ty h.M.row hL (by decide)), by rw [List.length_set]; exact h.M.len, fun j x m e1 e2 => ?_⟩, h.ap, h.F.kept hg (apart_ty h.F hL (by decide)), h.rz, OW.mz_set h.mz hm (by rw [hn]; exact (h.mz.2 _ (List.mem_of_getElem? hm)).2.1) hz, h.fz⟩
  rcases set_get e2 with ⟨rfl, rfl⟩ | ⟨hne, e2⟩
  · obtain rfl : hd = x := by rw [hi] at e1; exact Option.some.inj e1
    exact ⟨hk.name, hk.n.trans hn.symm, hk.nc, hk.cm, ho⟩
  · have a := h.M.each j x m e1 e2
    exact ⟨a.name, a.n, a.nc, a.cm, a.own.kept hg (h.ap j i x hd e1 hi (fun e => hne e.symm))⟩
/-- a module without lines gets lines of its own -/
theorem OW.lines_new {i gM nM cM n' c' : Nat} {A' : Option Addr} {nm : Str} {hd : HdrD} {ls : List LineD} (h : OW w B N vR (.slice (some ⟨gM, 0, none⟩) nM cM) vF roots hs ms fs) (hi : hs[i]? = some hd) (hm : ms[i]? = some ⟨nm, []⟩) (hb : Below w.heap.size w w1) (ho : Own fLine w1 B 106 (.slice A' n' c') ls)
    (hnew : ∀ b, (Value.slice A' n' c').ownBlock = some b → w.heap.size ≤ b) (hn : ls.length = n') (hnN : n' ≤ N) (hz : ∀ l ∈ ls, l.name.size ≤ 200) :
    OW (w1.setCell ⟨gM, i * 2 + 1, none⟩ (.slice A' n' c')) B N vR (.slice (some ⟨gM, 0, none⟩) nM cM) vF roots (hs.set i ⟨nm, A', n', c'⟩) (ms.set i ⟨nm, ls⟩) fs := by
  have hk := h.M.each i hd _ hi hm
  have hR1 := h.R.below hb
  have hF1 := h.F.below hb
  have hM1 := h.M.row.below hb
  have hlen : hs.length = nM := by
    obtain ⟨A2, c2, hv, _⟩ := h.M.row.slV
    injection hv with _ h1 _
    exact h1.symm
  have hst := hM1.store hlen i 1 ⟨nm, A', n', c'⟩ (.slice A' n' c') (by show 1 < 2; omega) (fun x hx => by
    rw [hi] at hx
    obtain rfl := Option.some.inj hx
    have : hd.name = nm := hk.name
    show [Value.string hd.name, _].set 1 _ = [Value.string nm, _]
    rw [this]; rfl)
  obtain ⟨cur, hblk⟩ := ownsRow_blk hM1 (show (Value.slice (some ⟨gM, 0, none⟩) nM cM).ownBlock = some gM from rfl)
  have hg2 := grown_set w1 gM (i * 2 + 1) (.slice A' n' c')
  obtain ⟨A2, c2, hv2, hc1, hc2, _⟩ := ho.slV
  injection hv2 with hA2 hn2 hcc2
  subst hA2 hcc2
  have hnew' : ∀ (j : Nat) (x : HdrD), i ≠ j → hs[j]? = some x → x.row.ownBlock = none ∨ x.row.ownBlock ≠ (Value.slice A' n' c').ownBlock := fun j x hne e => by
    cases he : x.row.ownBlock with
    | none => exact .inl rfl
    | some b =>
      refine .inr fun e3 => ?_
      have hjl : j < ms.length := by
        rw [← h.M.len]
        rcases Nat.lt_or_ge j hs.length with h | h
        · exact h
        · rw [List.getElem?_eq_none h] at e; cases e
      have a := h.M.each j x _ e (List.getElem?_eq_getElem hjl)
      have := Own.lt a.own he
      have := hnew b e3.symm
      omega
  refine ⟨hR1.kept hg2 (apart_blk hR1 hblk (by decide)), ⟨hst, by rw [List.length_set, List.length_set]; exact h.M.len, fun j x m e1 e2 => ?_⟩, fun j k x y e1 e2 hjk => ?_, hF1.kept hg2 (apart_blk hF1 hblk (by decide)), h.rz, OW.mz_set h.mz hm (by omega) hz, h.fz⟩
  · rcases set_get e1 with ⟨rfl, rfl⟩ | ⟨hne, e1⟩
    · rcases set_get e2 with ⟨_, rfl⟩ | ⟨hne, _⟩
      · exact ⟨rfl, hn.symm, by show n' ≤ c'; omega, hc2, ho.kept hg2 (apart_blk ho hblk (by decide))⟩
      · exact absurd rfl hne
    · rcases set_get e2 with ⟨rfl, _⟩ | ⟨_, e2⟩
      · exact absurd rfl hne
      · have a := h.M.each j x m e1 e2
        have a1 := a.own.below hb
        exact ⟨a.name, a.n, a.nc, a.cm, a1.kept hg2 (apart_blk a1 hblk (by decide))⟩
  · rcases set_get e1 with ⟨rfl, rfl⟩ | ⟨hne, e1⟩
    · rcases set_get e2 with ⟨rfl, _⟩ | ⟨hne2, e2⟩
      · exact absurd rfl hjk
      · have := hnew' k y hne2 e2
        show (Value.slice A' n' c').ownBlock = none ∨ (Value.slice A' n' c').ownBlock ≠ y.row.ownBlock
        cases he : (Value.slice A' n' c').ownBlock with
        | none => exact .inl rfl
        | some b =>
          rw [he] at this
          exact .inr (fun e => by
            rcases this with h | h
            · rw [h] at e; cases e
            · exact h e.symm)
    · rcases set_get e2 with ⟨rfl, rfl⟩ | ⟨_, e2⟩
      · exact hnew' j x hne e1
      · exact h.ap j k x y e1 e2 hjk
theorem OW.hd {i : Nat} {m : ModD} (h : OW w B N vR vM vF roots hs ms fs) (hm : ms[i]? = some m) : ∃ hd, hs[i]? = some hd ∧ HdrOk w B hd m := by
  have hl : i < hs.length := by
    rw [h.M.len]
    rcases Nat.lt_or_ge i ms.length with h | h
    · exact h
    · rw [List.getElem?_eq_none h] at hm; cases hm
  exact ⟨_, List.getElem?_eq_getElem hl, h.M.each i _ m (List.getElem?_eq_getElem hl) hm⟩
theorem OW.wIn (h : OW w B N vR vM vF roots hs ms fs) : WIn w (fun b => B ≤ b) vR vM vF ⟨roots, ms, fs⟩ := ⟨h.R.slS (fun b hb => hb), h.M.slV, h.F.slS (fun b hb => hb)⟩
theorem OW.wSz (h : OW w B N vR vM vF roots hs ms fs) : WSz ⟨roots, ms, fs⟩ :=
  ⟨fun x hx => by have := h.rz.2 x hx; omega, fun x hx => by have := (h.mz.2 x hx).1; omega, fun x hx y hy => by have := (h.mz.2 x hx).2.2 y hy; omega⟩
end
section
variable {w0 w : World} {g n cp K : Nat} {A : Option Addr} {code : List Int} {vR vM vF : Value} {roots : List Str} {hs : List HdrD} {ms : List ModD} {fs : List Int}
theorem WAt.ow (h : WAt w0 w g A n cp code K vR vM vF roots hs ms fs) (u0 u1 u2 : Value) {N B : Nat} (hB : B ≤ w0.heap.size) (h1 : roots.length ≤ N) (h2 : ms.length ≤ N) (h3 : ∀ m ∈ ms, m.lines.length ≤ N) (h4 : fs.length ≤ N) :
    OW (((w.setCell ⟨w0.heap.size, 0, none⟩ u0).setCell ⟨w0.heap.size, 1, none⟩ u1).setCell ⟨w0.heap.size, 2, none⟩ u2) B N vR vM vF roots hs ms fs := by
  have k : OW w (w0.heap.size + 2) N vR vM vF roots hs ms fs := ⟨h.R, h.M, h.ap, h.F, ⟨h1, fun x hx => by have := h.rsz x hx; omega⟩, ⟨h2, fun m hm => ⟨by have := (h.msz m hm).1; omega, h3 m hm, fun l hl => by have := ((h.msz m hm).2 l hl).1; omega⟩⟩, h4⟩
  have hr := h.base.res
  have hr1 := blk_set hr 0 u0
  have hr2 := blk_set hr1 1 u1
  have k3 := ((k.box hr (by decide) (by decide) (by decide) (by decide) 0 u0).box hr1 (by decide) (by decide) (by decide) (by decide) 1 u1).box hr2 (by decide) (by decide) (by decide) (by decide) 2 u2
  exact ⟨k3.R.more (by omega), ⟨k3.M.row.more (by omega), k3.M.len, fun i x m e1 e2 => by
    have a := k3.M.each i x m e1 e2
    exact ⟨a.name, a.n, a.nc, a.cm, a.own.more (by omega)⟩⟩, k3.ap, k3.F.more (by omega), k3.rz, k3.mz, k3.fz⟩
end
end Mem
end Go.Proofs.YtkhlicmlnjccdaaGreatDoor

namespace Go.Proofs.YtkhlicmlnjccdaaGreatDoor
open Go.RowKit Mem
namespace Mem
/-- boxes of worlds stay as they were -/
def KeepW (w0 w : World) : Prop := ∀ (b : Nat) (cs : Array Value), b < w0.heap.size → w0.heap[b]? = some (.cells cs 27 (0, 0)) → w.heap[b]? = some (.cells cs 27 (0, 0))
theorem KeepW.refl (w : World) : KeepW w w := fun _ _ _ h => h
theorem KeepW.below {w0 w w1 : World} (h : KeepW w0 w) (hb : Below w.heap.size w w1) : KeepW w0 w1 := fun b cs hl h0 => by
  have h1 := h b cs hl h0
  exact (hb.block _ (Array.getElem?_eq_some_iff.1 h1).1).trans h1
theorem KeepW.turn {w0 w w1 : World} {row : Option Nat} (h : KeepW w0 w) (hg : w.grownBy w1 row) (hne : ∀ (b : Nat) (cs : Array Value), b < w0.heap.size → w.heap[b]? = some (.cells cs 27 (0, 0)) → some b ≠ row) : KeepW w0 w1 := fun b cs hl h0 => by
  have h1 := h b cs hl h0
  exact (hg.block _ (Array.getElem?_eq_some_iff.1 h1).1 (hne b cs hl h1)).trans h1
theorem KeepW.cur {w0 w w1 : World} {g n cp K : Nat} {A : Option Addr} {code : List Int} (h : KeepW w0 w) (hc : CurIn w g A n cp code K) (hg : w.grownBy w1 (some g)) : KeepW w0 w1 := h.turn hg (fun b cs _ hb e => by
  obtain ⟨c, h1, _⟩ := hc
  have e2 := Option.some.inj e
  subst e2
  rw [h1.blk] at hb
  injection hb with hb
  injection hb with _ ht _
  exact absurd ht (by decide))
theorem KeepW.row {w0 w w1 : World} {α : Type} {k : Flat α} {B : Nat} {e : TypeId} {v : Value} {xs : List α} (h : KeepW w0 w) (ho : Own k w B e v xs) (he2 : e ≠ 27) (hg : w.grownBy w1 v.ownBlock) : KeepW w0 w1 := h.turn hg (fun _ _ _ hb => not_row (apart_blk ho hb he2))
theorem KeepW.put {w0 w : World} {b : Nat} (h : KeepW w0 w) (hb : w0.heap.size ≤ b) (i : Nat) (u : Value) : KeepW w0 (w.setCell ⟨b, i, none⟩ u) := h.turn (grown_set w b i u) (fun b' _ hl _ e => by have := Option.some.inj e; omega)
/-- a world's box (at bx) and a result's box (at rs), the cursor, the world's own rows -/
structure SpAt (w0 w : World) (B bx rs g : Nat) (A : Option Addr) (n cp : Nat) (code : List Int) (K N : Nat) (vR vM vF : Value) (roots : List Str) (hs : List HdrD) (ms : List ModD) (fs : List Int) : Prop where
  box : w.heap[bx]? = some (Obj.cells #[vR, vM, vF] 27 (0, 0))
  res : w.heap[rs]? = some (Obj.cells #[.slice none 0 0, .slice none 0 0, .slice none 0 0] 27 (0, 0))
  ne : bx ≠ rs
  gb : g ≠ bx
  gr : g ≠ rs
  cur : CurIn w g A n cp code K
  hg : B ≤ g
  hb : B ≤ bx
  hr : B ≤ rs
  code : CodeBelow A code B
  ow : OW w B N vR vM vF roots hs ms fs
  out : Below B w0 w
  keep : KeepW w0 w
  lb : w0.heap.size ≤ bx
  lr : w0.heap.size ≤ rs
section
variable {w0 w w1 : World} {B bx rs g n cp K N : Nat} {A : Option Addr} {code : List Int} {vR vM vF v1 : Value} {roots : List Str} {hs : List HdrD} {ms : List ModD} {fs : List Int}
theorem curIn_set {b : Nat} (h : CurIn w g A n cp code K) (hg : g ≠ b) (hc : CodeBelow A code B) (hb : B ≤ b) (i : Nat) (u : Value) : CurIn (w.setCell ⟨b, i, none⟩ u) g A n cp code K := by
  obtain ⟨c, h1, h3, h4⟩ := h
  refine ⟨c, h1.grown (grown_set w b i u) (fun b' hb' => ⟨fun e => ?_, fun hcn ad hA e => ?_⟩), h3, h4⟩
  · have := Option.some.inj hb'; omega
  · have := Option.some.inj hb'
    have := hc (by rw [← h3]; exact hcn) ad hA
    omega
theorem SpAt.ltb (h : SpAt w0 w B bx rs g A n cp code K N vR vM vF roots hs ms fs) : bx < w.heap.size := (Array.getElem?_eq_some_iff.1 h.box).1
theorem SpAt.ltr (h : SpAt w0 w B bx rs g A n cp code K N vR vM vF roots hs ms fs) : rs < w.heap.size := (Array.getElem?_eq_some_iff.1 h.res).1
theorem SpAt.ltB (h : SpAt w0 w B bx rs g A n cp code K N vR vM vF roots hs ms fs) : B ≤ w.heap.size := by have := h.ltb; have := h.hb; omega
theorem SpAt.below (h : SpAt w0 w B bx rs g A n cp code K N vR vM vF roots hs ms fs) (hb : Below w.heap.size w w1) : SpAt w0 w1 B bx rs g A n cp code K N vR vM vF roots hs ms fs :=
  ⟨(hb.block _ h.ltb).trans h.box, (hb.block _ h.ltr).trans h.res, h.ne, h.gb, h.gr, h.cur.below hb, h.hg, h.hb, h.hr, h.code, h.ow.below hb, below_then h.out h.ltB hb, h.keep.below hb, h.lb, h.lr⟩
theorem SpAt.more {K1 N1 : Nat} (h : SpAt w0 w B bx rs g A n cp code K N vR vM vF roots hs ms fs) (hk : K ≤ K1) (hn : N ≤ N1) : SpAt w0 w B bx rs g A n cp code K1 N1 vR vM vF roots hs ms fs :=
  ⟨h.box, h.res, h.ne, h.gb, h.gr, h.cur.more hk, h.hg, h.hb, h.hr, h.code, h.ow.more hn, h.out, h.keep, h.lb, h.lr⟩
theorem SpAt.cur' {K1 : Nat} (h : SpAt w0 w B bx rs g A n cp code K N vR vM vF roots hs ms fs) (hc : CurIn w1 g A n cp code K1) (hg : w.grownBy w1 (some g)) : SpAt w0 w1 B bx rs g A n cp code K1 N vR vM vF roots hs ms fs := by
  have h1 := h.gb
  have h2 := h.gr
  exact ⟨(hg.block _ h.ltb (fun e => by have := Option.some.inj e; omega)).trans h.box, (hg.block _ h.ltr (fun e => by have := Option.some.inj e; omega)).trans h.res, h.ne, h.gb, h.gr, hc, h.hg, h.hb, h.hr, h.code, h.ow.cur h.cur hg, h.out.grown hg h.ltB (fun b hb => by have := Option.some.inj hb; have := h.hg; omega), h.keep.cur h.cur hg, h.lb, h.lr⟩
/-- what a turn of one's own row leaves as it was -/
theorem SpAt.turn {α : Type} {k : Flat α} {e : TypeId} {v : Value} {xs : List α} (h : SpAt w0 w B bx rs g A n cp code K N vR vM vF roots hs ms fs) (ho : Own k w B e v xs) (he : e ≠ 60) (he2 : e ≠ 27) (hg : w.grownBy w1 v.ownBlock) :
    w1.heap[bx]? = some (Obj.cells #[vR, vM, vF] 27 (0, 0)) ∧ w1.heap[rs]? = some (Obj.cells #[.slice none 0 0, .slice none 0 0, .slice none 0 0] 27 (0, 0)) ∧ CurIn w1 g A n cp code K ∧ Below B w0 w1 ∧ KeepW w0 w1 :=
  ⟨(hg.block _ h.ltb (not_row (apart_blk ho h.box he2))).trans h.box, (hg.block _ h.ltr (not_row (apart_blk ho h.res he2))).trans h.res, h.cur.other ho he hg h.code, h.out.grown hg h.ltB (fun b hb => ho.le hb), h.keep.row ho he2 hg⟩
/-- the box is turned -/
theorem SpAt.put {a b c vR' vM' vF' : Value} (h : SpAt w0 w B bx rs g A n cp code K N vR vM vF roots hs ms fs) {roots' : List Str} {hs' : List HdrD} {ms' : List ModD} {fs' : List Int} {N' : Nat}
    (h1 : w1.heap[bx]? = some (Obj.cells #[a, b, c] 27 (0, 0))) (h2 : w1.heap[rs]? = some (Obj.cells #[.slice none 0 0, .slice none 0 0, .slice none 0 0] 27 (0, 0))) (h3 : CurIn w1 g A n cp code K) (h4 : Below B w0 w1 ∧ KeepW w0 w1)
    (ho : OW w1 B N' vR' vM' vF' roots' hs' ms' fs') (i : Nat) (u : Value) (hset : (#[a, b, c] : Array Value).setIfInBounds i u = #[vR', vM', vF']) : SpAt w0 (w1.setCell ⟨bx, i, none⟩ u) B bx rs g A n cp code K N' vR' vM' vF' roots' hs' ms' fs' := by
  have hn := h.ne
  exact ⟨by rw [blk_set h1 i u, hset], ((grown_set w1 bx i u).block _ (Array.getElem?_eq_some_iff.1 h2).1 (fun e => by have := Option.some.inj e; omega)).trans h2, h.ne, h.gb, h.gr, curIn_set h3 h.gb h.code h.hb i u, h.hg, h.hb, h.hr, h.code, ho.box h1 (by decide) (by decide) (by decide) (by decide) i u, h4.1.setCell h.hb _, h4.2.put h.lb i u, h.lb, h.lr⟩
theorem SpAt.root {xs : List Str} {N' : Nat} (h : SpAt w0 w B bx rs g A n cp code K N vR vM vF roots hs ms fs) (ho : Own fStr w1 B 9 v1 xs) (hg : w.grownBy w1 vR.ownBlock) (hN : N ≤ N') (hz : xs.length ≤ N' ∧ ∀ x ∈ xs, x.size ≤ 200) :
    SpAt w0 (w1.setCell ⟨bx, 0, none⟩ v1) B bx rs g A n cp code K N' v1 vM vF xs hs ms fs := by
  obtain ⟨b1, r1, c1, o1⟩ := h.turn h.ow.R (by decide) (by decide) hg
  exact h.put b1 r1 c1 o1 ((h.ow.more hN).setR ho hg hz) 0 v1 rfl
theorem SpAt.fault {xs : List Int} {N' : Nat} (h : SpAt w0 w B bx rs g A n cp code K N vR vM vF roots hs ms fs) (ho : Own fInt w1 B 3 v1 xs) (hg : w.grownBy w1 vF.ownBlock) (hN : N ≤ N') (hz : xs.length ≤ N') :
    SpAt w0 (w1.setCell ⟨bx, 2, none⟩ v1) B bx rs g A n cp code K N' vR vM v1 roots hs ms xs := by
  obtain ⟨b1, r1, c1, o1⟩ := h.turn h.ow.F (by decide) (by decide) hg
  exact h.put b1 r1 c1 o1 ((h.ow.more hN).setF ho hg hz) 2 v1 rfl
theorem SpAt.snoc {nm : Str} (h : SpAt w0 w B bx rs g A n cp code K N vR vM vF roots hs ms fs) (ho : Own fHdr w1 B 75 v1 (hs ++ [⟨nm, none, 0, 0⟩])) (hg : w.grownBy w1 vM.ownBlock) (hz : nm.size ≤ 200) :
    SpAt w0 (w1.setCell ⟨bx, 1, none⟩ v1) B bx rs g A n cp code K (N + 1) vR v1 vF roots (hs ++ [⟨nm, none, 0, 0⟩]) (ms ++ [⟨nm, []⟩]) fs := by
  obtain ⟨b1, r1, c1, o1⟩ := h.turn h.ow.M.row (by decide) (by decide) hg
  exact h.put b1 r1 c1 o1 (h.ow.snoc ho hg hz) 1 v1 rfl
/-- a line is turned where it lies -/
theorem SpAt.line {i j f gL c : Nat} {nm : Str} {l0 : List LineD} {hd : HdrD} {y : LineD} {u : Value} (h : SpAt w0 w B bx rs g A n cp code K N vR vM vF roots hs ms fs) (hi : hs[i]? = some hd) (hr : hd.row = .slice (some ⟨gL, 0, none⟩) l0.length c) (hm : ms[i]? = some ⟨nm, l0⟩)
    (hf : f < 4) (hy : ∀ x, l0[j]? = some x → (fLine.enc x).set f u = fLine.enc y) (hyn : y.name.size ≤ 200) :
    SpAt w0 (w.setCell ⟨gL, j * 4 + f, none⟩ u) B bx rs g A n cp code K N vR vM vF roots hs (ms.set i ⟨nm, l0.set j y⟩) fs := by
  have hk := h.ow.M.each i hd _ hi hm
  have hL : Own fLine w B 106 hd.row l0 := hk.own
  have hL2 : Own fLine w B 106 (.slice (some ⟨gL, 0, none⟩) l0.length c) l0 := by rw [← hr]; exact hL
  have ho : Own fLine (w.setCell ⟨gL, j * 4 + f, none⟩ u) B 106 hd.row (l0.set j y) := by rw [hr]; exact hL2.store rfl j f y u hf hy
  have hg : w.grownBy (w.setCell ⟨gL, j * 4 + f, none⟩ u) hd.row.ownBlock := by rw [hr]; exact grown_set w gL (j * 4 + f) u
  obtain ⟨b1, r1, c1, o1⟩ := h.turn hL (by decide) (by decide) hg
  exact ⟨b1, r1, h.ne, h.gb, h.gr, c1, h.hg, h.hb, h.hr, h.code, h.ow.lines_at hi hm ho hg (List.length_set ..) (fun l hl => by
    rcases List.mem_or_eq_of_mem_set hl with hl | rfl
    · exact (h.ow.mz.2 _ (List.mem_of_getElem? hm)).2.2 l hl
    · exact hyn), o1.1, o1.2, h.lb, h.lr⟩
/-- a module without lines gets made ones -/
theorem SpAt.made {i gM nM cM q : Nat} {nm : Str} {hd : HdrD} (h : SpAt w0 w B bx rs g A n cp code K N vR (.slice (some ⟨gM, 0, none⟩) nM cM) vF roots hs ms fs) (hi : hs[i]? = some hd) (hm : ms[i]? = some ⟨nm, []⟩) (hq : q ≤ N) (hqm : q ≤ maxLen) :
    SpAt w0 ((w.alloc (.cells (madeCells #[.int .i64 0, .string ⟨#[]⟩, .int .i64 0, .int .i64 0] (q * 4)) 106)).setCell ⟨gM, i * 2 + 1, none⟩ (.slice (some ⟨w.heap.size, 0, none⟩) q q)) B bx rs g A n cp code K N vR (.slice (some ⟨gM, 0, none⟩) nM cM) vF roots (hs.set i ⟨nm, some ⟨w.heap.size, 0, none⟩, q, q⟩) (ms.set i ⟨nm, List.replicate q ⟨0, ⟨#[]⟩, 0, 0⟩⟩) fs := by
  have hb : Below w.heap.size w (w.alloc (.cells (madeCells #[.int .i64 0, .string ⟨#[]⟩, .int .i64 0, .int .i64 0] (q * 4)) 106)) := Below.alloc (Below.refl _ _) (Nat.le_refl _) _
  have ho := own_made fLine w B 106 #[.int .i64 0, .string ⟨#[]⟩, .int .i64 0, .int .i64 0] ⟨0, ⟨#[]⟩, 0, 0⟩ rfl q h.ltB hqm
  have how := h.ow.lines_new (A' := some ⟨w.heap.size, 0, none⟩) (n' := q) (c' := q) hi hm hb ho (fun b e => by have e2 : w.heap.size = b := Option.some.inj e; omega) (by rw [List.length_replicate]) hq (fun l hl => by rw [(List.mem_replicate.1 hl).2]; decide)
  have h1 := h.below hb
  have hg2 := grown_set (w.alloc (.cells (madeCells #[.int .i64 0, .string ⟨#[]⟩, .int .i64 0, .int .i64 0] (q * 4)) 106)) gM (i * 2 + 1) (.slice (some ⟨w.heap.size, 0, none⟩) q q)
  obtain ⟨b1, r1, c1, o1⟩ := h1.turn h1.ow.M.row (by decide) (by decide) hg2
  exact ⟨b1, r1, h.ne, h.gb, h.gr, c1, h.hg, h.hb, h.hr, h.code, how, o1.1, o1.2, h.lb, h.lr⟩
/-- handed out through the result's box -/
theorem SpAt.ends (h : SpAt w0 w B bx rs g A n cp code K N vR vM vF roots hs ms fs) (u0 u1 u2 : Value) : OW (((w.setCell ⟨rs, 0, none⟩ u0).setCell ⟨rs, 1, none⟩ u1).setCell ⟨rs, 2, none⟩ u2) B N vR vM vF roots hs ms fs ∧
    CurIn (((w.setCell ⟨rs, 0, none⟩ u0).setCell ⟨rs, 1, none⟩ u1).setCell ⟨rs, 2, none⟩ u2) g A n cp code K ∧ Below B w0 (((w.setCell ⟨rs, 0, none⟩ u0).setCell ⟨rs, 1, none⟩ u1).setCell ⟨rs, 2, none⟩ u2) ∧ KeepW w0 (((w.setCell ⟨rs, 0, none⟩ u0).setCell ⟨rs, 1, none⟩ u1).setCell ⟨rs, 2, none⟩ u2) := by
  have hr := h.res
  have hr1 := blk_set hr 0 u0
  have hr2 := blk_set hr1 1 u1
  exact ⟨((h.ow.box hr (by decide) (by decide) (by decide) (by decide) 0 u0).box hr1 (by decide) (by decide) (by decide) (by decide) 1 u1).box hr2 (by decide) (by decide) (by decide) (by decide) 2 u2,
    curIn_set (curIn_set (curIn_set h.cur h.gr h.code h.hr 0 u0) h.gr h.code h.hr 1 u1) h.gr h.code h.hr 2 u2, ((h.out.setCell h.hr _).setCell h.hr _).setCell h.hr _, ((h.keep.put h.lr 0 u0).put h.lr 1 u1).put h.lr 2 u2⟩
end
end Mem
end Go.Proofs.YtkhlicmlnjccdaaGreatDoor

namespace Go.Proofs.YtkhlicmlnjccdaaGreatDoor
open Go.RowKit Mem
namespace Mem
section
variable {w0 w w1 : World} {B bx rs g n cp K N : Nat} {A : Option Addr} {code : List Int} {vR vF : Value} {roots : List Str} {fs : List Int}
/-- a row of one module is laid -/
theorem SpAt.oneMod {v0 : Value} {nm : Str} {A' : Option Addr} {q c : Nat} {ls : List LineD} (h : SpAt w0 w B bx rs g A n cp code K N vR v0 vF roots [] [] fs) (hb : Below w.heap.size w w1) (ho : Own fLine w1 B 106 (.slice A' q c) ls)
    (hq : ls.length = q) (hqN : q ≤ N) (hN1 : 1 ≤ N) (hnm : nm.size ≤ 200) (hz : ∀ l ∈ ls, l.name.size ≤ 200) :
    SpAt w0 ((w1.alloc (Obj.cells #[.string nm, .slice A' q c] 75)).setCell ⟨bx, 1, none⟩ (.slice (some ⟨w1.heap.size, 0, none⟩) 1 1)) B bx rs g A n cp code K N vR (.slice (some ⟨w1.heap.size, 0, none⟩) 1 1) vF roots [⟨nm, A', q, c⟩] [⟨nm, ls⟩] fs := by
  have hb2 : Below w.heap.size w (w1.alloc (Obj.cells #[.string nm, .slice A' q c] 75)) := hb.alloc hb.size _
  have h2 := h.below hb2
  obtain ⟨Ax, cx, hv, hnc, hcm, _⟩ := ho.slV
  simp only [Value.slice.injEq] at hv
  obtain ⟨rfl, rfl, rfl⟩ := hv
  have hBw : B ≤ w1.heap.size := Nat.le_trans h.ltB hb.size
  have hrow : Own fHdr (w1.alloc (Obj.cells #[.string nm, .slice A' ls.length c] 75)) B 75 (.slice (some ⟨w1.heap.size, 0, none⟩) 1 1) [⟨nm, A', ls.length, c⟩] := World.ownsRow_lit w1 #[.string nm, .slice A' ls.length c] 1 hBw (by decide) rfl
  refine h2.put (vR' := vR) (vF' := vF) (roots' := roots) (hs' := [⟨nm, A', ls.length, c⟩]) (ms' := [⟨nm, ls⟩]) (fs' := fs) (N' := N) h2.box h2.res h2.cur ⟨h2.out, h2.keep⟩ ⟨h2.ow.R, ⟨hrow, rfl, fun i x m e1 e2 => ?_⟩, fun i j x y e1 e2 hij => ?_, h2.ow.F, h.ow.rz, ⟨hN1, fun m hm => ?_⟩, h.ow.fz⟩ 1 _ rfl
  · rcases i with _ | i
    · obtain rfl : _ = x := by simpa using e1
      obtain rfl : _ = m := by simpa using e2
      exact ⟨rfl, rfl, hnc, hcm, ho.below (Below.alloc (Below.refl _ _) (Nat.le_refl _) _)⟩
    · simp at e1
  · rcases i with _ | i
    · rcases j with _ | j
      · exact absurd rfl hij
      · simp at e2
    · simp at e1
  · rw [List.mem_singleton.1 hm]; exact ⟨hnm, hqN, hz⟩
/-- a row of lines beside the world grows -/
theorem SpAt.beside {v0 v : Value} {xs : List LineD} (h : SpAt w0 w B bx rs g A n cp code K N vR v0 vF roots [] [] fs) (ho : Own fLine w B 106 v xs) (hg : w.grownBy w1 v.ownBlock) : SpAt w0 w1 B bx rs g A n cp code K N vR v0 vF roots [] [] fs := by
  obtain ⟨b1, r1, c1, o1⟩ := h.turn ho (by decide) (by decide) hg
  exact ⟨b1, r1, h.ne, h.gb, h.gr, c1, h.hg, h.hb, h.hr, h.code, ⟨h.ow.R.kept hg (apart_ty h.ow.R ho (by decide)), ⟨h.ow.M.row.kept hg (apart_ty h.ow.M.row ho (by decide)), rfl, fun i x m e => by simp at e⟩, h.ow.ap, h.ow.F.kept hg (apart_ty h.ow.F ho (by decide)), h.ow.rz, h.ow.mz, h.ow.fz⟩, o1.1, o1.2, h.lb, h.lr⟩
/-- a module's box beside the world is turned -/
theorem SpAt.boxed {cs : Array Value} {bm : Nat} (h : SpAt w0 w B bx rs g A n cp code K N vR (.slice none 0 0) vF roots [] [] fs) (hb : w.heap[bm]? = some (.cells cs 75 (0, 0))) (h1 : bx < bm) (h2 : rs < bm) (h3 : g < bm) (i : Nat) (u : Value) : SpAt w0 (w.setCell ⟨bm, i, none⟩ u) B bx rs g A n cp code K N vR (.slice none 0 0) vF roots [] [] fs := by
  have hg := grown_set w bm i u
  have hhb := h.hb
  exact ⟨(hg.block _ h.ltb (fun e => by have := Option.some.inj e; omega)).trans h.box, (hg.block _ h.ltr (fun e => by have := Option.some.inj e; omega)).trans h.res, h.ne, h.gb, h.gr, curIn_set h.cur (by omega) h.code (by omega) i u, h.hg, h.hb, h.hr, h.code,
    ⟨h.ow.R.kept hg (apart_blk h.ow.R hb (by decide)), ⟨h.ow.M.row.kept hg (.inl rfl), rfl, fun i x m e => by simp at e⟩, h.ow.ap, h.ow.F.kept hg (apart_blk h.ow.F hb (by decide)), h.ow.rz, h.ow.mz, h.ow.fz⟩, h.out.setCell (by show B ≤ bm; omega) _, h.keep.put (by have := h.lb; omega) i u, h.lb, h.lr⟩
end
end Mem
theorem chain_szZ {n : Nat} {back : Int} (hn : n ≤ 60) (hb : back < n) : WSz (Ch.chain n back) := by
  refine ⟨fun x hx => ?_, fun x hx => ?_, fun x hx y hy => ?_⟩
  · obtain rfl : x = ⟨#[]⟩ := by simpa [Ch.chain] using hx
    show 0 ≤ _; omega
  · obtain ⟨i, hi⟩ := List.getElem?_of_mem hx
    obtain ⟨h1, rfl⟩ := Ch.mods_lt hi
    have := mtx_size (k := i) (by omega)
    show (mtx i).size ≤ _; omega
  · obtain ⟨i, hi⟩ := List.getElem?_of_mem hx
    obtain ⟨h1, rfl⟩ := Ch.mods_lt hi
    have hnl := Ch.nxt_lt (back := back) h1 hb
    have hy' : y ∈ Ch.linesC n back i := hy
    unfold Ch.linesC at hy'
    split at hy'
    · have hm := mtx_size (k := (Ch.nxt n back i).toNat) (by omega)
      simp only [List.mem_cons, List.not_mem_nil, or_false] at hy'
      rcases hy' with rfl | rfl | rfl
      · show 0 ≤ _; omega
      · show (mtx _).size ≤ _; omega
      · show 0 ≤ _; omega
    · simp only [List.mem_cons, List.not_mem_nil, or_false] at hy'
      rcases hy' with rfl | rfl
      · show 0 ≤ _; omega
      · show 0 ≤ _; omega
end Go.Proofs.YtkhlicmlnjccdaaGreatDoor
