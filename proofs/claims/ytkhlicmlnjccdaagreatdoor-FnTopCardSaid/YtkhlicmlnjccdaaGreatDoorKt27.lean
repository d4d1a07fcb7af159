/-
  Walk: the reference's Load.
-/
import Derived.Test.YtkhlicmlnjccdaaGreatDoorKt25
import Derived.Test.YtkhlicmlnjccdaaGreatDoorKt26
import Derived.Deep.Cut
namespace Go.Proofs.YtkhlicmlnjccdaaGreatDoor
open Go.RowKit Mem

theorem dok_of {D : WorldD} (hz : WSz D) (h : (Wd.worldOk D).1 = 0) : DOk D := by
  have hw := Wd.wok_of h
  exact ⟨hz, hw.mods, hw.lines, hw.ok, fun m hm => Nm.clean_short (by rw [hw.clean m hm])⟩
/-- both, by how many bodies may still be run -/
theorem machine_all (g : Nat) (vR vM vF : Value) (D : WorldD) (hD : DOk D) : ∀ f, GetP g vR vM vF D f
  | 0 => get_step g vR vM vF D hD 0 (fun f' e => by omega)
  | f + 1 => get_step g vR vM vF D hD (f + 1) (fun f' e => by
    obtain rfl : f' = f := by omega
    exact body_step g vR vM vF D hD f' (machine_all g vR vM vF D hD f'))
/-- a report's rows: each of its own, from base on -/
structure RepAt (w : World) (base : Nat) (vc vs vr : Value) (s : Ld.St) : Prop where
  recs : Own fRec w base 39 vc s.recs
  states : Own fState w base 79 vs s.states
  rings : ∃ K : Nat → Prop, OwnR w base K vr s.rings
  ringsB : ∀ b, vr.ownBlock = some b → base ≤ b
theorem own_from {α : Type} {k : Flat α} {w : World} {B base : Nat} {e : TypeId} {v : Value} {xs : List α} (h : Own k w B e v xs) (hb : ∀ b, v.ownBlock = some b → base ≤ b) : Own k w base e v xs := by
  refine ⟨h.1, ?_⟩
  rcases h.2 with h0 | ⟨g, cap, cur, hv, _, hr⟩
  · exact .inl h0
  · exact .inr ⟨g, cap, cur, hv, hb g (by rw [hv]; rfl), hr⟩
theorem ownR_base {w : World} {B base : Nat} {K : Nat → Prop} {v : Value} {rings : List (List Str)} (h : OwnR w B K v rings) (hb : base ≤ B) : OwnR w base K v rings := by
  obtain ⟨hs, h1, h2, h3⟩ := h
  exact ⟨hs, h1, fun i x hi => by
    obtain ⟨u, hu, ho, hk⟩ := h2 i x hi
    exact ⟨u, hu, ho.more hb, hk⟩, h3⟩
theorem hold_rep {w : World} {g : Nat} {T : TypeId} {cs : Array Value} {K : Nat → Prop} {vc vs vr vk : Value} {s : Ld.St} {stack : List Str} {base : Nat} (h : Hold w g T cs K vc vs vr vk s.recs s.states s.rings stack) (hK : ∀ b, b < base → K b) (hg : base ≤ g) : RepAt w base vc vs vr s :=
  have hn : ∀ b, ¬ K b → base ≤ b := fun b h => Nat.le_of_not_lt (fun hb => h (hK b hb))
  ⟨own_from h.recs (fun b e => hn b (h.recsK b e)), own_from h.states (fun b e => hn b (h.statesK b e)), ⟨K, ownR_base h.rings hg⟩, fun b e => hn b (h.ringsK b e)⟩
theorem RepAt.same' {w w' : World} {base : Nat} {vc vs vr : Value} {s : Ld.St} (h : RepAt w base vc vs vr s) (hs : ∀ b, base ≤ b → w'.heap[b]? = w.heap[b]?) : RepAt w' base vc vs vr s := by
  refine ⟨h.recs.same (fun b e => hs b (h.recs.le e)), h.states.same (fun b e => hs b (h.states.le e)), ?_, h.ringsB⟩
  obtain ⟨K, rs, h1, h2, h3⟩ := h.rings
  refine ⟨K, rs, ⟨h1.1, ?_⟩, fun i x hi => ?_, h3⟩
  · rcases h1.2 with h0 | ⟨g, cap, cur, hv, hb, hh, hr⟩
    · exact .inl h0
    · exact .inr ⟨g, cap, cur, hv, hb, (hs g (h.ringsB g (by rw [hv]; rfl))).trans hh, hr⟩
  · obtain ⟨u, hu, ho, hk⟩ := h2 i x hi
    exact ⟨u, hu, ho.same (fun b e => hs b (ho.le e)), hk⟩
theorem RepAt.more {w : World} {base base' : Nat} {vc vs vr : Value} {s : Ld.St} (h : RepAt w base vc vs vr s) (hb : base' ≤ base) : RepAt w base' vc vs vr s := by
  obtain ⟨K, hr⟩ := h.rings
  exact ⟨h.recs.more hb, h.states.more hb, ⟨K, ownR_base hr hb⟩, fun b e => Nat.le_trans hb (h.ringsB b e)⟩
theorem RepAt.below {w w' : World} {base : Nat} {vc vs vr : Value} {s : Ld.St} (h : RepAt w base vc vs vr s) (hb : Below w.heap.size w w') : RepAt w' base vc vs vr s := by
  obtain ⟨K, hr⟩ := h.rings
  exact ⟨h.recs.below hb, h.states.below hb, ⟨K, hr.below hb⟩, h.ringsB⟩
theorem RepAt.nil (w : World) (base : Nat) : RepAt w base (.slice none 0 0) (.slice none 0 0) (.slice none 0 0) Ld.St.start :=
  ⟨Own.nil _ _ _, Own.nil _ _ _, ⟨fun _ => True, OwnR.nil _ _ _⟩, fun b e => by simp [Value.ownBlock] at e⟩
theorem SlV.lt {α : Type} {k : Kind α} {w : World} {S : Nat → Prop} {v : Value} {xs : List α} (h : SlV k w S v xs) {n : Nat} (hn : w.heap.size ≤ n) : SlV k w (fun b => b < n) v xs := by
  obtain ⟨A, c, hv, hl, hc, hs⟩ := h
  exact ⟨A, c, hv, hl, hc, hs.old.more (fun b hb => by omega)⟩
theorem WIn.lt {w : World} {S : Nat → Prop} {vR vM vF : Value} {D : WorldD} (h : WIn w S vR vM vF D) {n : Nat} (hn : w.heap.size ≤ n) : WIn w (fun b => b < n) vR vM vF D := ⟨SlV.lt h.R hn, SlV.lt h.M hn, SlV.lt h.F hn⟩
def RetRep (w : World) (r : Int × Ld.St) (e : Ending) (w' : World) : Prop := ∃ vc vs vr, e = .returned (.agg #[.int .i64 r.1, vc, vs, .int .i64 r.2.reads, vr]) ∧ RepAt w' w.heap.size vc vs vr r.2 ∧ Below w.heap.size w w'

set_option maxRecDepth 100000 in
set_option maxHeartbeats 2000000 in
theorem sLoad_calls (D : WorldD) (vR vM vF : Value) (S : Nat → Prop) (w : World) (h : WIn w S vR vM vF D) (hz : WSz D) (name : Str) (hn : name.size ≤ 1048576) :
    Calls Tryz.prog 8 #[.agg #[vR, vM, vF], .string name] w (RetRep w (Ld.load D name)) := by
  have hwo := fun (w' : World) (hi : WIn w' S vR vM vF D) => sWorldOk_calls D vR vM vF S w' hi hz
  obtain ⟨r1, r2, r3, hq⟩ : ∃ r1 r2 r3, Wd.worldOk D = (r1, r2, r3) := ⟨_, _, _, rfl⟩
  rw [hq] at hwo
  have hlo : Ld.load D name = if r1 ≠ 0 then (-1, Ld.St.start) else ((Ld.get D 40 Ld.mainName name Ld.St.start).2.1, (Ld.get D 40 Ld.mainName name Ld.St.start).2.2) := by unfold Ld.load; rw [hq]
  generalize Ld.load D name = res at hlo ⊢
  have HLO := hide hlo
  have HWO := hide hwo
  have HIN := hide h
  have HQ := hide hq
  clear hlo hwo h hq
  go_enter Tryz.func8, Tryz.ntmps8
  go_wp2_with fail
  generalize hW : (w.alloc (Obj.cells #[vR, vM, vF] 27)).alloc (Obj.cells #[.int .i64 0, .slice none 0 0, .slice none 0 0, .int .i64 0, .slice none 0 0] 34) = W
  have hbW : Below w.heap.size w W := by rw [← hW]; (repeat (first | with_reducible exact Below.refl _ _ | with_reducible assumption | with_reducible refine Below.alloc ?_ (by first | exact Nat.le_refl _ | exact Below.size (by assumption) | exact Nat.le_trans (Below.size (by assumption)) (by simp; done) | (simp; done) | (simp; omega) | omega) _ | with_reducible refine below_drewN ?_ _ | with_reducible refine Below.drew ?_ | with_reducible refine Below.setCell ?_ (by first | exact Nat.le_refl _ | (simp; done) | (simp; omega) | omega) _))
  obtain ⟨blkB, blkR, hW0⟩ := alloc_two w (Obj.cells #[vR, vM, vF] 27) (Obj.cells #[.int .i64 0, .slice none 0 0, .slice none 0 0, .int .i64 0, .slice none 0 0] 34)
  rw [hW] at blkB blkR hW0
  clear hW
  refine (HWO.out W (HIN.out.below hbW)).mono ?_
  rintro e w1 ⟨rfl, hb1⟩
  have hz1 := hb1.size
  have cB := (hb1.block _ (by omega)).trans blkB
  have cR := (hb1.block _ (by omega)).trans blkR
  have HBW := below_then hbW hbW.size hb1
  have hal := fun (b : Nat) (h : b < w1.heap.size) => alloc_old w1 (Obj.cells #[.int .i64 r1, .int .i64 r2, .int .i64 r3] 52) h
  have cB' := (hal _ (by omega)).trans cB
  have cR' := (hal _ (by omega)).trans cR
  have hbA : Below w1.heap.size w1 (w1.alloc (Obj.cells #[.int .i64 r1, .int .i64 r2, .int .i64 r3] 52)) := by (repeat (first | with_reducible exact Below.refl _ _ | with_reducible assumption | with_reducible refine Below.alloc ?_ (by first | exact Nat.le_refl _ | exact Below.size (by assumption) | exact Nat.le_trans (Below.size (by assumption)) (by simp; done) | (simp; done) | (simp; omega) | omega) _ | with_reducible refine below_drewN ?_ _ | with_reducible refine Below.drew ?_ | with_reducible refine Below.setCell ?_ (by first | exact Nat.le_refl _ | (simp; done) | (simp; omega) | omega) _))
  have hzA : (w1.alloc (Obj.cells #[.int .i64 r1, .int .i64 r2, .int .i64 r3] 52)).heap.size = w1.heap.size + 1 := by simp
  have hnA := heap_alloc_new w1 (Obj.cells #[.int .i64 r1, .int .i64 r2, .int .i64 r3] 52)
  go_upto_region 2 with fail
  generalize w1.alloc (Obj.cells #[.int .i64 r1, .int .i64 r2, .int .i64 r3] 52) = WA at cB' cR' hbA hzA hnA ⊢
  have HBA := below_then HBW HBW.size hbA
  have k0 : WA.cell? ⟨w.heap.size, 0, none⟩ = some vR := blk_cell cB' 0
  have k1 : WA.cell? ⟨w.heap.size, 1, none⟩ = some vM := blk_cell cB' 1
  have k2 : WA.cell? ⟨w.heap.size, 2, none⟩ = some vF := blk_cell cB' 2
  have n0 : WA.cell? ⟨w1.heap.size, 0, none⟩ = some (.int .i64 r1) := blk_cell hnA 0
  have r0 : WA.cell? ⟨w.heap.size + 1, 0, none⟩ = some (.int .i64 0) := blk_cell cR' 0
  have r1' : WA.cell? ⟨w.heap.size + 1, 1, none⟩ = some (.slice none 0 0) := blk_cell cR' 1
  have r2' : WA.cell? ⟨w.heap.size + 1, 2, none⟩ = some (.slice none 0 0) := blk_cell cR' 2
  have r3' : WA.cell? ⟨w.heap.size + 1, 3, none⟩ = some (.int .i64 0) := blk_cell cR' 3
  have r4' : WA.cell? ⟨w.heap.size + 1, 4, none⟩ = some (.slice none 0 0) := blk_cell cR' 4
  have f0 := blk_free cR' 0
  have f1 := blk_free cR' 1
  have f2 := blk_free cR' 2
  have f3 := blk_free cR' 3
  have f4 := blk_free cR' 4
  have CR := hide cR'
  clear hb1 cB cR blkB blkR hal cB' cR' hnA hbA
  by_cases hr : r1 = 0
  · subst hr
    have HQ2 := hide (HLO.out.trans (if_neg (by simp)))
    have hdk : DOk D := dok_of hz (by rw [HQ.out])
    have HDK := hide hdk
    clear hdk HQ HLO
    go_wp2_with fail
    have hMB := heap_alloc_new WA (Obj.cells #[vR, vM, vF, .int .i64 0, .slice none 0 0, .slice none 0 0, .int .i64 0, .slice none 0 0, .slice none 0 0, .int .i64 0] 65)
    rw [hzA] at hMB
    have hbM : Below WA.heap.size WA (WA.alloc (Obj.cells #[vR, vM, vF, .int .i64 0, .slice none 0 0, .slice none 0 0, .int .i64 0, .slice none 0 0, .slice none 0 0, .int .i64 0] 65)) := by (repeat (first | with_reducible exact Below.refl _ _ | with_reducible assumption | with_reducible refine Below.alloc ?_ (by first | exact Nat.le_refl _ | exact Below.size (by assumption) | exact Nat.le_trans (Below.size (by assumption)) (by simp; done) | (simp; done) | (simp; omega) | omega) _ | with_reducible refine below_drewN ?_ _ | with_reducible refine Below.drew ?_ | with_reducible refine Below.setCell ?_ (by first | exact Nat.le_refl _ | (simp; done) | (simp; omega) | omega) _))
    have hzM : (WA.alloc (Obj.cells #[vR, vM, vF, .int .i64 0, .slice none 0 0, .slice none 0 0, .int .i64 0, .slice none 0 0, .slice none 0 0, .int .i64 0] 65)).heap.size = w1.heap.size + 2 := by simp; omega
    generalize WA.alloc (Obj.cells #[vR, vM, vF, .int .i64 0, .slice none 0 0, .slice none 0 0, .int .i64 0, .slice none 0 0, .slice none 0 0, .int .i64 0] 65) = WM at hMB hbM hzM ⊢
    have HBM := below_then HBA HBA.size hbM
    have cM := (hbM.block _ (by omega)).trans CR.out
    have hno : ∀ (K : Nat → Prop) (b : Nat), (Value.slice none 0 0).ownBlock = some b → ¬ K b := fun K b e => by simp [Value.ownBlock] at e
    have hsat0 : SAt WM (w1.heap.size + 1) (fun b => b < w1.heap.size + 1) vR vM vF D Ld.St.start :=
      SAtV.sat (vc := .slice none 0 0) (vs := .slice none 0 0) (vr := .slice none 0 0) (vk := .slice none 0 0) ⟨⟨hMB, fun h => by omega, fun b hb => by omega, Own.nil _ _ _, hno _, Own.nil _ _ _, hno _, OwnR.nil _ _ _, hno _, Own.nil _ _ _, hno _, by decide⟩, (HIN.out.lt (n := w1.heap.size + 1) (by omega)).below HBM⟩
    clear k0 k1 k2 n0 r0 r1' r2' r3' r4' f0 f1 f2 f3 f4 CR hMB hbM
    have hmain : (⟨#[109, 97, 105, 110]⟩ : Str) = Ld.mainName := rfl
    have hget := machine_all (w1.heap.size + 1) vR vM vF D HDK.out 40 WM _ Ld.St.start 0 Ld.mainName name hsat0 (Ld.start_good D HDK.out.mods) rfl (by decide) hn
    rw [← hmain] at hget HQ2
    generalize Ld.get D 40 ⟨#[109, 97, 105, 110]⟩ name Ld.St.start = gr at hget HQ2
    obtain ⟨gn, gc, gs⟩ := gr
    have HQ3 := hide (show res = (gc, gs) from HQ2.out)
    refine hget.mono ?_
    rintro e w5 ⟨rfl, K5, hK5, ⟨vc, vs, vr, vk, hh, hin⟩, hk5⟩
    have hB5 := hk5.below (B := w1.heap.size + 1) (fun b hb => hb) (by omega)
    have c5 := (hk5.block (w.heap.size + 1) (show _ < _ by omega) (by omega)).trans cM
    obtain ⟨xA, xc, hx, _, _, _⟩ := hh.recs.slV
    subst hx
    obtain ⟨yA, yc, hy, _, _, _⟩ := hh.states.slV
    subst hy
    obtain ⟨zs, hzs, _⟩ := id hh.rings
    obtain ⟨zA, zc, hz'⟩ := row_form hzs
    subst hz'
    clear hzs
    have hset := hh.set 3 (.int .i64 gc)
    have hrep := hold_rep (s := gs) hset.1 (base := w1.heap.size + 1) (fun b hb => hK5 b hb) (Nat.le_refl _)
    have hg3 := grown_set w5 (w1.heap.size + 1) 3 (.int .i64 gc)
    have b0 := (hg3.block (w.heap.size + 1) (by have := hB5.size; omega) (by simp; omega)).trans c5
    have q0 : w5.cell? ⟨w1.heap.size + 1, 3, none⟩ = some (.int .i64 0) := blk_cell hh.blk 3
    have f0 := blk_free hh.blk 3
    have hB6 : Below w.heap.size w (w5.setCell ⟨w1.heap.size + 1, 3, none⟩ (.int .i64 gc)) := (HBM.trans (hB5.mono (by omega))).setCell (by show w.heap.size ≤ w1.heap.size + 1; omega) _
    have hblk := hset.1.blk
    clear hset hh hg3 hsat0 hget hin hk5 c5 cM
    go_upto_region 7 with fail
    generalize w5.setCell ⟨w1.heap.size + 1, 3, none⟩ (.int .i64 gc) = W6 at hrep b0 hB6 hblk ⊢
    have m3 : W6.cell? ⟨w1.heap.size + 1, 3, none⟩ = some (.int .i64 gc) := blk_cell hblk 3
    have m4 : W6.cell? ⟨w1.heap.size + 1, 4, none⟩ = some (.slice xA gs.recs.length xc) := blk_cell hblk 4
    have m5 : W6.cell? ⟨w1.heap.size + 1, 5, none⟩ = some (.slice yA gs.states.length yc) := blk_cell hblk 5
    have m6 : W6.cell? ⟨w1.heap.size + 1, 6, none⟩ = some (.int .i64 gs.reads) := blk_cell hblk 6
    have m7 : W6.cell? ⟨w1.heap.size + 1, 7, none⟩ = some (.slice zA gs.rings.length zc) := blk_cell hblk 7
    have r0 : W6.cell? ⟨w.heap.size + 1, 0, none⟩ = some (.int .i64 0) := blk_cell b0 0
    have r1' : W6.cell? ⟨w.heap.size + 1, 1, none⟩ = some (.slice none 0 0) := blk_cell b0 1
    have r2' : W6.cell? ⟨w.heap.size + 1, 2, none⟩ = some (.slice none 0 0) := blk_cell b0 2
    have r3' : W6.cell? ⟨w.heap.size + 1, 3, none⟩ = some (.int .i64 0) := blk_cell b0 3
    have r4' : W6.cell? ⟨w.heap.size + 1, 4, none⟩ = some (.slice none 0 0) := blk_cell b0 4
    have f0' := blk_free b0 0
    have f1 := blk_free b0 1
    have f2 := blk_free b0 2
    have f3 := blk_free b0 3
    have f4 := blk_free b0 4
    clear hblk q0 f0 b0
    go_wp2_with fail
    refine bodyPost_ret (v := .agg #[.int .i64 gc, .slice xA gs.recs.length xc, .slice yA gs.states.length yc, .int .i64 gs.reads, .slice zA gs.rings.length zc]) (by simp [results, Tryz.results8, go_sem, r0, r1', r2', r3', r4']) rfl ⟨_, _, _, by rw [HQ3.out], ?_, by (repeat (first | with_reducible exact Below.refl _ _ | with_reducible assumption | with_reducible refine Below.alloc ?_ (by first | exact Nat.le_refl _ | exact Below.size (by assumption) | exact Nat.le_trans (Below.size (by assumption)) (by simp; done) | (simp; done) | (simp; omega) | omega) _ | with_reducible refine below_drewN ?_ _ | with_reducible refine Below.drew ?_ | with_reducible refine Below.setCell ?_ (by first | exact Nat.le_refl _ | (simp; done) | (simp; omega) | omega) _))⟩
    rw [HQ3.out]
    refine (hrep.same' (fun b hb => ?_)).more (by omega)
    simp only [World.setCell]
    repeat rw [Array.getElem?_modify, if_neg (by omega)]
  · have hrb : (r1 != 0) = true := by simpa using hr
    have HQ2 := hide (HLO.out.trans (if_pos hr))
    clear hr HLO
    go_wp2_with fail
    refine bodyPost_ret (v := .agg #[.int .i64 (-1), .slice none 0 0, .slice none 0 0, .int .i64 0, .slice none 0 0]) (by simp [results, Tryz.results8, go_sem, r0, r1', r2', r3', r4']) rfl ⟨.slice none 0 0, .slice none 0 0, .slice none 0 0, by rw [HQ2.out]; rfl, by rw [HQ2.out]; exact RepAt.nil _ _, by (repeat (first | with_reducible exact Below.refl _ _ | with_reducible assumption | with_reducible refine Below.alloc ?_ (by first | exact Nat.le_refl _ | exact Below.size (by assumption) | exact Nat.le_trans (Below.size (by assumption)) (by simp; done) | (simp; done) | (simp; omega) | omega) _ | with_reducible refine below_drewN ?_ _ | with_reducible refine Below.drew ?_ | with_reducible refine Below.setCell ?_ (by first | exact Nat.le_refl _ | (simp; done) | (simp; omega) | omega) _))⟩
end Go.Proofs.YtkhlicmlnjccdaaGreatDoor
