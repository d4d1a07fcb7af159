/-
  Walk: the reference's drawn world with a name, exactly.
-/
import Derived.Test.YtkhlicmlnjccdaaGreatDoorKt33
import Derived.Test.YtkhlicmlnjccdaaGreatDoorKt20
import Derived.Deep.DeepCutAuto
import Derived.Deep.RegionLaw
import Derived.Deep.RegionHeld3
namespace Go.Proofs.YtkhlicmlnjccdaaGreatDoor
open Go.RowKit Mem

theorem SlV.grownI {α : Type} {k : Kind α} {w w' : World} {S : Nat → Prop} {v : Value} {xs : List α} {row : Option Nat} (h : SlV k w S v xs) (hg : w.grownBy w' row) (hne : ∀ b, S b → b < w.heap.size → some b ≠ row) : SlV k w' S v xs := by
  obtain ⟨A, c, rfl, a, b, s⟩ := h
  exact ⟨A, c, rfl, a, b, s.grown hg hne⟩
theorem WIn.grownI {w w' : World} {S : Nat → Prop} {vR vM vF : Value} {D : WorldD} {row : Option Nat} (h : WIn w S vR vM vF D) (hg : w.grownBy w' row) (hne : ∀ b, S b → b < w.heap.size → some b ≠ row) : WIn w' S vR vM vF D :=
  ⟨SlV.grownI h.R hg hne, SlV.grownI h.M hg hne, SlV.grownI h.F hg hne⟩

namespace DP
def nameAt (D : WorldD) (i : Nat) : Str := match D.mods[i]? with
  | some m => m.name
  | none => E0
def mainN (c : Cur) (D : WorldD) : Str :=
  if D.mods.length = 0 then (c.ask []).1 else
  if (c.pick 3).1 = 0 then nameAt D 0 else
  if ((c.pick 3).2.pick 6).1 = 0 then (((c.pick 3).2.pick 6).2.ask []).1 else
  nameAt D (((c.pick 3).2.pick 6).2.pick D.mods.length).1
/-- what the choices make: a world, a name -/
def made (code : List Int) : WorldD × Str := ((world ⟨code, 0, 0⟩).2, mainN (world ⟨code, 0, 0⟩).1 (world ⟨code, 0, 0⟩).2)
theorem nameAt_get {D : WorldD} {i : Nat} (h : i < D.mods.length) : D.mods[i].name = nameAt D i := by
  unfold nameAt
  rw [List.getElem?_eq_getElem h]
end DP
/-- what Drawn hands back, exactly -/
def DrawnE : Prop := ∀ (A : Option Addr) (cp n : Nat) (code : List Int) (S : Nat → Prop) (w : World), Sl kU8 w S A code → code.length = n → (∀ x ∈ code, 0 ≤ x ∧ x ≤ 255) → n ≤ 1048576 →
  Calls Tryz.prog 7 #[.slice A n cp] w fun e w' => ∃ (vR vM vF : Value), e = .returned (.tuple #[.agg #[vR, vM, vF], .string (DP.made code).2]) ∧ WIn w' (fun b => w.heap.size ≤ b) vR vM vF (DP.made code).1 ∧ WSz (DP.made code).1 ∧ (DP.made code).2.size ≤ 1048576 ∧ (∀ m ∈ (DP.made code).1.mods, ∀ l ∈ m.lines, 0 ≤ l.num ∧ l.num ≤ 1000) ∧ Below w.heap.size w w'

set_option maxRecDepth 100000 in
set_option maxHeartbeats 4000000 in
theorem main_ex (w : World) (g n cp B : Nat) (A : Option Addr) (cc : Cur) (vR vM vF : Value) (D : WorldD) (hc : CurIn w g A n cp cc 9000) (hgB : g < B) (hin : WIn w (fun b => B ≤ b) vR vM vF D) (hz : WSz D) (hml : D.mods.length ≤ 60) :
    Calls Tryz.prog 26 #[.pointer (some ⟨g, 0, none⟩), .agg #[vR, vM, vF]] w fun e w' => ∃ nm : Str, e = .returned (.string nm) ∧ nm.size ≤ 1048576 ∧ w.grownBy w' (some g) ∧ Hid (nm = DP.mainN cc D) := by
  obtain ⟨⟨A1, c1, hv1, _, _, _⟩, ⟨A2, c2, hv2, _, _, hs2⟩, ⟨A3, c3, hv3, _, _, _⟩⟩ := hin
  subst hv1 hv2 hv3
  have hgl := hc.lt
  have hbA : Below w.heap.size w (w.alloc (Obj.cells #[.slice A1 D.roots.length c1, .slice A2 D.mods.length c2, .slice A3 D.faults.length c3] 27)) := by (repeat (first | with_reducible exact Below.refl _ _ | with_reducible assumption | with_reducible refine Below.alloc ?_ (by first | exact Nat.le_refl _ | exact Below.size (by assumption) | exact Nat.le_trans (Below.size (by assumption)) (by simp; done) | (simp; done) | (simp; omega) | omega) _ | with_reducible refine below_drewN ?_ _ | with_reducible refine Below.drew ?_ | with_reducible refine Below.setCell ?_ (by first | exact Nat.le_refl _ | (simp; done) | (simp; omega) | omega) _))
  have hnA := heap_alloc_new w (Obj.cells #[.slice A1 D.roots.length c1, .slice A2 D.mods.length c2, .slice A3 D.faults.length c3] 27)
  have hzA : w.heap.size < (w.alloc (Obj.cells #[.slice A1 D.roots.length c1, .slice A2 D.mods.length c2, .slice A3 D.faults.length c3] 27)).heap.size := by simp
  have hcA := hc.below hbA
  have hsA := hs2.below hbA
  clear hs2 hc
  go_enter Tryz.func26, Tryz.ntmps26
  go_upto_region 1 with fail
  generalize w.alloc (Obj.cells #[.slice A1 D.roots.length c1, .slice A2 D.mods.length c2, .slice A3 D.faults.length c3] 27) = W at hbA hnA hzA hcA hsA ⊢
  have hgA : w.grownBy W (some g) := ⟨hbA.os, hbA.tape, hbA.output, hbA.size, fun i hi _ => hbA.block i hi⟩
  have k1 : W.cell? ⟨w.heap.size, 1, none⟩ = some (.slice A2 D.mods.length c2) := blk_cell hnA 1
  have hnm : ∀ (i : Nat) (w1 : World), Sl kMod w1 (fun b => B ≤ b) A2 D.mods → i < D.mods.length → ∃ ad nm, A2 = some ad ∧ w1.cell? (ad.add (i * 2)) = some (.string nm) ∧ nm.size ≤ 1048576 ∧ nm = DP.nameAt D i := fun i w1 hs hi => by
    obtain ⟨ad, hA, hk⟩ := hs.get hi
    exact ⟨ad, D.mods[i].name, hA, hk.1.2, hz.m _ (List.getElem_mem hi), DP.nameAt_get hi⟩
  have HNM := hide hnm
  clear hnm hz hbA
  by_cases h0 : D.mods.length = 0
  · rw [h0] at k1
    go_wp2_with fail
    refine (ask_in hcA (by omega)).mono ?_
    rintro e w2 ⟨nm, rfl, hn2, hc2, hg2, he2⟩
    go_wp2_with fail
    go_ret
    exact ⟨_, rfl, by omega, World.grownBy.trans hgA hg2, hide (he2.out.trans (if_pos h0).symm)⟩
  · have hpos : (0 : Int) < D.mods.length := by omega
    have hgt : ((D.mods.length : Int) > 0) = True := by simp; omega
    go_wp2_with fail
    refine (pick_in 3 hcA (by omega) (by omega) (by omega)).mono ?_
    rintro e w2 ⟨r1, rfl, hr1, hc2, hg2, he2⟩
    have hne : w.heap.size ≠ g := by omega
    have hn2 := (hg2.block _ hzA (fun e => hne (Option.some.inj e))).trans hnA
    have hs2 := hsA.grown hg2 (fun b hb _ e => by have := Option.some.inj e; omega)
    have hz2 : w.heap.size < w2.heap.size := Nat.lt_of_lt_of_le hzA hg2.size
    have hg02 := World.grownBy.trans hgA hg2
    clear hcA hsA k1 hg2 hgA hnA hzA
    have k1 : w2.cell? ⟨w.heap.size, 1, none⟩ = some (.slice A2 D.mods.length c2) := blk_cell hn2 1
    have hcase : r1 = 0 ∨ ((r1 : Int) == 0) = false := by
      by_cases h0 : r1 = 0
      · exact .inl h0
      · exact .inr (by simp; omega)
    have H0 := hide h0
    rcases hcase with rfl | hcb
    · obtain ⟨ad, nm, hA, hnm, hnz, hq⟩ := HNM.out 0 w2 hs2 (by omega)
      have HQ := hide (show nm = DP.mainN cc D by unfold DP.mainN; rw [if_neg H0.out, if_pos he2.out.symm]; exact hq)
      clear hq
      subst hA
      rw [show ad.add (0 * 2) = ad by simp [Addr.add]] at hnm
      go_wp2_with fail
      go_ret
      exact ⟨_, rfl, hnz, hg02, HQ⟩
    · go_wp2_with fail
      refine (pick_in 6 hc2 (by omega) (by omega) (by omega)).mono ?_
      rintro e w3 ⟨r2, rfl, hr2, hc3, hg3, he3⟩
      have hn3 := (hg3.block _ hz2 (fun e => hne (Option.some.inj e))).trans hn2
      have hs3 := hs2.grown hg3 (fun b hb _ e => by have := Option.some.inj e; omega)
      have hz3 : w.heap.size < w3.heap.size := Nat.lt_of_lt_of_le hz2 hg3.size
      have hg03 := World.grownBy.trans hg02 hg3
      have H1 := hide (show ¬ (cc.pick 3).1 = 0 by have h1 : r1 = (cc.pick 3).1 := he2.out; have h2 : r1 ≠ 0 := (by simpa using hcb); omega)
      clear hc2 hs2 k1 hg3 hg02 hn2 hz2 hcb
      have k1 : w3.cell? ⟨w.heap.size, 1, none⟩ = some (.slice A2 D.mods.length c2) := blk_cell hn3 1
      by_cases hr20 : r2 = 0
      · subst hr20
        go_wp2_with fail
        refine (ask_in hc3 (by omega)).mono ?_
        rintro e w4 ⟨nm, rfl, hn4, hc4, hg4, he4⟩
        go_wp2_with fail
        go_ret
        exact ⟨_, rfl, by omega, World.grownBy.trans hg03 hg4, hide (by unfold DP.mainN; rw [if_neg H0.out, if_neg H1.out, if_pos he3.out.symm]; exact he4.out)⟩
      · have hr2p : (0 : Int) < r2 := by omega
        go_upto_region 4 with fail
        have H2 := hide (show ¬ ((cc.pick 3).2.pick 6).1 = 0 by have h1 : r2 = ((cc.pick 3).2.pick 6).1 := he3.out; omega)
        obtain ⟨ad, _, hA, _, _, _⟩ := HNM.out 0 w3 hs3 (by omega)
        subst hA
        have hat : ∀ w', Sl kMod w' (fun b => B ≤ b) (some ad) D.mods → ∀ (i : Nat) (h : i < D.mods.length), w'.cell? (ad.add (i * 2)) = some (.string D.mods[i].name) := fun w' hs i hi => by
          obtain ⟨ad', hA', hk⟩ := hs.get hi
          cases hA'
          exact hk.1.2
        have HAT := hide hat
        have HNZ := hide (fun (i : Nat) (h : i < D.mods.length) => (HNM.out i w3 hs3 h))
        clear hat
        refine wp_region_held_drew (S := fun w' => w'.cell? ⟨w.heap.size, 1, none⟩ = some (.slice (some ad) D.mods.length c2) ∧ ∀ (i : Nat) (h : i < D.mods.length), w'.cell? (ad.add (i * 2)) = some (.string D.mods[i].name)) (by kernel_rfl) ⟨k1, HAT.out w3.drew (hs3.below (Below.drew (Below.refl _ _)))⟩ (fun hHeld => ?_)
        (refine wpAnyH_take (i := 0) (oi := ⟨some 28, _, _, _, _, _⟩) (v := .pointer (some ⟨w.heap.size, 1, none⟩)) rfl (by kernel_rfl) (by kernel_rfl) (by kernel_rfl) (fun _ _ _ h => h) (Or.inl ⟨by rfl, ?_⟩) (by assumption) ?_; (focus (intro w hSw; (try dsimp only at hSw); clear hSw; go_simp; done)); try simp only [Act.put, List.setIfInBounds_toArray, List.set_cons_zero, List.set_cons_succ])
        (refine wpAnyH_take (i := 1) (oi := ⟨some 29, _, _, _, _, _⟩) (v := .slice (some ad) D.mods.length c2) rfl (by kernel_rfl) (by kernel_rfl) (by kernel_rfl) (fun _ _ _ h => h) (Or.inl ⟨by rfl, ?_⟩) (by assumption) ?_; (focus (intro w hSw; (try dsimp only at hSw); have q0 := hSw.1; clear hSw; go_simp; done)); try simp only [Act.put, List.setIfInBounds_toArray, List.set_cons_zero, List.set_cons_succ])
        (refine wpAnyH_take (i := 2) (oi := ⟨some 30, _, _, _, _, _⟩) (v := .pointer (some ⟨g, 0, none⟩)) rfl (by kernel_rfl) (by kernel_rfl) (by kernel_rfl) (fun _ _ _ h => h) (Or.inl ⟨by rfl, ?_⟩) (by assumption) ?_; (focus (intro w hSw; (try dsimp only at hSw); clear hSw; go_simp; done)); try simp only [Act.put, List.setIfInBounds_toArray, List.set_cons_zero, List.set_cons_succ])
        (refine wpAnyH_take (i := 3) (oi := ⟨some 31, _, _, _, _, _⟩) (v := .pointer (some ⟨w.heap.size, 1, none⟩)) rfl (by kernel_rfl) (by kernel_rfl) (by kernel_rfl) (fun _ _ _ h => h) (Or.inl ⟨by rfl, ?_⟩) (by assumption) ?_; (focus (intro w hSw; (try dsimp only at hSw); clear hSw; go_simp; done)); try simp only [Act.put, List.setIfInBounds_toArray, List.set_cons_zero, List.set_cons_succ])
        (refine wpAnyH_take (i := 4) (oi := ⟨some 32, _, _, _, _, _⟩) (v := .slice (some ad) D.mods.length c2) rfl (by kernel_rfl) (by kernel_rfl) (by kernel_rfl) (fun _ _ _ h => h) (Or.inl ⟨by rfl, ?_⟩) (by assumption) ?_; (focus (intro w hSw; (try dsimp only at hSw); have q0 := hSw.1; clear hSw; go_simp; done)); try simp only [Act.put, List.setIfInBounds_toArray, List.set_cons_zero, List.set_cons_succ])
        (refine wpAnyH_take (i := 5) (oi := ⟨some 33, _, _, _, _, _⟩) (v := .int .i64 D.mods.length) rfl (by kernel_rfl) (by kernel_rfl) (by kernel_rfl) (fun _ _ _ h => h) (Or.inl ⟨by rfl, ?_⟩) (by assumption) ?_; (focus (intro w hSw; (try dsimp only at hSw); clear hSw; go_simp; done)); try simp only [Act.put, List.setIfInBounds_toArray, List.set_cons_zero, List.set_cons_succ])
        refine wpAnyH_ready (rs := [6]) (by kernel_rfl) (by simp) ?_
        refine AllReadyH.cons (o := ⟨some 34, _, _, _, _, _⟩) rfl (fun K hK => ?_) AllReadyH.nil
        clear hHeld
        go_simp
        refine (pick_in D.mods.length (hc3.below (Below.drew (Below.refl _ _))) (by omega) (by omega) (by omega)).mono ?_
        rintro e w4 ⟨r3, rfl, hr3, hc4, hg4, he4⟩
        have hg34 : w3.grownBy w4 (some g) := ⟨hg4.os, hg4.tape, hg4.output, hg4.size, hg4.block⟩
        have hn4 := (hg34.block _ hz3 (fun e => hne (Option.some.inj e))).trans hn3
        have hs4 := hs3.grown hg34 (fun b hb _ e => by have := Option.some.inj e; omega)
        have hg04 := World.grownBy.trans hg03 hg34
        refine hK.out _ _ ⟨blk_cell hn4 1, HAT.out w4 hs4⟩ (fun hHeld => ?_)
        clear hK K hc4 hg4 hg34 hn4
        try simp only [Act.put, List.setIfInBounds_toArray, List.set_cons_zero, List.set_cons_succ]
        have hnz : D.mods[r3].name.size ≤ 1048576 := by
          obtain ⟨_, _, hA', hq, hz, _⟩ := HNZ.out r3 hr3
          cases hA'
          have := HAT.out w3 hs3 r3 hr3
          rw [this] at hq
          have := Option.some.inj hq
          injection this with e
          rw [e]; exact hz
        have hr3I : (r3 : Int) < D.mods.length := by omega
        (refine wpAnyH_take (i := 7) (oi := ⟨some 35, _, _, _, _, _⟩) (v := .pointer (some (ad.add (r3 * 2)))) rfl (by kernel_rfl) (by kernel_rfl) (by kernel_rfl) (fun _ _ _ h => h) (Or.inl ⟨by rfl, ?_⟩) (by assumption) ?_; (focus (intro w hSw; (try dsimp only at hSw); clear hSw; go_simp; done)); try simp only [Act.put, List.setIfInBounds_toArray, List.set_cons_zero, List.set_cons_succ])
        (refine wpAnyH_take (i := 8) (oi := ⟨some 36, _, _, _, _, _⟩) (v := .pointer (some (ad.add (r3 * 2)))) rfl (by kernel_rfl) (by kernel_rfl) (by kernel_rfl) (fun _ _ _ h => h) (Or.inl ⟨by rfl, ?_⟩) (by assumption) ?_; (focus (intro w hSw; (try dsimp only at hSw); clear hSw; go_simp; done)); try simp only [Act.put, List.setIfInBounds_toArray, List.set_cons_zero, List.set_cons_succ])
        (refine wpAnyH_take (i := 9) (oi := ⟨some 37, _, _, _, _, _⟩) (v := .string D.mods[r3].name) rfl (by kernel_rfl) (by kernel_rfl) (by kernel_rfl) (fun _ _ _ h => h) (Or.inl ⟨by rfl, ?_⟩) (by assumption) ?_; (focus (intro w hSw; (try dsimp only at hSw); have q0 := hSw.2 r3 hr3; clear hSw; go_simp; done)); try simp only [Act.put, List.setIfInBounds_toArray, List.set_cons_zero, List.set_cons_succ])
        (refine wpAnyH_take (i := 10) (oi := ⟨some 4, _, _, _, _, _⟩) (v := .string D.mods[r3].name) rfl (by kernel_rfl) (by kernel_rfl) (by kernel_rfl) (fun _ _ _ h => h) (Or.inl ⟨by rfl, ?_⟩) (by assumption) ?_; (focus (intro w hSw; (try dsimp only at hSw); clear hSw; go_simp; done)); try simp only [Act.put, List.setIfInBounds_toArray, List.set_cons_zero, List.set_cons_succ])
        refine wpAnyH_done (by kernel_rfl) ?_ _
        clear hHeld
        go_wp2_with fail
        go_ret
        exact ⟨_, rfl, hnz, hg04, hide (by unfold DP.mainN; rw [if_neg H0.out, if_neg H1.out, if_neg H2.out, DP.nameAt_get hr3, he4.out])⟩

set_option maxRecDepth 100000 in
set_option maxHeartbeats 4000000 in
theorem drawnE_calls : DrawnE := by
  intro A cp n code S w h hn hs hf
  have hw0 : Below w.heap.size w (w.alloc (Obj.cells #[.slice none 0 0, .slice none 0 0, .slice none 0 0] 27)) := by (repeat (first | with_reducible exact Below.refl _ _ | with_reducible assumption | with_reducible refine Below.alloc ?_ (by first | exact Nat.le_refl _ | exact Below.size (by assumption) | exact Nat.le_trans (Below.size (by assumption)) (by simp; done) | (simp; done) | (simp; omega) | omega) _ | with_reducible refine below_drewN ?_ _ | with_reducible refine Below.drew ?_ | with_reducible refine Below.setCell ?_ (by first | exact Nat.le_refl _ | (simp; done) | (simp; omega) | omega) _))
  have hn0 := heap_alloc_new w (Obj.cells #[.slice none 0 0, .slice none 0 0, .slice none 0 0] 27)
  have hcb : CodeBelow A n w.heap.size := fun hcn0 ad hA => by
    have hcn : code ≠ [] := fun e => hcn0 (by rw [← hn, e]; rfl)
    obtain ⟨ad', hA', hx⟩ := h hcn
    rw [hA] at hA'
    cases hA'
    have : Has w S (ad.add (0 * kU8.size)) (.int .u8 _) := hx 0 _ (List.getElem?_eq_getElem (List.length_pos_iff.2 hcn))
    have := this.lt
    rwa [block_add] at this
  have h1 := h.below hw0
  go_enter Tryz.func7, Tryz.ntmps7
  go_upto_region 1 with fail
  generalize w.alloc (Obj.cells #[.slice none 0 0, .slice none 0 0, .slice none 0 0] 27) = W0 at hw0 hn0 h1 ⊢
  have hz0 : w.heap.size < W0.heap.size := (Array.getElem?_eq_some_iff.1 hn0).1
  have hc0 := CurIn.new (cp := cp) h1 hn hs hf
  have hb1 : Below w.heap.size w (W0.alloc (Obj.cells #[.slice A n cp, .int .i64 0, .int .u64 0] 60)) := by (repeat (first | with_reducible exact Below.refl _ _ | with_reducible assumption | with_reducible refine Below.alloc ?_ (by first | exact Nat.le_refl _ | exact Below.size (by assumption) | exact Nat.le_trans (Below.size (by assumption)) (by simp; done) | (simp; done) | (simp; omega) | omega) _ | with_reducible refine below_drewN ?_ _ | with_reducible refine Below.drew ?_ | with_reducible refine Below.setCell ?_ (by first | exact Nat.le_refl _ | (simp; done) | (simp; omega) | omega) _))
  have hn1 := (alloc_old W0 (Obj.cells #[.slice A n cp, .int .i64 0, .int .u64 0] 60) hz0).trans hn0
  have hz1 : (W0.alloc (Obj.cells #[.slice A n cp, .int .i64 0, .int .u64 0] 60)).heap.size = W0.heap.size + 1 := by simp
  go_upto_region 2 with fail
  generalize W0.alloc (Obj.cells #[.slice A n cp, .int .i64 0, .int .u64 0] 60) = W1 at hc0 hb1 hn1 hz1 ⊢
  clear h h1 hn hs hw0 hn0
  have hc1 : CodeBelow A n W1.heap.size := fun hcn ad hA => by have := hcb hcn ad hA; omega
  have hwd := world_ex W1 W0.heap.size n cp 0 (by omega) A ⟨code, 0, 0⟩ hc0 hc1
  have HWD := hide hwd
  clear hwd hcb hc1
  go_wp2_with fail
  refine (unhide HWD).mono ?_
  rintro e w2 ⟨vR, vM, vF, D, cq, rfl, hin2, hsz, hnum, hml, hc2, hg2, HXW⟩
  have hb2 := hb1.grown hg2 (by omega) (fun k hk => by have := Option.some.inj hk; omega)
  have hn2 := (hg2.block _ (by omega) (fun e => by have := Option.some.inj e; omega)).trans hn1
  have hz2 := hg2.size
  clear hg2 hb1 hn1 HWD hc0
  obtain ⟨⟨A1, c1, hv1, _, _, _⟩, ⟨A2, c2, hv2, _, _, _⟩, ⟨A3, c3, hv3, _, _, _⟩⟩ := id hin2
  subst hv1 hv2 hv3
  have hbA : Below w2.heap.size w2 (w2.alloc (Obj.cells #[.slice A1 D.roots.length c1, .slice A2 D.mods.length c2, .slice A3 D.faults.length c3] 27)) := by (repeat (first | with_reducible exact Below.refl _ _ | with_reducible assumption | with_reducible refine Below.alloc ?_ (by first | exact Nat.le_refl _ | exact Below.size (by assumption) | exact Nat.le_trans (Below.size (by assumption)) (by simp; done) | (simp; done) | (simp; omega) | omega) _ | with_reducible refine below_drewN ?_ _ | with_reducible refine Below.drew ?_ | with_reducible refine Below.setCell ?_ (by first | exact Nat.le_refl _ | (simp; done) | (simp; omega) | omega) _))
  have hnA := heap_alloc_new w2 (Obj.cells #[.slice A1 D.roots.length c1, .slice A2 D.mods.length c2, .slice A3 D.faults.length c3] 27)
  have hzA : (w2.alloc (Obj.cells #[.slice A1 D.roots.length c1, .slice A2 D.mods.length c2, .slice A3 D.faults.length c3] 27)).heap.size = w2.heap.size + 1 := by simp
  go_upto_region 3 with fail
  generalize w2.alloc (Obj.cells #[.slice A1 D.roots.length c1, .slice A2 D.mods.length c2, .slice A3 D.faults.length c3] 27) = W3 at hbA hnA hzA ⊢
  have hb3 := below_then hb2 hb2.size hbA
  have hn3 := (hbA.block _ (by omega)).trans hn2
  have hin3 := hin2.below hbA
  have hc3 := hc2.below hbA
  have HN3 := hide hn3
  have HNA := hide hnA
  have HB3 := hide hb3
  clear hb2 hn2 hbA hin2 hc2 hnA hb3
  have x0 : W3.cell? ⟨w2.heap.size, 0, none⟩ = some (.slice A1 D.roots.length c1) := blk_cell HNA.out 0
  have x1 : W3.cell? ⟨w2.heap.size, 1, none⟩ = some (.slice A2 D.mods.length c2) := blk_cell HNA.out 1
  have x2 : W3.cell? ⟨w2.heap.size, 2, none⟩ = some (.slice A3 D.faults.length c3) := blk_cell HNA.out 2
  clear hn3
  refine wp_region_held_drew (S := fun w' => w'.cell? ⟨w2.heap.size, 0, none⟩ = some (.slice A1 D.roots.length c1) ∧ w'.cell? ⟨w2.heap.size, 1, none⟩ = some (.slice A2 D.mods.length c2) ∧ w'.cell? ⟨w2.heap.size, 2, none⟩ = some (.slice A3 D.faults.length c3)) (by kernel_rfl) ⟨x0, x1, x2⟩ (fun hHeld => ?_)
  (refine wpAnyH_take (i := 0) (oi := ⟨some 11, _, _, _, _, _⟩) (v := .agg #[.slice A1 D.roots.length c1, .slice A2 D.mods.length c2, .slice A3 D.faults.length c3]) rfl (by kernel_rfl) (by kernel_rfl) (by kernel_rfl) (fun _ _ _ h => h) (Or.inl ⟨by rfl, ?_⟩) (by assumption) ?_; (focus (intro w hSw; (try dsimp only at hSw); go_simp; done)); try simp only [Act.put, List.setIfInBounds_toArray, List.set_cons_zero, List.set_cons_succ])
  (refine wpAnyH_take (i := 1) (oi := ⟨some 12, _, _, _, _, _⟩) (v := .pointer (some ⟨W0.heap.size, 0, none⟩)) rfl (by kernel_rfl) (by kernel_rfl) (by kernel_rfl) (fun _ _ _ h => h) (Or.inl ⟨by rfl, ?_⟩) (by assumption) ?_; (focus (intro w hSw; (try dsimp only at hSw); go_simp; done)); try simp only [Act.put, List.setIfInBounds_toArray, List.set_cons_zero, List.set_cons_succ])
  (refine wpAnyH_take (i := 2) (oi := ⟨some 13, _, _, _, _, _⟩) (v := .agg #[.slice A1 D.roots.length c1, .slice A2 D.mods.length c2, .slice A3 D.faults.length c3]) rfl (by kernel_rfl) (by kernel_rfl) (by kernel_rfl) (fun _ _ _ h => h) (Or.inl ⟨by rfl, ?_⟩) (by assumption) ?_; (focus (intro w hSw; (try dsimp only at hSw); go_simp; done)); try simp only [Act.put, List.setIfInBounds_toArray, List.set_cons_zero, List.set_cons_succ])
  refine wpAnyH_ready (rs := [3]) (by kernel_rfl) (by simp) ?_
  refine AllReadyH.cons (o := ⟨some 14, _, _, _, _, _⟩) rfl (fun K hK => ?_) AllReadyH.nil
  go_simp
  refine (main_ex W3.drew W0.heap.size n cp W1.heap.size A cq _ _ _ D (hc3.below (Below.drew (Below.refl _ _))) (by omega) (hin3.below (Below.drew (Below.refl _ _))) hsz (by omega)).mono ?_
  rintro e w4 ⟨nm, rfl, hnz, hg4, hqm⟩
  have HMD := hide (show DP.made code = (D, nm) by unfold DP.made; rw [HXW.out]; exact congrArg (Prod.mk D) hqm.out.symm)
  clear hqm HXW
  have hg34 : W3.grownBy w4 (some W0.heap.size) := ⟨hg4.os, hg4.tape, hg4.output, hg4.size, hg4.block⟩
  have hnA4 := (hg34.block w2.heap.size (by omega) (fun e => by have := Option.some.inj e; omega)).trans HNA.out
  have hn4 := (hg34.block w.heap.size (by omega) (fun e => by have := Option.some.inj e; omega)).trans HN3.out
  have hin4 := WIn.grownI hin3 hg34 (fun b hb _ e => by have := Option.some.inj e; omega)
  have hb4 := HB3.out.grown hg34 (by omega) (fun k hk => by have := Option.some.inj hk; omega)
  have HIN4 := hide hin4
  have HB4 := hide hb4
  refine hK.out _ _ ⟨blk_cell hnA4 0, blk_cell hnA4 1, blk_cell hnA4 2⟩ (fun hHeld => ?_)
  clear hK K hg4 hg34 hin3 hc3 x0 x1 x2 hin4 hb4
  try simp only [Act.put, List.setIfInBounds_toArray, List.set_cons_zero, List.set_cons_succ]
  have y0 := blk_cell hn4 0
  have y1 := blk_cell hn4 1
  have y2 := blk_cell hn4 2
  have z0 := blk_free hn4 0
  have z1 := blk_free hn4 1
  have z2 := blk_free hn4 2
  have HNA4 := hide hnA4
  have hk3 : ∀ b, w.heap.size + 1 ≤ b → (((w4.setCell ⟨w.heap.size, 0, none⟩ (.slice A1 D.roots.length c1)).setCell ⟨w.heap.size, 1, none⟩ (.slice A2 D.mods.length c2)).setCell ⟨w.heap.size, 2, none⟩ (.slice A3 D.faults.length c3)).heap[b]? = w4.heap[b]? := fun b hb => by
    simp only [World.setCell]
    repeat rw [Array.getElem?_modify, if_neg (by omega)]
  have HK3 := hide hk3
  clear hn4 hnA4 hk3
  refine wpAnyH_ready (rs := [4]) (by kernel_rfl) (by simp) ?_
  refine AllReadyH.cons (o := ⟨none, _, _, _, _, _⟩) rfl (fun K hK => ?_) AllReadyH.nil
  go_simp
  have HNA5 := hide ((HK3.out w2.heap.size (by omega)).trans HNA4.out)
  refine hK.out _ _ ⟨blk_cell HNA5.out 0, blk_cell HNA5.out 1, blk_cell HNA5.out 2⟩ (fun hHeld => ?_)
  clear hK K
  try simp only [Act.put, List.setIfInBounds_toArray, List.set_cons_zero, List.set_cons_succ]
  (refine wpAnyH_take (i := 5) (oi := ⟨some 3, _, _, _, _, _⟩) (v := .string nm) rfl (by kernel_rfl) (by kernel_rfl) (by kernel_rfl) (fun _ _ _ h => h) (Or.inl ⟨by rfl, ?_⟩) (by assumption) ?_; (focus (intro w hSw; (try dsimp only at hSw); go_simp; done)); try simp only [Act.put, List.setIfInBounds_toArray, List.set_cons_zero, List.set_cons_succ])
  refine wpAnyH_done (by kernel_rfl) ?_ _
  clear hHeld
  go_wp2_with fail
  refine bodyPost_ret (v := .tuple #[.agg #[.slice A1 D.roots.length c1, .slice A2 D.mods.length c2, .slice A3 D.faults.length c3], .string nm]) (by simp [results, Tryz.results7, go_sem, y0, y1, y2]) rfl ?_
  rw [HMD.out]
  refine ⟨_, _, _, rfl, ?_, hsz, hnz, hnum, ?_⟩
  · exact (HIN4.out.same (fun b hb => HK3.out b (by omega))).more (fun b hb => by omega)
  · have hb := HB4.out
    (repeat (first | with_reducible exact Below.refl _ _ | with_reducible assumption | with_reducible refine Below.alloc ?_ (by first | exact Nat.le_refl _ | exact Below.size (by assumption) | exact Nat.le_trans (Below.size (by assumption)) (by simp; done) | (simp; done) | (simp; omega) | omega) _ | with_reducible refine below_drewN ?_ _ | with_reducible refine Below.drew ?_ | with_reducible refine Below.setCell ?_ (by first | exact Nat.le_refl _ | (simp; done) | (simp; omega) | omega) _))
end Go.Proofs.YtkhlicmlnjccdaaGreatDoor
