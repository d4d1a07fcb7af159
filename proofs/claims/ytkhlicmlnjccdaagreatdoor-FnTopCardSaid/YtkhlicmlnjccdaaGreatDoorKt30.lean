/-
  Walks: the program's machine: what is shown.
-/
import Derived.Test.YtkhlicmlnjccdaaGreatDoorKt29
namespace Go.Proofs.YtkhlicmlnjccdaaGreatDoor
open Go.RowKit Mem Go.Maps Go.ChangeMaps Go.WideMaps

def kidx (r : Option (Str × Nat)) : Int := match r with
  | some x => x.2
  | none => -1

set_option maxRecDepth 100000 in
set_option maxHeartbeats 2000000 in
theorem shown_calls (w : World) (g : Nat) (K : Nat → Prop) (vR vM vF : Value) (bm bf : Nat) (D : WorldD) (s : Ld.St) (h : PAt w g K vR vM vF bm bf D s) (hz : WSz D) (frm name : Str) (hf : frm.size ≤ 1048576) (hn : name.size ≤ 1048576) :
    Calls Tryz.prog 97 #[.pointer (some ⟨g, 0, none⟩), .string frm, .string name] w fun e w' => e = .returned (.tuple #[.int .i64 (kidx (Ld.known D frm name s).1), .int .i64 (Ld.known D frm name s).2]) ∧ Below w.heap.size w w' := by
  obtain ⟨vc, vs, vr, vk, hh, hin⟩ := h
  obtain ⟨A1, c1, hv, hc1, hd1, hR⟩ := hin.inw.R
  have hml := hin.ml
  subst hv
  obtain ⟨A5, c5, hv5, hc5, hd5, hs5⟩ := hh.states.slV
  subst hv5
  have k0 : w.cell? ⟨g, 0, none⟩ = some (.slice A1 D.roots.length c1) := blk_cell hh.blk 0
  have k7 : w.cell? ⟨g, 7, none⟩ = some (.slice A5 (s.states.map hid).length c5) := blk_cell hh.blk 7
  have hgl := hh.lt
  have hct := iTries_calls A1 c1 D.roots.length D.roots frm name K w hR rfl (by omega) hz.r (by omega) (by omega) hml
  have hfd : Ld.known D frm name s = Ld.knownIn s.states (Nm.tries D.roots frm name) := rfl
  generalize Nm.tries D.roots frm name = ts at hct hfd
  generalize Ld.known D frm name s = res at hfd ⊢
  have HFD := hide hfd
  have HCT := hide hct
  have hls := mem_maxLen _ (show (s.states.map hid).length ≤ maxLen by omega)
  clear hct hfd hh hin hR
  go_enter Tryz.func97, Tryz.ntmps97
  go_wp2_with fail
  refine (unhide HCT).mono ?_
  rintro e w1 ⟨v8, rfl, H8, hb1⟩
  obtain ⟨A8, c8, hv8, hc8, hd8, hsl⟩ := H8.slV
  subst hv8
  have q7 : w1.cell? ⟨g, 7, none⟩ = some (.slice A5 (s.states.map hid).length c5) := (hb1.cell (p := ⟨g, 7, none⟩) (World.block_lt_of_cell? _ _ k7)).trans k7
  have hs1 := hs5.below hb1
  have hlm := mem_maxLen _ (show ts.length ≤ maxLen by omega)
  clear H8 HCT k0 k7 hs5
  by_cases he : ts = []
  · subst he
    have HQ := hide (HFD.out.trans (Ld.knownIn_nil _))
    go_wp2_with fail
    go_ret2
    rw [HQ.out]
    exact ⟨rfl, hb1⟩
  have HNE := hide he
  have hpos : 0 < ts.length := Nat.pos_of_ne_zero (fun e => he (List.eq_nil_of_length_eq_zero e))
  have hposI : (0 : Int) < ts.length := by omega
  have hb0 : ((ts.length : Int) == 0) = false := by simp; omega
  clear he
  go_wp2_with fail
  go_loopw [10, 11, 25] (fun _ _ i wr => ∃ (k : Nat), i = .int .i64 k ∧ k ≤ ts.length ∧ Hid (Ld.knownOf s.states ts = Ld.knownOf s.states (ts.drop k)) ∧ Below w1.heap.size w1 wr) (fun _ _ i _ => ts.length - (intOf i).toNat)
  case atStart => exact ⟨0, rfl, by omega, rfl, Below.refl _ _⟩
  case round =>
    obtain ⟨k, rfl, hk, HL, HB⟩ := hrel
    have HBB := below_then hb1 hb1.size HB
    by_cases hlt : k < ts.length
    · obtain ⟨ad, hA, hc⟩ := (hsl.below HB).get hlt
      subst hA
      have e0 : wr.cell? (ad.add k) = some (.string ts[k]) := by simpa [fStr, kStr] using hc.2
      have hdr := drop_eq hlt
      clear hc
      generalize ts[k] = n at e0 hdr
      have HL2 := hide (HL.out.trans (by rw [hdr]))
      have r7 : wr.cell? ⟨g, 7, none⟩ = some (.slice A5 (s.states.map hid).length c5) := (HB.cell (p := ⟨g, 7, none⟩) (World.block_lt_of_cell? _ _ q7)).trans q7
      have hcs := at_calls g A5 c5 (s.states.map hid).length (s.states.map hid) n _ wr r7 (hs1.below HB) rfl (by omega)
      rw [stAt_hid] at hcs
      have hsr := hs1.below HB
      clear hdr
      cases hst : Ld.stAt s.states n with
      | none =>
        rw [hst] at hcs
        replace hcs : Calls Tryz.prog 72 #[.pointer (some ⟨g, 0, none⟩), .string n] wr fun e w' => e = .returned (.int .i64 (-1)) ∧ Below wr.heap.size wr w' := hcs
        have HCS := hide hcs
        have HN := hide (HL2.out.trans (show Ld.knownOf s.states (n :: ts.drop (k + 1)) = Ld.knownOf s.states (ts.drop (k + 1)) by conv => lhs; unfold Ld.knownOf; rw [hst]))
        clear hcs hst hsr r7
        go_wp2_with fail
        refine (unhide HCS).mono ?_
        rintro e w2 ⟨rfl, hb2⟩
        have HB2 := below_then HB HB.size hb2
        clear hb2
        go_wp2_with fail
        go_roundw
        case rel => exact ⟨k + 1, by go_num, by omega, HN, HB2⟩
        case measure => simp [intOf]; omega
      | some i =>
        rw [hst] at hcs
        replace hcs : Calls Tryz.prog 72 #[.pointer (some ⟨g, 0, none⟩), .string n] wr fun e w' => e = .returned (.int .i64 (i : Int)) ∧ Below wr.heap.size wr w' := hcs
        have HCS := hide hcs
        obtain ⟨t, hti, _⟩ := Ld.stAt_some hst
        have hil0 : i < s.states.length := by
          rcases Nat.lt_or_ge i s.states.length with h | h
          · exact h
          · rw [List.getElem?_eq_none h] at hti; simp at hti
        have hil : i < (s.states.map hid).length := by rw [List.length_map]; exact hil0
        obtain ⟨bd, hA, _, l1, _⟩ := hsr.get hil
        subst hA
        have ht : (s.states.map hid)[i] = hid t := by have := map_hid_at hti; rw [List.getElem?_eq_getElem hil] at this; exact Option.some.inj this
        rw [ht, hid_now] at l1
        have e5 : wr.cell? ⟨(bd.add (i * 4)).block, (bd.add (i * 4)).off + 1, none⟩ = some (.int .i64 t.now) := by have := l1.2; rwa [add_pos _ _ (by omega)] at this
        have hilI : (i : Int) < (s.states.map hid).length := by omega
        have hany : (s.states[i]?).any (fun t => decide (t.now = 2)) = decide (t.now = 2) := by rw [hti]; rfl
        by_cases hnow : t.now = 2
        · have e6 : (t.now == 2) = true := by simpa using hnow
          have HN := hide (HL2.out.trans (show Ld.knownOf s.states (n :: ts.drop (k + 1)) = some (n, i) by unfold Ld.knownOf; rw [hst]; simp only [hany, decide_eq_true hnow, if_true]))
          clear hcs hst l1 ht hti hnow hany
          go_wp2_with fail
          refine (unhide HCS).mono ?_
          rintro e w2 ⟨rfl, hb2⟩
          have HB2 := below_then HBB HBB.size hb2
          have y7 : w2.cell? ⟨g, 7, none⟩ = some (.slice (some bd) (s.states.map hid).length c5) := (hb2.cell (p := ⟨g, 7, none⟩) (World.block_lt_of_cell? _ _ r7)).trans r7
          have y6 : w2.cell? ⟨(bd.add (i * 4)).block, (bd.add (i * 4)).off + 1, none⟩ = some (.int .i64 t.now) := (hb2.cell (World.block_lt_of_cell? _ _ e5)).trans e5
          clear hb2 e5 r7
          go_wp2_with fail
          go_ret2
          rw [HFD.out, Ld.knownIn_some HNE.out HN.out]
          exact ⟨rfl, HB2⟩
        · have e6 : (t.now == 2) = false := by simpa using hnow
          have HN := hide (HL2.out.trans (show Ld.knownOf s.states (n :: ts.drop (k + 1)) = Ld.knownOf s.states (ts.drop (k + 1)) by conv => lhs; unfold Ld.knownOf; rw [hst]; simp only [hany, decide_eq_false hnow]; simp))
          clear hcs hst l1 ht hti hnow hany
          go_wp2_with fail
          refine (unhide HCS).mono ?_
          rintro e w2 ⟨rfl, hb2⟩
          have HB2 := below_then HB HB.size hb2
          have y7 : w2.cell? ⟨g, 7, none⟩ = some (.slice (some bd) (s.states.map hid).length c5) := (hb2.cell (p := ⟨g, 7, none⟩) (World.block_lt_of_cell? _ _ r7)).trans r7
          have y6 : w2.cell? ⟨(bd.add (i * 4)).block, (bd.add (i * 4)).off + 1, none⟩ = some (.int .i64 t.now) := (hb2.cell (World.block_lt_of_cell? _ _ e5)).trans e5
          clear hb2 e5 r7
          go_wp2_with fail
          go_roundw
          case rel => exact ⟨k + 1, by go_num, by omega, HN, HB2⟩
          case measure => simp [intOf]; omega
    · obtain rfl : k = ts.length := by omega
      have HQ := hide (show Ld.knownOf s.states ts = none by rw [HL.out, List.drop_length]; rfl)
      go_wp2_with fail
      go_ret2
      rw [HFD.out, Ld.knownIn_none HNE.out HQ.out]
      exact ⟨rfl, HBB⟩
end Go.Proofs.YtkhlicmlnjccdaaGreatDoor
