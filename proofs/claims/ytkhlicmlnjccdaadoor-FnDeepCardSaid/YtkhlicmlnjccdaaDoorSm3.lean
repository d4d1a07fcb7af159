/-
  Walks: the reference's machine: the search through the tries; what is loaded; a ring.
-/
import Derived.Test.YtkhlicmlnjccdaaDoorSm2
import Derived.WalkSmall
namespace Go.Proofs.YtkhlicmlnjccdaaDoor
open Go.RowKit Mem

theorem Mem.Own.slIn {w w1 : World} {K : Nat → Prop} {t : TypeId} {A : Option Addr} {n c : Nat} {ts : List Str} (h : Own fStr w1 w.heap.size t (.slice A n c) ts) : Sl kStr w1 (fun b => K b ∨ (w.heap.size ≤ b ∧ b < w1.heap.size)) A ts :=
  (h.sl.old).more (fun _ hb => .inr hb)
theorem Mem.Sl.keep {α : Type} {k : Kind α} {w w' : World} {K : Nat → Prop} {A : Option Addr} {xs : List α} (h : Sl k w K A xs) (hk : Keep K w w') : Sl k w' K A xs :=
  (h.old.same (fun b hb => hk.block b hb.1 hb.2)).more (fun _ hb => hb.1)
theorem STo.of {w w' : World} {g : Nat} {K K' : Nat → Prop} {vR vM vF : Value} {D : WorldD} {s' : Ld.St} (h : SAt w' g K' vR vM vF D s') (hK : ∀ b, K b → K' b) (hk : Keep K w w') : STo w w' g K vR vM vF D s' := ⟨K', hK, h, hk⟩
theorem drop_eq {ts : List Str} {k : Nat} (h : k < ts.length) : ts.drop k = ts[k] :: ts.drop (k + 1) := List.drop_eq_getElem_cons h

set_option maxRecDepth 100000 in
set_option maxHeartbeats 2000000 in
theorem find_calls (w : World) (g : Nat) (K : Nat → Prop) (vR vM vF : Value) (D : WorldD) (s : Ld.St) (b : Nat) (h : SAt w g K vR vM vF D s) (hG : Ld.Good D s b) (hz : WSz D) (frm name : Str) (hf : frm.size ≤ 1048576) (hn : name.size ≤ 1048576) :
    Calls Tryd.prog 106 #[.pointer (some ⟨g, 0, none⟩), .string frm, .string name] w fun e w' => e = .returned (.tuple #[.string (Ld.find D frm name s).1, .int .i64 (Ld.find D frm name s).2.1]) ∧ STo w w' g K vR vM vF D (Ld.find D frm name s).2.2 := by
  have h0 := h
  obtain ⟨vc, vs, vr, vk, hh, hin⟩ := h0
  obtain ⟨A1, c1, hv, hc1, hd1, hR⟩ := hin.R
  subst hv
  have k0 : w.cell? ⟨g, 0, none⟩ = some (.slice A1 D.roots.length c1) := blk_cell hh.blk 0
  have hct := sTries_calls A1 c1 D.roots.length D.roots frm name K w hR rfl (by omega) hz.r (by omega) (by omega)
  have hfd : Ld.find D frm name s = if Nm.tries D.roots frm name = [] then (⟨#[]⟩, 1, s) else Ld.look D (Nm.tries D.roots frm name) s := rfl
  generalize Nm.tries D.roots frm name = ts at hct hfd
  generalize Ld.find D frm name s = res at hfd ⊢
  have HFD := hide hfd
  have HCT := hide hct
  have HG0 := hide hG
  clear hct hfd hh hin hR hG
  go_enter Tryd.func106, Tryd.ntmps106
  go_wp2_with fail
  refine (unhide HCT).mono ?_
  rintro e w1 ⟨v8, rfl, H8, hb1⟩
  obtain ⟨A8, c8, hv8, hc8, hd8, _⟩ := H8.slV
  subst hv8
  have hsl := H8.slIn (K := K)
  have hsat := h.fresh hb1
  have hk1 := Keep.of_below (K := K) hb1
  have hlm := mem_maxLen _ (show ts.length ≤ maxLen by omega)
  clear H8 hb1 HCT k0
  by_cases he : ts = []
  · have HQ := hide (HFD.out.trans (if_pos he))
    subst he
    go_wp2_with fail
    go_ret2
    rw [HQ.out]
    exact ⟨rfl, STo.of hsat (fun b hb => .inl hb) hk1⟩
  replace HFD := hide (HFD.out.trans (if_neg he))
  have hpos : 0 < ts.length := Nat.pos_of_ne_zero (fun e => he (List.eq_nil_of_length_eq_zero e))
  have hposI : (0 : Int) < ts.length := by omega
  have hb0 : ((ts.length : Int) == 0) = false := by simp; omega
  clear he
  go_wp2_with fail
  go_loopw [10, 11, 25] (fun _ _ i wr => ∃ (k : Nat) (s1 : Ld.St), i = .int .i64 k ∧ k ≤ ts.length ∧ Hid (Ld.look D ts s = Ld.look D (ts.drop k) s1) ∧ SAt wr g (fun b => K b ∨ (w.heap.size ≤ b ∧ b < w1.heap.size)) (.slice A1 D.roots.length c1) vM vF D s1 ∧ Keep (fun b => K b ∨ (w.heap.size ≤ b ∧ b < w1.heap.size)) w1 wr ∧ Hid (Ld.Good D s1 b)) (fun _ _ i _ => ts.length - (intOf i).toNat)
  case atStart => exact ⟨0, s, rfl, by omega, rfl, hsat, Keep.refl _ _, HG0⟩
  case round =>
    clear hsat
    obtain ⟨k, s1, rfl, hk, HL, hsat, hkp, HG⟩ := hrel
    have hkk := hk1.then hkp (fun b hb => .inl hb)
    by_cases hlt : k < ts.length
    · obtain ⟨ad, hA, hc⟩ := (hsl.keep hkp).get hlt
      subst hA
      have e0 : wr.cell? (ad.add k) = some (.string ts[k]) := by simpa [kStr] using hc.2
      have hdr := drop_eq hlt
      clear hc
      generalize ts[k] = n at e0 hdr
      have HL2 := hide (HL.out.trans (by rw [hdr]))
      have hsat' := hsat
      obtain ⟨vc, vs, vr, vk, hh, hin⟩ := hsat'
      obtain ⟨A5, c5, hv5, hc5, hd5, hs5⟩ := hh.states.slV
      subst hv5
      have k5 : wr.cell? ⟨g, 5, none⟩ = some (.slice A5 s1.states.length c5) := blk_cell hh.blk 5
      have k6 : wr.cell? ⟨g, 6, none⟩ = some (.int .i64 s1.reads) := blk_cell hh.blk 6
      have hcs := state_calls g A5 c5 s1.states.length s1.states n _ wr k5 hs5 rfl (by omega)
      clear hdr hh hin hs5
      cases hst : Ld.stAt s1.states n with
      | some i =>
        rw [hst] at hcs
        replace hcs : Calls Tryd.prog 107 #[.pointer (some ⟨g, 0, none⟩), .string n] wr fun e w' => e = .returned (.int .i64 (i : Int)) ∧ Below wr.heap.size wr w' := hcs
        have HCS := hide hcs
        have HQ := hide (show Ld.look D ts s = (n, 0, s1) by rw [HL2.out]; unfold Ld.look; rw [hst]; rfl)
        clear hcs hst k5 k6
        go_wp2_with fail
        refine (unhide HCS).mono ?_
        rintro e w2 ⟨rfl, hb2⟩
        go_wp2_with fail
        go_ret2
        rw [HFD.out, HQ.out]
        exact ⟨rfl, STo.of (hsat.below hb2) (fun b hb => .inl hb) (hkk.then (Keep.of_below hb2) (fun b hb => hb))⟩
      | none =>
        rw [hst] at hcs
        replace hcs : Calls Tryd.prog 107 #[.pointer (some ⟨g, 0, none⟩), .string n] wr fun e w' => e = .returned (.int .i64 (-1)) ∧ Below wr.heap.size wr w' := hcs
        have HCS := hide hcs
        have hre := HG.out.reads
        have hrr := HG.out.room
        by_cases h400 : s1.reads = 400
        · have HQ := hide (show Ld.look D ts s = (⟨#[]⟩, 3, s1) by rw [HL2.out]; unfold Ld.look; rw [hst, if_neg (by simp), if_pos h400])
          have e4 : ((s1.reads : Int) == 400) = true := by simp; omega
          clear hcs hst k5 h400
          go_wp2_with fail
          refine (unhide HCS).mono ?_
          rintro e w2 ⟨rfl, hb2⟩
          have q6 : w2.cell? ⟨g, 6, none⟩ = some (.int .i64 s1.reads) := (hb2.cell (p := ⟨g, 6, none⟩) (World.block_lt_of_cell? _ _ k6)).trans k6
          go_wp2_with fail
          go_ret2
          rw [HFD.out, HQ.out]
          exact ⟨rfl, STo.of (hsat.below hb2) (fun b hb => .inl hb) (hkk.then (Keep.of_below hb2) (fun b hb => hb))⟩
        · have hlc := Ld.look_cons D n (ts.drop (k + 1)) s1 hst h400
          have HGN := hide (HG.out.readNote h400 ⟨1, n, Ld.rcode D s1 n, 0⟩)
          have e4 : ((s1.reads : Int) == 400) = false := by simp; omega
          have HLC := hide (HL2.out.trans hlc)
          have hrd := fun (w' : World) (hsa : SAt w' g (fun b => K b ∨ (w.heap.size ≤ b ∧ b < w1.heap.size)) (.slice A1 D.roots.length c1) vM vF D s1) => read_calls w' g _ _ vM vF D s1 hsa n (by omega) hre
          have hrcs : Ld.rcode D s1 n = 3 ∨ Ld.rcode D s1 n = 0 ∨ Ld.rcode D s1 n = 2 := by
            unfold Ld.rcode
            split
            · exact .inl rfl
            · split
              · exact .inr (.inl rfl)
              · exact .inr (.inr rfl)
          generalize Ld.rcode D s1 n = rc at HLC HGN hrd hrcs
          have HRD := hide hrd
          clear hcs hst k5 h400 hlc hrd hre hrr
          rcases hrcs with rfl | rfl | rfl
          · go_wp2_with fail
            refine (unhide HCS).mono ?_
            rintro e w2 ⟨rfl, hb2⟩
            have q6 : w2.cell? ⟨g, 6, none⟩ = some (.int .i64 s1.reads) := (hb2.cell (p := ⟨g, 6, none⟩) (World.block_lt_of_cell? _ _ k6)).trans k6
            have hsat2 := hsat.below hb2
            have hkk2 := hkk.then (Keep.of_below (K := K) hb2) (fun b hb => hb)
            clear hb2
            go_wp2_with fail
            refine (HRD.out w2 hsat2).mono ?_
            rintro e w3 ⟨rfl, hs3, hk3⟩
            go_wp2_with fail
            go_ret2
            rw [HFD.out, HLC.out]
            exact ⟨rfl, STo.of hs3 (fun b hb => .inl hb) (hkk2.then hk3 (fun b hb => .inl hb))⟩
          · go_wp2_with fail
            refine (unhide HCS).mono ?_
            rintro e w2 ⟨rfl, hb2⟩
            have q6 : w2.cell? ⟨g, 6, none⟩ = some (.int .i64 s1.reads) := (hb2.cell (p := ⟨g, 6, none⟩) (World.block_lt_of_cell? _ _ k6)).trans k6
            have hsat2 := hsat.below hb2
            have hkk2 := hkk.then (Keep.of_below (K := K) hb2) (fun b hb => hb)
            clear hb2
            go_wp2_with fail
            refine (HRD.out w2 hsat2).mono ?_
            rintro e w3 ⟨rfl, hs3, hk3⟩
            go_wp2_with fail
            go_ret2
            rw [HFD.out, HLC.out]
            exact ⟨rfl, STo.of hs3 (fun b hb => .inl hb) (hkk2.then hk3 (fun b hb => .inl hb))⟩
          · go_wp2_with fail
            refine (unhide HCS).mono ?_
            rintro e w2 ⟨rfl, hb2⟩
            have q6 : w2.cell? ⟨g, 6, none⟩ = some (.int .i64 s1.reads) := (hb2.cell (p := ⟨g, 6, none⟩) (World.block_lt_of_cell? _ _ k6)).trans k6
            have hsat2 := hsat.below hb2
            have hkp2 := hkp.then (Keep.of_below (K := fun b => K b ∨ (w.heap.size ≤ b ∧ b < w1.heap.size)) hb2) (fun b hb => hb)
            clear hb2
            go_wp2_with fail
            refine (HRD.out w2 hsat2).mono ?_
            rintro e w3 ⟨rfl, hs3, hk3⟩
            have hkp3 := hkp2.then hk3 (fun b hb => hb)
            go_wp2_with fail
            go_roundw
            case rel => exact ⟨k + 1, _, by go_num, by omega, hide (HLC.out.trans (by rw [if_neg (by decide), if_neg (by decide)])), hs3, hkp3, HGN⟩
            case measure => simp [intOf]; omega
    · obtain rfl : k = ts.length := by omega
      have HQ := hide (show Ld.look D ts s = (⟨#[]⟩, 2, s1) by rw [HL.out, List.drop_length]; rfl)
      go_wp2_with fail
      go_ret2
      rw [HFD.out, HQ.out]
      exact ⟨rfl, STo.of hsat (fun b hb => .inl hb) hkk⟩
end Go.Proofs.YtkhlicmlnjccdaaDoor
