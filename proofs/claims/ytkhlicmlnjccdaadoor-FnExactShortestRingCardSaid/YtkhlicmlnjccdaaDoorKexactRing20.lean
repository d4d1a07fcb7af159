/-
Walks: the reference's machine: a reading, the search through the tries.
Walks: the reference's machine: the search through the tries; what is loaded; a ring.
-/
import Derived.Test.YtkhlicmlnjccdaaDoorKexactRing16
import Derived.Test.YtkhlicmlnjccdaaDoorKexactRing19
import Derived.WalkSmall
namespace Go.Proofs.YtkhlicmlnjccdaaDoor
open Go.RowKit Mem

namespace Ld
def hit (fs : List Int) (n : Int) : Bool := fs.any fun f => decide (f = n)
theorem hit_snoc (fs : List Int) (n : Int) (k : Nat) (hk : k < fs.length) : hit (fs.take (k + 1)) n = (hit (fs.take k) n || decide (fs[k] = n)) := by
  unfold hit
  rw [List.take_succ_eq_append_getElem hk, List.any_append]; simp
theorem hit_mem (fs : List Int) (n : Int) : hit fs n = true ↔ n ∈ fs := by
  unfold hit
  rw [List.any_eq_true]
  constructor
  · rintro ⟨x, hx, h⟩
    have : x = n := by simpa using h
    exact this ▸ hx
  · exact fun h => ⟨n, h, by simp⟩
def rcode (D : WorldD) (s : St) (n : Str) : Int := if (s.reads : Int) ∈ D.faults then 3 else if (modAt D.mods n).isSome = true then 0 else 2
theorem look_cons (D : WorldD) (n : Str) (r : List Str) (s : St) (h1 : stAt s.states n = none) (h2 : s.reads ≠ 400) : look D (n :: r) s =
    if rcode D s n = 3 then (n, 3, s.read.note ⟨1, n, rcode D s n, 0⟩) else if rcode D s n = 0 then (n, 0, s.read.note ⟨1, n, rcode D s n, 0⟩) else look D r (s.read.note ⟨1, n, rcode D s n, 0⟩) := by
  conv => lhs; unfold look
  rw [h1, if_neg (by simp), if_neg h2]
  unfold rcode
  by_cases h3 : (s.reads : Int) ∈ D.faults
  · rw [if_pos h3]; simp [h3]
  · rw [if_neg h3]
    by_cases h4 : (modAt D.mods n).isSome = true
    · rw [if_pos h4]; simp [h3, h4]
    · rw [if_neg h4]; simp [h3, h4]
end Ld

set_option maxRecDepth 100000 in
set_option maxHeartbeats 2000000 in
theorem read_calls (w : World) (g : Nat) (K : Nat → Prop) (vR vM vF : Value) (D : WorldD) (s : Ld.St) (h : SAt w g K vR vM vF D s) (nm : Str) (hr : s.recs.length ≤ 9000) (hs : s.reads ≤ 400) :
    Calls Tryd.prog 123 #[.pointer (some ⟨g, 0, none⟩), .string nm] w fun e w' => e = .returned (.int .i64 (Ld.rcode D s nm)) ∧ SAt w' g K vR vM vF D (s.read.note ⟨1, nm, Ld.rcode D s nm, 0⟩) ∧ Keep K w w' := by
  obtain ⟨vc, vs, vr, vk, hh, hin⟩ := h
  have hin0 := hin
  obtain ⟨⟨A1, c1, rfl, _, _, hR⟩, ⟨A2, c2, rfl, hc2, hd2, hM⟩, ⟨A3, c3, rfl, hc3, hd3, hF⟩⟩ := hin
  have k6 : w.cell? ⟨g, 6, none⟩ = some (.int .i64 s.reads) := blk_cell hh.blk 6
  have f6 := blk_free hh.blk 6
  have hst := hh.set 6 (.int .i64 ((s.reads : Int) + 1))
  have HH1 := hide hst.1
  have HK1 := hide hst.2
  have k0 : (w.setCell ⟨g, 6, none⟩ (.int .i64 ((s.reads : Int) + 1))).cell? ⟨g, 0, none⟩ = some (.slice A1 D.roots.length c1) := blk_cell hst.1.blk 0
  have k1 : (w.setCell ⟨g, 6, none⟩ (.int .i64 ((s.reads : Int) + 1))).cell? ⟨g, 1, none⟩ = some (.slice A2 D.mods.length c2) := blk_cell hst.1.blk 1
  have k2 : (w.setCell ⟨g, 6, none⟩ (.int .i64 ((s.reads : Int) + 1))).cell? ⟨g, 2, none⟩ = some (.slice A3 D.faults.length c3) := blk_cell hst.1.blk 2
  have hin1 := hin0.same (hst.2.same (fun b hb => hb) hh.KS)
  have hin2 := hin1
  obtain ⟨⟨_, _, _, _, _, _⟩, ⟨B2, d2, hv2, _, _, gM⟩, ⟨B3, d3, hv3, _, _, gF⟩⟩ := hin1
  injection hv2 with hv2 _ hv2'
  injection hv3 with hv3 _ hv3'
  subst hv2 hv2' hv3 hv3'
  clear hst hin0 hM hF hR
  go_enter Tryd.func123, Tryd.ntmps123
  go_wp2_with fail
  generalize hW : w.setCell ⟨g, 6, none⟩ (.int .i64 ((s.reads : Int) + 1)) = W1 at HH1 HK1 k0 k1 k2 gM gF hin2 ⊢
  clear hW k6 f6
  have hsat : SAt W1 g K (.slice A1 D.roots.length c1) (.slice A2 D.mods.length c2) (.slice A3 D.faults.length c3) D s.read := SAtV.sat (vc := vc) (vs := vs) (vr := vr) (vk := vk) ⟨HH1.out, hin2⟩
  refine (l2find_calls _ _ A2 c2 D.mods.length D.mods nm K W1 gM rfl (by omega)).mono ?_
  rintro e w2 ⟨rfl, hb2⟩
  have hsat2 := hsat.below hb2
  have hk2 := HK1.out.then (Keep.of_below (K := K) hb2) (fun b hb => hb)
  have q2 : w2.cell? ⟨g, 2, none⟩ = some (.slice A3 D.faults.length c3) := (hb2.cell (p := ⟨g, 2, none⟩) (World.block_lt_of_cell? _ _ k2)).trans k2
  have hF2 := gF.below hb2
  clear k0 k1 k2 hb2 HH1 HK1 hsat gM gF hin2 hh
  have hcb : ∃ c0 : Int, (idxI (Ld.modAt D.mods nm) < 0 ∧ c0 = 2 ∨ 0 ≤ idxI (Ld.modAt D.mods nm) ∧ c0 = 0) ∧ c0 = (if (Ld.modAt D.mods nm).isSome = true then 0 else 2) := by
    cases hmo : Ld.modAt D.mods nm with
    | none => exact ⟨2, .inl ⟨by simp [idxI], rfl⟩, rfl⟩
    | some i => exact ⟨0, .inr ⟨by simp [idxI], rfl⟩, rfl⟩
  obtain ⟨c0, hcs, hc0⟩ := hcb
  have HC0 := hide hc0
  generalize idxI (Ld.modAt D.mods nm) = ix at hcs ⊢
  have hd3' := mem_maxLen _ (show D.faults.length ≤ maxLen by omega)
  clear hc0
  rcases hcs with ⟨hix, rfl⟩ | ⟨hix, rfl⟩
  · go_wp2_with fail
    go_loop [6, 8, 36] (fun c _ i => ∃ k : Nat, i = .int .i64 k ∧ k ≤ D.faults.length ∧ c = .int .i64 (if Ld.hit (D.faults.take k) s.reads = true then 3 else 2)) (fun _ _ i => D.faults.length - (intOf i).toNat)
    case atStart => exact ⟨0, rfl, by omega, by simp [Ld.hit]⟩
    case round =>
      obtain ⟨k, rfl, hk, rfl⟩ := hrel
      by_cases hlt : k < D.faults.length
      · obtain ⟨ad, hA, l0⟩ := hF2.get hlt
        subst hA
        have e0 : w2.cell? (ad.add k) = some (.int .i64 D.faults[k]) := by simpa [kInt] using l0.2
        have hsn := Ld.hit_snoc D.faults s.reads k hlt
        clear l0
        generalize D.faults[k] = f at e0 hsn
        by_cases hf : f = s.reads
        · have e1 : (f == (s.reads : Int)) = true := by simpa using hf
          rw [decide_eq_true hf, Bool.or_true] at hsn
          have HSN := hide hsn
          clear hsn hf
          go_wp2_with fail
          go_round
          case rel => exact ⟨k + 1, by go_num, by omega, by rw [HSN.out]; rfl⟩
          case measure => simp [intOf]; omega
        · have e1 : (f == (s.reads : Int)) = false := by simpa using hf
          rw [decide_eq_false hf, Bool.or_false] at hsn
          have HSN := hide hsn
          clear hsn hf
          go_wp2_with fail
          go_round
          case rel => exact ⟨k + 1, by go_num, by omega, by rw [HSN.out]⟩
          case measure => simp [intOf]; omega
      · obtain rfl : k = D.faults.length := by omega
        rw [List.take_length]
        have hrc : (if Ld.hit D.faults s.reads = true then (3 : Int) else 2) = Ld.rcode D s nm := by
          unfold Ld.rcode
          by_cases hm : (s.reads : Int) ∈ D.faults
          · rw [if_pos hm, if_pos ((Ld.hit_mem _ _).2 hm)]
          · rw [if_neg hm, if_neg (fun e => hm ((Ld.hit_mem _ _).1 e))]; exact HC0.out
        rw [hrc]
        go_wp2_with fail
        refine (rec_calls w2 g K _ _ _ D s.read hsat2 1 (Ld.rcode D s nm) 0 nm hr).mono ?_
        rintro e w3 ⟨rfl, hs3, hk3⟩
        go_wp2_with fail
        go_ret
        exact ⟨rfl, hs3, hk2.then hk3 (fun b hb => hb)⟩
  · go_wp2_with fail
    go_loop [6, 8, 36] (fun c _ i => ∃ k : Nat, i = .int .i64 k ∧ k ≤ D.faults.length ∧ c = .int .i64 (if Ld.hit (D.faults.take k) s.reads = true then 3 else 0)) (fun _ _ i => D.faults.length - (intOf i).toNat)
    case atStart => exact ⟨0, rfl, by omega, by simp [Ld.hit]⟩
    case round =>
      obtain ⟨k, rfl, hk, rfl⟩ := hrel
      by_cases hlt : k < D.faults.length
      · obtain ⟨ad, hA, l0⟩ := hF2.get hlt
        subst hA
        have e0 : w2.cell? (ad.add k) = some (.int .i64 D.faults[k]) := by simpa [kInt] using l0.2
        have hsn := Ld.hit_snoc D.faults s.reads k hlt
        clear l0
        generalize D.faults[k] = f at e0 hsn
        by_cases hf : f = s.reads
        · have e1 : (f == (s.reads : Int)) = true := by simpa using hf
          rw [decide_eq_true hf, Bool.or_true] at hsn
          have HSN := hide hsn
          clear hsn hf
          go_wp2_with fail
          go_round
          case rel => exact ⟨k + 1, by go_num, by omega, by rw [HSN.out]; rfl⟩
          case measure => simp [intOf]; omega
        · have e1 : (f == (s.reads : Int)) = false := by simpa using hf
          rw [decide_eq_false hf, Bool.or_false] at hsn
          have HSN := hide hsn
          clear hsn hf
          go_wp2_with fail
          go_round
          case rel => exact ⟨k + 1, by go_num, by omega, by rw [HSN.out]⟩
          case measure => simp [intOf]; omega
      · obtain rfl : k = D.faults.length := by omega
        rw [List.take_length]
        have hrc : (if Ld.hit D.faults s.reads = true then (3 : Int) else 0) = Ld.rcode D s nm := by
          unfold Ld.rcode
          by_cases hm : (s.reads : Int) ∈ D.faults
          · rw [if_pos hm, if_pos ((Ld.hit_mem _ _).2 hm)]
          · rw [if_neg hm, if_neg (fun e => hm ((Ld.hit_mem _ _).1 e))]; exact HC0.out
        rw [hrc]
        go_wp2_with fail
        refine (rec_calls w2 g K _ _ _ D s.read hsat2 1 (Ld.rcode D s nm) 0 nm hr).mono ?_
        rintro e w3 ⟨rfl, hs3, hk3⟩
        go_wp2_with fail
        go_ret
        exact ⟨rfl, hs3, hk2.then hk3 (fun b hb => hb)⟩
end Go.Proofs.YtkhlicmlnjccdaaDoor

namespace Go.Proofs.YtkhlicmlnjccdaaDoor
open Go.RowKit Mem

theorem Mem.Own.slIn {w w1 : World} {K : Nat → Prop} {t : TypeId} {A : Option Addr} {n c : Nat} {ts : List Str} (h : Own fStr w1 w.heap.size t (.slice A n c) ts) : Sl kStr w1 (fun b => K b ∨ (w.heap.size ≤ b ∧ b < w1.heap.size)) A ts :=
  (h.sl.old).more (fun _ hb => .inr hb)
theorem Mem.Sl.keep {α : Type} {k : Kind α} {w w' : World} {K : Nat → Prop} {A : Option Addr} {xs : List α} (h : Sl k w K A xs) (hk : Keep K w w') : Sl k w' K A xs :=
  (h.old.same (fun b hb => hk.block b hb.1 hb.2)).more (fun _ hb => hb.1)
theorem STo.of {w w' : World} {g : Nat} {K K' : Nat → Prop} {vR vM vF : Value} {D : WorldD} {s' : Ld.St} (h : SAt w' g K' vR vM vF D s') (hK : ∀ b, K b → K' b) (hk : Keep K w w') : STo w w' g K vR vM vF D s' := ⟨K', hK, h, hk⟩
theorem drop_eq {ts : List Str} {k : Nat} (h : k < ts.length) : ts.drop k = ts[k] :: ts.drop (k + 1) := List.drop_eq_getElem_cons h

set_option maxRecDepth 100000 in
set_option maxHeartbeats 2000000 in
theorem find_calls (w : World) (g : Nat) (K : Nat → Prop) (vR vM vF : Value) (D : WorldD) (s : Ld.St) (b : Nat) (h : SAt w g K vR vM vF D s) (hG : Ld.Good D s b) (hz : WSz D) (frm name : Str) (hf : frm.size ≤ 1048576) (hn : name.size ≤ 1048576) :
    Calls Tryd.prog 106 #[.pointer (some ⟨g, 0, none⟩), .string frm, .string name] w fun e w' => e = .returned (.tuple #[.string (Ld.find D frm name s).1, .int .i64 (Ld.find D frm name s).2.1]) ∧ STo w w' g K vR vM vF D (Ld.find D frm name s).2.2 := by
  have h0 := h
  obtain ⟨vc, vs, vr, vk, hh, hin⟩ := h0
  obtain ⟨A1, c1, hv, hc1, hd1, hR⟩ := hin.R
  subst hv
  have k0 : w.cell? ⟨g, 0, none⟩ = some (.slice A1 D.roots.length c1) := blk_cell hh.blk 0
  have hct := sTries_calls A1 c1 D.roots.length D.roots frm name K w hR rfl (by omega) hz.r (by omega) (by omega)
  have hfd : Ld.find D frm name s = if Nm.tries D.roots frm name = [] then (⟨#[]⟩, 1, s) else Ld.look D (Nm.tries D.roots frm name) s := rfl
  generalize Nm.tries D.roots frm name = ts at hct hfd
  generalize Ld.find D frm name s = res at hfd ⊢
  have HFD := hide hfd
  have HCT := hide hct
  have HG0 := hide hG
  clear hct hfd hh hin hR hG
  go_enter Tryd.func106, Tryd.ntmps106
  go_wp2_with fail
  refine (unhide HCT).mono ?_
  rintro e w1 ⟨v8, rfl, H8, hb1⟩
  obtain ⟨A8, c8, hv8, hc8, hd8, _⟩ := H8.slV
  subst hv8
  have hsl := H8.slIn (K := K)
  have hsat := h.fresh hb1
  have hk1 := Keep.of_below (K := K) hb1
  have hlm := mem_maxLen _ (show ts.length ≤ maxLen by omega)
  clear H8 hb1 HCT k0
  by_cases he : ts = []
  · have HQ := hide (HFD.out.trans (if_pos he))
    subst he
    go_wp2_with fail
    go_ret2
    rw [HQ.out]
    exact ⟨rfl, STo.of hsat (fun b hb => .inl hb) hk1⟩
  replace HFD := hide (HFD.out.trans (if_neg he))
  have hpos : 0 < ts.length := Nat.pos_of_ne_zero (fun e => he (List.eq_nil_of_length_eq_zero e))
  have hposI : (0 : Int) < ts.length := by omega
  have hb0 : ((ts.length : Int) == 0) = false := by simp; omega
  clear he
  go_wp2_with fail
  go_loopw [10, 11, 25] (fun _ _ i wr => ∃ (k : Nat) (s1 : Ld.St), i = .int .i64 k ∧ k ≤ ts.length ∧ Hid (Ld.look D ts s = Ld.look D (ts.drop k) s1) ∧ SAt wr g (fun b => K b ∨ (w.heap.size ≤ b ∧ b < w1.heap.size)) (.slice A1 D.roots.length c1) vM vF D s1 ∧ Keep (fun b => K b ∨ (w.heap.size ≤ b ∧ b < w1.heap.size)) w1 wr ∧ Hid (Ld.Good D s1 b)) (fun _ _ i _ => ts.length - (intOf i).toNat)
  case atStart => exact ⟨0, s, rfl, by omega, rfl, hsat, Keep.refl _ _, HG0⟩
  case round =>
    clear hsat
    obtain ⟨k, s1, rfl, hk, HL, hsat, hkp, HG⟩ := hrel
    have hkk := hk1.then hkp (fun b hb => .inl hb)
    by_cases hlt : k < ts.length
    · obtain ⟨ad, hA, hc⟩ := (hsl.keep hkp).get hlt
      subst hA
      have e0 : wr.cell? (ad.add k) = some (.string ts[k]) := by simpa [kStr] using hc.2
      have hdr := drop_eq hlt
      clear hc
      generalize ts[k] = n at e0 hdr
      have HL2 := hide (HL.out.trans (by rw [hdr]))
      have hsat' := hsat
      obtain ⟨vc, vs, vr, vk, hh, hin⟩ := hsat'
      obtain ⟨A5, c5, hv5, hc5, hd5, hs5⟩ := hh.states.slV
      subst hv5
      have k5 : wr.cell? ⟨g, 5, none⟩ = some (.slice A5 s1.states.length c5) := blk_cell hh.blk 5
      have k6 : wr.cell? ⟨g, 6, none⟩ = some (.int .i64 s1.reads) := blk_cell hh.blk 6
      have hcs := state_calls g A5 c5 s1.states.length s1.states n _ wr k5 hs5 rfl (by omega)
      clear hdr hh hin hs5
      cases hst : Ld.stAt s1.states n with
      | some i =>
        rw [hst] at hcs
        replace hcs : Calls Tryd.prog 107 #[.pointer (some ⟨g, 0, none⟩), .string n] wr fun e w' => e = .returned (.int .i64 (i : Int)) ∧ Below wr.heap.size wr w' := hcs
        have HCS := hide hcs
        have HQ := hide (show Ld.look D ts s = (n, 0, s1) by rw [HL2.out]; unfold Ld.look; rw [hst]; rfl)
        clear hcs hst k5 k6
        go_wp2_with fail
        refine (unhide HCS).mono ?_
        rintro e w2 ⟨rfl, hb2⟩
        go_wp2_with fail
        go_ret2
        rw [HFD.out, HQ.out]
        exact ⟨rfl, STo.of (hsat.below hb2) (fun b hb => .inl hb) (hkk.then (Keep.of_below hb2) (fun b hb => hb))⟩
      | none =>
        rw [hst] at hcs
        replace hcs : Calls Tryd.prog 107 #[.pointer (some ⟨g, 0, none⟩), .string n] wr fun e w' => e = .returned (.int .i64 (-1)) ∧ Below wr.heap.size wr w' := hcs
        have HCS := hide hcs
        have hre := HG.out.reads
        have hrr := HG.out.room
        by_cases h400 : s1.reads = 400
        · have HQ := hide (show Ld.look D ts s = (⟨#[]⟩, 3, s1) by rw [HL2.out]; unfold Ld.look; rw [hst, if_neg (by simp), if_pos h400])
          have e4 : ((s1.reads : Int) == 400) = true := by simp; omega
          clear hcs hst k5 h400
          go_wp2_with fail
          refine (unhide HCS).mono ?_
          rintro e w2 ⟨rfl, hb2⟩
          have q6 : w2.cell? ⟨g, 6, none⟩ = some (.int .i64 s1.reads) := (hb2.cell (p := ⟨g, 6, none⟩) (World.block_lt_of_cell? _ _ k6)).trans k6
          go_wp2_with fail
          go_ret2
          rw [HFD.out, HQ.out]
          exact ⟨rfl, STo.of (hsat.below hb2) (fun b hb => .inl hb) (hkk.then (Keep.of_below hb2) (fun b hb => hb))⟩
        · have hlc := Ld.look_cons D n (ts.drop (k + 1)) s1 hst h400
          have HGN := hide (HG.out.readNote h400 ⟨1, n, Ld.rcode D s1 n, 0⟩)
          have e4 : ((s1.reads : Int) == 400) = false := by simp; omega
          have HLC := hide (HL2.out.trans hlc)
          have hrd := fun (w' : World) (hsa : SAt w' g (fun b => K b ∨ (w.heap.size ≤ b ∧ b < w1.heap.size)) (.slice A1 D.roots.length c1) vM vF D s1) => read_calls w' g _ _ vM vF D s1 hsa n (by omega) hre
          have hrcs : Ld.rcode D s1 n = 3 ∨ Ld.rcode D s1 n = 0 ∨ Ld.rcode D s1 n = 2 := by
            unfold Ld.rcode
            split
            · exact .inl rfl
            · split
              · exact .inr (.inl rfl)
              · exact .inr (.inr rfl)
          generalize Ld.rcode D s1 n = rc at HLC HGN hrd hrcs
          have HRD := hide hrd
          clear hcs hst k5 h400 hlc hrd hre hrr
          rcases hrcs with rfl | rfl | rfl
          · go_wp2_with fail
            refine (unhide HCS).mono ?_
            rintro e w2 ⟨rfl, hb2⟩
            have q6 : w2.cell? ⟨g, 6, none⟩ = some (.int .i64 s1.reads) := (hb2.cell (p := ⟨g, 6, none⟩) (World.block_lt_of_cell? _ _ k6)).trans k6
            have hsat2 := hsat.below hb2
            have hkk2 := hkk.then (Keep.of_below (K := K) hb2) (fun b hb => hb)
            clear hb2
            go_wp2_with fail
            refine (HRD.out w2 hsat2).mono ?_
            rintro e w3 ⟨rfl, hs3, hk3⟩
            go_wp2_with fail
            go_ret2
            rw [HFD.out, HLC.out]
            exact ⟨rfl, STo.of hs3 (fun b hb => .inl hb) (hkk2.then hk3 (fun b hb => .inl hb))⟩
          · go_wp2_with fail
            refine (unhide HCS).mono ?_
            rintro e w2 ⟨rfl, hb2⟩
            have q6 : w2.cell? ⟨g, 6, none⟩ = some (.int .i64 s1.reads) := (hb2.cell (p := ⟨g, 6, none⟩) (World.block_lt_of_cell? _ _ k6)).trans k6
            have hsat2 := hsat.below hb2
            have hkk2 := hkk.then (Keep.of_below (K := K) hb2) (fun b hb => hb)
            clear hb2
            go_wp2_with fail
            refine (HRD.out w2 hsat2).mono ?_
            rintro e w3 ⟨rfl, hs3, hk3⟩
            go_wp2_with fail
            go_ret2
            rw [HFD.out, HLC.out]
            exact ⟨rfl, STo.of hs3 (fun b hb => .inl hb) (hkk2.then hk3 (fun b hb => .inl hb))⟩
          · go_wp2_with fail
            refine (unhide HCS).mono ?_
            rintro e w2 ⟨rfl, hb2⟩
            have q6 : w2.cell? ⟨g, 6, none⟩ = some (.int .i64 s1.reads) := (hb2.cell (p := ⟨g, 6, none⟩) (World.block_lt_of_cell? _ _ k6)).trans k6
            have hsat2 := hsat.below hb2
            have hkp2 := hkp.then (Keep.of_below (K := fun b => K b ∨ (w.heap.size ≤ b ∧ b < w1.heap.size)) hb2) (fun b hb => hb)
            clear hb2
            go_wp2_with fail
            refine (HRD.out w2 hsat2).mono ?_
            rintro e w3 ⟨rfl, hs3, hk3⟩
            have hkp3 := hkp2.then hk3 (fun b hb => hb)
            go_wp2_with fail
            go_roundw
            case rel => exact ⟨k + 1, _, by go_num, by omega, hide (HLC.out.trans (by rw [if_neg (by decide), if_neg (by decide)])), hs3, hkp3, HGN⟩
            case measure => simp [intOf]; omega
    · obtain rfl : k = ts.length := by omega
      have HQ := hide (show Ld.look D ts s = (⟨#[]⟩, 2, s1) by rw [HL.out, List.drop_length]; rfl)
      go_wp2_with fail
      go_ret2
      rw [HFD.out, HQ.out]
      exact ⟨rfl, STo.of hsat (fun b hb => .inl hb) hkk⟩
end Go.Proofs.YtkhlicmlnjccdaaDoor
