/-
Walks: the reference's machine: a reading, the search through the tries.
Walks: the reference's machine: the search through the tries; what is loaded; a ring.
Walks: the reference's machine: what is loaded; a ring.
Walks: the reference's machine: a ring is told.
Walks: the reference's machine: an import, given what a body does.
-/
import Derived.Test.YtkhlicmlnjccdaaGreatDoorKt20
import Derived.Test.YtkhlicmlnjccdaaGreatDoorKt23
import Derived.WalkSmall
namespace Go.Proofs.YtkhlicmlnjccdaaGreatDoor
open Go.RowKit Mem

namespace Ld
def hit (fs : List Int) (n : Int) : Bool := fs.any fun f => decide (f = n)
theorem hit_snoc (fs : List Int) (n : Int) (k : Nat) (hk : k < fs.length) : hit (fs.take (k + 1)) n = (hit (fs.take k) n || decide (fs[k] = n)) := by
  unfold hit
  rw [List.take_succ_eq_append_getElem hk, List.any_append]; simp
theorem hit_mem (fs : List Int) (n : Int) : hit fs n = true ↔ n ∈ fs := by
  unfold hit
  rw [List.any_eq_true]
  constructor
  · rintro ⟨x, hx, h⟩
    have : x = n := by simpa using h
    exact this ▸ hx
  · exact fun h => ⟨n, h, by simp⟩
def rcode (D : WorldD) (s : St) (n : Str) : Int := if (s.reads : Int) ∈ D.faults then 3 else if (modAt D.mods n).isSome = true then 0 else 2
theorem look_cons (D : WorldD) (n : Str) (r : List Str) (s : St) (h1 : stAt s.states n = none) (h2 : s.reads ≠ 400) : look D (n :: r) s =
    if rcode D s n = 3 then (n, 3, s.read.note ⟨1, n, rcode D s n, 0⟩) else if rcode D s n = 0 then (n, 0, s.read.note ⟨1, n, rcode D s n, 0⟩) else look D r (s.read.note ⟨1, n, rcode D s n, 0⟩) := by
  conv => lhs; unfold look
  rw [h1, if_neg (by simp), if_neg h2]
  unfold rcode
  by_cases h3 : (s.reads : Int) ∈ D.faults
  · rw [if_pos h3]; simp [h3]
  · rw [if_neg h3]
    by_cases h4 : (modAt D.mods n).isSome = true
    · rw [if_pos h4]; simp [h3, h4]
    · rw [if_neg h4]; simp [h3, h4]
end Ld

set_option maxRecDepth 100000 in
set_option maxHeartbeats 2000000 in
theorem read_calls (w : World) (g : Nat) (K : Nat → Prop) (vR vM vF : Value) (D : WorldD) (s : Ld.St) (h : SAt w g K vR vM vF D s) (nm : Str) (hr : s.recs.length ≤ 9000) (hs : s.reads ≤ 400) :
    Calls Tryz.prog 92 #[.pointer (some ⟨g, 0, none⟩), .string nm] w fun e w' => e = .returned (.int .i64 (Ld.rcode D s nm)) ∧ SAt w' g K vR vM vF D (s.read.note ⟨1, nm, Ld.rcode D s nm, 0⟩) ∧ Keep K w w' := by
  obtain ⟨vc, vs, vr, vk, hh, hin⟩ := h
  have hin0 := hin
  obtain ⟨⟨A1, c1, rfl, _, _, hR⟩, ⟨A2, c2, rfl, hc2, hd2, hM⟩, ⟨A3, c3, rfl, hc3, hd3, hF⟩⟩ := hin
  have k6 : w.cell? ⟨g, 6, none⟩ = some (.int .i64 s.reads) := blk_cell hh.blk 6
  have f6 := blk_free hh.blk 6
  have hst := hh.set 6 (.int .i64 ((s.reads : Int) + 1))
  have HH1 := hide hst.1
  have HK1 := hide hst.2
  have k0 : (w.setCell ⟨g, 6, none⟩ (.int .i64 ((s.reads : Int) + 1))).cell? ⟨g, 0, none⟩ = some (.slice A1 D.roots.length c1) := blk_cell hst.1.blk 0
  have k1 : (w.setCell ⟨g, 6, none⟩ (.int .i64 ((s.reads : Int) + 1))).cell? ⟨g, 1, none⟩ = some (.slice A2 D.mods.length c2) := blk_cell hst.1.blk 1
  have k2 : (w.setCell ⟨g, 6, none⟩ (.int .i64 ((s.reads : Int) + 1))).cell? ⟨g, 2, none⟩ = some (.slice A3 D.faults.length c3) := blk_cell hst.1.blk 2
  have hin1 := hin0.same (hst.2.same (fun b hb => hb) hh.KS)
  have hin2 := hin1
  obtain ⟨⟨_, _, _, _, _, _⟩, ⟨B2, d2, hv2, _, _, gM⟩, ⟨B3, d3, hv3, _, _, gF⟩⟩ := hin1
  injection hv2 with hv2 _ hv2'
  injection hv3 with hv3 _ hv3'
  subst hv2 hv2' hv3 hv3'
  clear hst hin0 hM hF hR
  go_enter Tryz.func92, Tryz.ntmps92
  go_wp2_with fail
  generalize hW : w.setCell ⟨g, 6, none⟩ (.int .i64 ((s.reads : Int) + 1)) = W1 at HH1 HK1 k0 k1 k2 gM gF hin2 ⊢
  clear hW k6 f6
  have hsat : SAt W1 g K (.slice A1 D.roots.length c1) (.slice A2 D.mods.length c2) (.slice A3 D.faults.length c3) D s.read := SAtV.sat (vc := vc) (vs := vs) (vr := vr) (vk := vk) ⟨HH1.out, hin2⟩
  refine (l2find_calls _ _ A2 c2 D.mods.length D.mods nm K W1 gM rfl (by omega)).mono ?_
  rintro e w2 ⟨rfl, hb2⟩
  have hsat2 := hsat.below hb2
  have hk2 := HK1.out.then (Keep.of_below (K := K) hb2) (fun b hb => hb)
  have q2 : w2.cell? ⟨g, 2, none⟩ = some (.slice A3 D.faults.length c3) := (hb2.cell (p := ⟨g, 2, none⟩) (World.block_lt_of_cell? _ _ k2)).trans k2
  have hF2 := gF.below hb2
  clear k0 k1 k2 hb2 HH1 HK1 hsat gM gF hin2 hh
  have hcb : ∃ c0 : Int, (idxI (Ld.modAt D.mods nm) < 0 ∧ c0 = 2 ∨ 0 ≤ idxI (Ld.modAt D.mods nm) ∧ c0 = 0) ∧ c0 = (if (Ld.modAt D.mods nm).isSome = true then 0 else 2) := by
    cases hmo : Ld.modAt D.mods nm with
    | none => exact ⟨2, .inl ⟨by simp [idxI], rfl⟩, rfl⟩
    | some i => exact ⟨0, .inr ⟨by simp [idxI], rfl⟩, rfl⟩
  obtain ⟨c0, hcs, hc0⟩ := hcb
  have HC0 := hide hc0
  generalize idxI (Ld.modAt D.mods nm) = ix at hcs ⊢
  have hd3' := mem_maxLen _ (show D.faults.length ≤ maxLen by omega)
  clear hc0
  rcases hcs with ⟨hix, rfl⟩ | ⟨hix, rfl⟩
  · go_wp2_with fail
    go_loop [6, 8, 36] (fun c _ i => ∃ k : Nat, i = .int .i64 k ∧ k ≤ D.faults.length ∧ c = .int .i64 (if Ld.hit (D.faults.take k) s.reads = true then 3 else 2)) (fun _ _ i => D.faults.length - (intOf i).toNat)
    case atStart => exact ⟨0, rfl, by omega, by simp [Ld.hit]⟩
    case round =>
      obtain ⟨k, rfl, hk, rfl⟩ := hrel
      by_cases hlt : k < D.faults.length
      · obtain ⟨ad, hA, l0⟩ := hF2.get hlt
        subst hA
        have e0 : w2.cell? (ad.add k) = some (.int .i64 D.faults[k]) := by simpa [kInt] using l0.2
        have hsn := Ld.hit_snoc D.faults s.reads k hlt
        clear l0
        generalize D.faults[k] = f at e0 hsn
        by_cases hf : f = s.reads
        · have e1 : (f == (s.reads : Int)) = true := by simpa using hf
          rw [decide_eq_true hf, Bool.or_true] at hsn
          have HSN := hide hsn
          clear hsn hf
          go_wp2_with fail
          go_round
          case rel => exact ⟨k + 1, by go_num, by omega, by rw [HSN.out]; rfl⟩
          case measure => simp [intOf]; omega
        · have e1 : (f == (s.reads : Int)) = false := by simpa using hf
          rw [decide_eq_false hf, Bool.or_false] at hsn
          have HSN := hide hsn
          clear hsn hf
          go_wp2_with fail
          go_round
          case rel => exact ⟨k + 1, by go_num, by omega, by rw [HSN.out]⟩
          case measure => simp [intOf]; omega
      · obtain rfl : k = D.faults.length := by omega
        rw [List.take_length]
        have hrc : (if Ld.hit D.faults s.reads = true then (3 : Int) else 2) = Ld.rcode D s nm := by
          unfold Ld.rcode
          by_cases hm : (s.reads : Int) ∈ D.faults
          · rw [if_pos hm, if_pos ((Ld.hit_mem _ _).2 hm)]
          · rw [if_neg hm, if_neg (fun e => hm ((Ld.hit_mem _ _).1 e))]; exact HC0.out
        rw [hrc]
        go_wp2_with fail
        refine (rec_calls w2 g K _ _ _ D s.read hsat2 1 (Ld.rcode D s nm) 0 nm hr).mono ?_
        rintro e w3 ⟨rfl, hs3, hk3⟩
        go_wp2_with fail
        go_ret
        exact ⟨rfl, hs3, hk2.then hk3 (fun b hb => hb)⟩
  · go_wp2_with fail
    go_loop [6, 8, 36] (fun c _ i => ∃ k : Nat, i = .int .i64 k ∧ k ≤ D.faults.length ∧ c = .int .i64 (if Ld.hit (D.faults.take k) s.reads = true then 3 else 0)) (fun _ _ i => D.faults.length - (intOf i).toNat)
    case atStart => exact ⟨0, rfl, by omega, by simp [Ld.hit]⟩
    case round =>
      obtain ⟨k, rfl, hk, rfl⟩ := hrel
      by_cases hlt : k < D.faults.length
      · obtain ⟨ad, hA, l0⟩ := hF2.get hlt
        subst hA
        have e0 : w2.cell? (ad.add k) = some (.int .i64 D.faults[k]) := by simpa [kInt] using l0.2
        have hsn := Ld.hit_snoc D.faults s.reads k hlt
        clear l0
        generalize D.faults[k] = f at e0 hsn
        by_cases hf : f = s.reads
        · have e1 : (f == (s.reads : Int)) = true := by simpa using hf
          rw [decide_eq_true hf, Bool.or_true] at hsn
          have HSN := hide hsn
          clear hsn hf
          go_wp2_with fail
          go_round
          case rel => exact ⟨k + 1, by go_num, by omega, by rw [HSN.out]; rfl⟩
          case measure => simp [intOf]; omega
        · have e1 : (f == (s.reads : Int)) = false := by simpa using hf
          rw [decide_eq_false hf, Bool.or_false] at hsn
          have HSN := hide hsn
          clear hsn hf
          go_wp2_with fail
          go_round
          case rel => exact ⟨k + 1, by go_num, by omega, by rw [HSN.out]⟩
          case measure => simp [intOf]; omega
      · obtain rfl : k = D.faults.length := by omega
        rw [List.take_length]
        have hrc : (if Ld.hit D.faults s.reads = true then (3 : Int) else 0) = Ld.rcode D s nm := by
          unfold Ld.rcode
          by_cases hm : (s.reads : Int) ∈ D.faults
          · rw [if_pos hm, if_pos ((Ld.hit_mem _ _).2 hm)]
          · rw [if_neg hm, if_neg (fun e => hm ((Ld.hit_mem _ _).1 e))]; exact HC0.out
        rw [hrc]
        go_wp2_with fail
        refine (rec_calls w2 g K _ _ _ D s.read hsat2 1 (Ld.rcode D s nm) 0 nm hr).mono ?_
        rintro e w3 ⟨rfl, hs3, hk3⟩
        go_wp2_with fail
        go_ret
        exact ⟨rfl, hs3, hk2.then hk3 (fun b hb => hb)⟩
end Go.Proofs.YtkhlicmlnjccdaaGreatDoor

namespace Go.Proofs.YtkhlicmlnjccdaaGreatDoor
open Go.RowKit Mem

theorem Mem.Own.slIn {w w1 : World} {K : Nat → Prop} {t : TypeId} {A : Option Addr} {n c : Nat} {ts : List Str} (h : Own fStr w1 w.heap.size t (.slice A n c) ts) : Sl kStr w1 (fun b => K b ∨ (w.heap.size ≤ b ∧ b < w1.heap.size)) A ts :=
  (h.sl.old).more (fun _ hb => .inr hb)
theorem Mem.Sl.keep {α : Type} {k : Kind α} {w w' : World} {K : Nat → Prop} {A : Option Addr} {xs : List α} (h : Sl k w K A xs) (hk : Keep K w w') : Sl k w' K A xs :=
  (h.old.same (fun b hb => hk.block b hb.1 hb.2)).more (fun _ hb => hb.1)
theorem STo.of {w w' : World} {g : Nat} {K K' : Nat → Prop} {vR vM vF : Value} {D : WorldD} {s' : Ld.St} (h : SAt w' g K' vR vM vF D s') (hK : ∀ b, K b → K' b) (hk : Keep K w w') : STo w w' g K vR vM vF D s' := ⟨K', hK, h, hk⟩
theorem drop_eq {ts : List Str} {k : Nat} (h : k < ts.length) : ts.drop k = ts[k] :: ts.drop (k + 1) := List.drop_eq_getElem_cons h

set_option maxRecDepth 100000 in
set_option maxHeartbeats 2000000 in
theorem find_calls (w : World) (g : Nat) (K : Nat → Prop) (vR vM vF : Value) (D : WorldD) (s : Ld.St) (b : Nat) (h : SAt w g K vR vM vF D s) (hG : Ld.Good D s b) (hz : WSz D) (frm name : Str) (hf : frm.size ≤ 1048576) (hn : name.size ≤ 1048576) :
    Calls Tryz.prog 67 #[.pointer (some ⟨g, 0, none⟩), .string frm, .string name] w fun e w' => e = .returned (.tuple #[.string (Ld.find D frm name s).1, .int .i64 (Ld.find D frm name s).2.1]) ∧ STo w w' g K vR vM vF D (Ld.find D frm name s).2.2 := by
  have h0 := h
  obtain ⟨vc, vs, vr, vk, hh, hin⟩ := h0
  obtain ⟨A1, c1, hv, hc1, hd1, hR⟩ := hin.R
  subst hv
  have k0 : w.cell? ⟨g, 0, none⟩ = some (.slice A1 D.roots.length c1) := blk_cell hh.blk 0
  have hct := sTries_calls A1 c1 D.roots.length D.roots frm name K w hR rfl (by omega) hz.r (by omega) (by omega)
  have hfd : Ld.find D frm name s = if Nm.tries D.roots frm name = [] then (⟨#[]⟩, 1, s) else Ld.look D (Nm.tries D.roots frm name) s := rfl
  generalize Nm.tries D.roots frm name = ts at hct hfd
  generalize Ld.find D frm name s = res at hfd ⊢
  have HFD := hide hfd
  have HCT := hide hct
  have HG0 := hide hG
  clear hct hfd hh hin hR hG
  go_enter Tryz.func67, Tryz.ntmps67
  go_wp2_with fail
  refine (unhide HCT).mono ?_
  rintro e w1 ⟨v8, rfl, H8, hb1⟩
  obtain ⟨A8, c8, hv8, hc8, hd8, _⟩ := H8.slV
  subst hv8
  have hsl := H8.slIn (K := K)
  have hsat := h.fresh hb1
  have hk1 := Keep.of_below (K := K) hb1
  have hlm := mem_maxLen _ (show ts.length ≤ maxLen by omega)
  clear H8 hb1 HCT k0
  by_cases he : ts = []
  · have HQ := hide (HFD.out.trans (if_pos he))
    subst he
    go_wp2_with fail
    go_ret2
    rw [HQ.out]
    exact ⟨rfl, STo.of hsat (fun b hb => .inl hb) hk1⟩
  replace HFD := hide (HFD.out.trans (if_neg he))
  have hpos : 0 < ts.length := Nat.pos_of_ne_zero (fun e => he (List.eq_nil_of_length_eq_zero e))
  have hposI : (0 : Int) < ts.length := by omega
  have hb0 : ((ts.length : Int) == 0) = false := by simp; omega
  clear he
  go_wp2_with fail
  go_loopw [10, 11, 25] (fun _ _ i wr => ∃ (k : Nat) (s1 : Ld.St), i = .int .i64 k ∧ k ≤ ts.length ∧ Hid (Ld.look D ts s = Ld.look D (ts.drop k) s1) ∧ SAt wr g (fun b => K b ∨ (w.heap.size ≤ b ∧ b < w1.heap.size)) (.slice A1 D.roots.length c1) vM vF D s1 ∧ Keep (fun b => K b ∨ (w.heap.size ≤ b ∧ b < w1.heap.size)) w1 wr ∧ Hid (Ld.Good D s1 b)) (fun _ _ i _ => ts.length - (intOf i).toNat)
  case atStart => exact ⟨0, s, rfl, by omega, rfl, hsat, Keep.refl _ _, HG0⟩
  case round =>
    clear hsat
    obtain ⟨k, s1, rfl, hk, HL, hsat, hkp, HG⟩ := hrel
    have hkk := hk1.then hkp (fun b hb => .inl hb)
    by_cases hlt : k < ts.length
    · obtain ⟨ad, hA, hc⟩ := (hsl.keep hkp).get hlt
      subst hA
      have e0 : wr.cell? (ad.add k) = some (.string ts[k]) := by simpa [kStr] using hc.2
      have hdr := drop_eq hlt
      clear hc
      generalize ts[k] = n at e0 hdr
      have HL2 := hide (HL.out.trans (by rw [hdr]))
      have hsat' := hsat
      obtain ⟨vc, vs, vr, vk, hh, hin⟩ := hsat'
      obtain ⟨A5, c5, hv5, hc5, hd5, hs5⟩ := hh.states.slV
      subst hv5
      have k5 : wr.cell? ⟨g, 5, none⟩ = some (.slice A5 s1.states.length c5) := blk_cell hh.blk 5
      have k6 : wr.cell? ⟨g, 6, none⟩ = some (.int .i64 s1.reads) := blk_cell hh.blk 6
      have hcs := state_calls g A5 c5 s1.states.length s1.states n _ wr k5 hs5 rfl (by omega)
      clear hdr hh hin hs5
      cases hst : Ld.stAt s1.states n with
      | some i =>
        rw [hst] at hcs
        replace hcs : Calls Tryz.prog 68 #[.pointer (some ⟨g, 0, none⟩), .string n] wr fun e w' => e = .returned (.int .i64 (i : Int)) ∧ Below wr.heap.size wr w' := hcs
        have HCS := hide hcs
        have HQ := hide (show Ld.look D ts s = (n, 0, s1) by rw [HL2.out]; unfold Ld.look; rw [hst]; rfl)
        clear hcs hst k5 k6
        go_wp2_with fail
        refine (unhide HCS).mono ?_
        rintro e w2 ⟨rfl, hb2⟩
        go_wp2_with fail
        go_ret2
        rw [HFD.out, HQ.out]
        exact ⟨rfl, STo.of (hsat.below hb2) (fun b hb => .inl hb) (hkk.then (Keep.of_below hb2) (fun b hb => hb))⟩
      | none =>
        rw [hst] at hcs
        replace hcs : Calls Tryz.prog 68 #[.pointer (some ⟨g, 0, none⟩), .string n] wr fun e w' => e = .returned (.int .i64 (-1)) ∧ Below wr.heap.size wr w' := hcs
        have HCS := hide hcs
        have hre := HG.out.reads
        have hrr := HG.out.room
        by_cases h400 : s1.reads = 400
        · have HQ := hide (show Ld.look D ts s = (⟨#[]⟩, 3, s1) by rw [HL2.out]; unfold Ld.look; rw [hst, if_neg (by simp), if_pos h400])
          have e4 : ((s1.reads : Int) == 400) = true := by simp; omega
          clear hcs hst k5 h400
          go_wp2_with fail
          refine (unhide HCS).mono ?_
          rintro e w2 ⟨rfl, hb2⟩
          have q6 : w2.cell? ⟨g, 6, none⟩ = some (.int .i64 s1.reads) := (hb2.cell (p := ⟨g, 6, none⟩) (World.block_lt_of_cell? _ _ k6)).trans k6
          go_wp2_with fail
          go_ret2
          rw [HFD.out, HQ.out]
          exact ⟨rfl, STo.of (hsat.below hb2) (fun b hb => .inl hb) (hkk.then (Keep.of_below hb2) (fun b hb => hb))⟩
        · have hlc := Ld.look_cons D n (ts.drop (k + 1)) s1 hst h400
          have HGN := hide (HG.out.readNote h400 ⟨1, n, Ld.rcode D s1 n, 0⟩)
          have e4 : ((s1.reads : Int) == 400) = false := by simp; omega
          have HLC := hide (HL2.out.trans hlc)
          have hrd := fun (w' : World) (hsa : SAt w' g (fun b => K b ∨ (w.heap.size ≤ b ∧ b < w1.heap.size)) (.slice A1 D.roots.length c1) vM vF D s1) => read_calls w' g _ _ vM vF D s1 hsa n (by omega) hre
          have hrcs : Ld.rcode D s1 n = 3 ∨ Ld.rcode D s1 n = 0 ∨ Ld.rcode D s1 n = 2 := by
            unfold Ld.rcode
            split
            · exact .inl rfl
            · split
              · exact .inr (.inl rfl)
              · exact .inr (.inr rfl)
          generalize Ld.rcode D s1 n = rc at HLC HGN hrd hrcs
          have HRD := hide hrd
          clear hcs hst k5 h400 hlc hrd hre hrr
          rcases hrcs with rfl | rfl | rfl
          · go_wp2_with fail
            refine (unhide HCS).mono ?_
            rintro e w2 ⟨rfl, hb2⟩
            have q6 : w2.cell? ⟨g, 6, none⟩ = some (.int .i64 s1.reads) := (hb2.cell (p := ⟨g, 6, none⟩) (World.block_lt_of_cell? _ _ k6)).trans k6
            have hsat2 := hsat.below hb2
            have hkk2 := hkk.then (Keep.of_below (K := K) hb2) (fun b hb => hb)
            clear hb2
            go_wp2_with fail
            refine (HRD.out w2 hsat2).mono ?_
            rintro e w3 ⟨rfl, hs3, hk3⟩
            go_wp2_with fail
            go_ret2
            rw [HFD.out, HLC.out]
            exact ⟨rfl, STo.of hs3 (fun b hb => .inl hb) (hkk2.then hk3 (fun b hb => .inl hb))⟩
          · go_wp2_with fail
            refine (unhide HCS).mono ?_
            rintro e w2 ⟨rfl, hb2⟩
            have q6 : w2.cell? ⟨g, 6, none⟩ = some (.int .i64 s1.reads) := (hb2.cell (p := ⟨g, 6, none⟩) (World.block_lt_of_cell? _ _ k6)).trans k6
            have hsat2 := hsat.below hb2
            have hkk2 := hkk.then (Keep.of_below (K := K) hb2) (fun b hb => hb)
            clear hb2
            go_wp2_with fail
            refine (HRD.out w2 hsat2).mono ?_
            rintro e w3 ⟨rfl, hs3, hk3⟩
            go_wp2_with fail
            go_ret2
            rw [HFD.out, HLC.out]
            exact ⟨rfl, STo.of hs3 (fun b hb => .inl hb) (hkk2.then hk3 (fun b hb => .inl hb))⟩
          · go_wp2_with fail
            refine (unhide HCS).mono ?_
            rintro e w2 ⟨rfl, hb2⟩
            have q6 : w2.cell? ⟨g, 6, none⟩ = some (.int .i64 s1.reads) := (hb2.cell (p := ⟨g, 6, none⟩) (World.block_lt_of_cell? _ _ k6)).trans k6
            have hsat2 := hsat.below hb2
            have hkp2 := hkp.then (Keep.of_below (K := fun b => K b ∨ (w.heap.size ≤ b ∧ b < w1.heap.size)) hb2) (fun b hb => hb)
            clear hb2
            go_wp2_with fail
            refine (HRD.out w2 hsat2).mono ?_
            rintro e w3 ⟨rfl, hs3, hk3⟩
            have hkp3 := hkp2.then hk3 (fun b hb => hb)
            go_wp2_with fail
            go_roundw
            case rel => exact ⟨k + 1, _, by go_num, by omega, hide (HLC.out.trans (by rw [if_neg (by decide), if_neg (by decide)])), hs3, hkp3, HGN⟩
            case measure => simp [intOf]; omega
    · obtain rfl : k = ts.length := by omega
      have HQ := hide (show Ld.look D ts s = (⟨#[]⟩, 2, s1) by rw [HL.out, List.drop_length]; rfl)
      go_wp2_with fail
      go_ret2
      rw [HFD.out, HQ.out]
      exact ⟨rfl, STo.of hsat (fun b hb => .inl hb) hkk⟩
end Go.Proofs.YtkhlicmlnjccdaaGreatDoor

namespace Go.Proofs.YtkhlicmlnjccdaaGreatDoor
open Go.RowKit Mem

def kname (r : Option (Str × Nat)) : Str := match r with
  | some x => x.1
  | none => ⟨#[]⟩

set_option maxRecDepth 100000 in
set_option maxHeartbeats 2000000 in
theorem known_calls (w : World) (g : Nat) (K : Nat → Prop) (vR vM vF : Value) (D : WorldD) (s : Ld.St) (h : SAt w g K vR vM vF D s) (hz : WSz D) (frm name : Str) (hf : frm.size ≤ 1048576) (hn : name.size ≤ 1048576) :
    Calls Tryz.prog 94 #[.pointer (some ⟨g, 0, none⟩), .string frm, .string name] w fun e w' => e = .returned (.tuple #[.string (kname (Ld.known D frm name s).1), .int .i64 (Ld.known D frm name s).2]) ∧ Below w.heap.size w w' := by
  obtain ⟨vc, vs, vr, vk, hh, hin⟩ := h
  obtain ⟨A1, c1, hv, hc1, hd1, hR⟩ := hin.R
  subst hv
  obtain ⟨A5, c5, hv5, hc5, hd5, hs5⟩ := hh.states.slV
  subst hv5
  have k0 : w.cell? ⟨g, 0, none⟩ = some (.slice A1 D.roots.length c1) := blk_cell hh.blk 0
  have k5 : w.cell? ⟨g, 5, none⟩ = some (.slice A5 s.states.length c5) := blk_cell hh.blk 5
  have hgl := hh.lt
  have hct := sTries_calls A1 c1 D.roots.length D.roots frm name K w hR rfl (by omega) hz.r (by omega) (by omega)
  have hfd : Ld.known D frm name s = Ld.knownIn s.states (Nm.tries D.roots frm name) := rfl
  generalize Nm.tries D.roots frm name = ts at hct hfd
  generalize Ld.known D frm name s = res at hfd ⊢
  have HFD := hide hfd
  have HCT := hide hct
  have hls := mem_maxLen _ (show s.states.length ≤ maxLen by omega)
  clear hct hfd hh hin hR
  go_enter Tryz.func94, Tryz.ntmps94
  go_wp2_with fail
  refine (unhide HCT).mono ?_
  rintro e w1 ⟨v8, rfl, H8, hb1⟩
  obtain ⟨A8, c8, hv8, hc8, hd8, hsl⟩ := H8.slV
  subst hv8
  have q5 : w1.cell? ⟨g, 5, none⟩ = some (.slice A5 s.states.length c5) := (hb1.cell (p := ⟨g, 5, none⟩) (World.block_lt_of_cell? _ _ k5)).trans k5
  have hs1 := hs5.below hb1
  have hlm := mem_maxLen _ (show ts.length ≤ maxLen by omega)
  clear H8 HCT k0 k5 hs5
  by_cases he : ts = []
  · subst he
    have HQ := hide (HFD.out.trans (Ld.knownIn_nil _))
    go_wp2_with fail
    go_ret2
    rw [HQ.out]
    exact ⟨rfl, hb1⟩
  have HNE := hide he
  have hpos : 0 < ts.length := Nat.pos_of_ne_zero (fun e => he (List.eq_nil_of_length_eq_zero e))
  have hposI : (0 : Int) < ts.length := by omega
  have hb0 : ((ts.length : Int) == 0) = false := by simp; omega
  clear he
  go_wp2_with fail
  go_loopw [10, 11, 25] (fun _ _ i wr => ∃ (k : Nat), i = .int .i64 k ∧ k ≤ ts.length ∧ Hid (Ld.knownOf s.states ts = Ld.knownOf s.states (ts.drop k)) ∧ Below w1.heap.size w1 wr) (fun _ _ i _ => ts.length - (intOf i).toNat)
  case atStart => exact ⟨0, rfl, by omega, rfl, Below.refl _ _⟩
  case round =>
    obtain ⟨k, rfl, hk, HL, HB⟩ := hrel
    have HBB := below_then hb1 hb1.size HB
    by_cases hlt : k < ts.length
    · obtain ⟨ad, hA, hc⟩ := (hsl.below HB).get hlt
      subst hA
      have e0 : wr.cell? (ad.add k) = some (.string ts[k]) := by simpa [fStr, kStr] using hc.2
      have hdr := drop_eq hlt
      clear hc
      generalize ts[k] = n at e0 hdr
      have HL2 := hide (HL.out.trans (by rw [hdr]))
      have r5 : wr.cell? ⟨g, 5, none⟩ = some (.slice A5 s.states.length c5) := (HB.cell (p := ⟨g, 5, none⟩) (World.block_lt_of_cell? _ _ q5)).trans q5
      have hcs := state_calls g A5 c5 s.states.length s.states n _ wr r5 (hs1.below HB) rfl (by omega)
      have hsr := hs1.below HB
      clear hdr
      cases hst : Ld.stAt s.states n with
      | none =>
        rw [hst] at hcs
        replace hcs : Calls Tryz.prog 68 #[.pointer (some ⟨g, 0, none⟩), .string n] wr fun e w' => e = .returned (.int .i64 (-1)) ∧ Below wr.heap.size wr w' := hcs
        have HCS := hide hcs
        have HN := hide (HL2.out.trans (show Ld.knownOf s.states (n :: ts.drop (k + 1)) = Ld.knownOf s.states (ts.drop (k + 1)) by conv => lhs; unfold Ld.knownOf; rw [hst]))
        clear hcs hst hsr r5
        go_wp2_with fail
        refine (unhide HCS).mono ?_
        rintro e w2 ⟨rfl, hb2⟩
        have HB2 := below_then HB HB.size hb2
        clear hb2
        go_wp2_with fail
        go_roundw
        case rel => exact ⟨k + 1, by go_num, by omega, HN, HB2⟩
        case measure => simp [intOf]; omega
      | some i =>
        rw [hst] at hcs
        replace hcs : Calls Tryz.prog 68 #[.pointer (some ⟨g, 0, none⟩), .string n] wr fun e w' => e = .returned (.int .i64 (i : Int)) ∧ Below wr.heap.size wr w' := hcs
        have HCS := hide hcs
        obtain ⟨t, hti, _⟩ := Ld.stAt_some hst
        have hil : i < s.states.length := by
          rcases Nat.lt_or_ge i s.states.length with h | h
          · exact h
          · rw [List.getElem?_eq_none h] at hti; simp at hti
        obtain ⟨bd, hA, _, l1, _⟩ := hsr.get hil
        subst hA
        have ht : s.states[i] = t := by rw [List.getElem?_eq_getElem hil] at hti; exact Option.some.inj hti
        rw [ht] at l1
        have e5 : wr.cell? ⟨(bd.add (i * 4)).block, (bd.add (i * 4)).off + 1, none⟩ = some (.int .i64 t.now) := by have := l1.2; rwa [add_pos _ _ (by omega)] at this
        have hilI : (i : Int) < s.states.length := by omega
        have hany : (s.states[i]?).any (fun t => decide (t.now = 2)) = decide (t.now = 2) := by rw [hti]; rfl
        by_cases hnow : t.now = 2
        · have e6 : (t.now == 2) = true := by simpa using hnow
          have HN := hide (HL2.out.trans (show Ld.knownOf s.states (n :: ts.drop (k + 1)) = some (n, i) by unfold Ld.knownOf; rw [hst]; simp only [hany, decide_eq_true hnow, if_true]))
          clear hcs hst l1 ht hti hnow hany
          go_wp2_with fail
          refine (unhide HCS).mono ?_
          rintro e w2 ⟨rfl, hb2⟩
          have HB2 := below_then HBB HBB.size hb2
          have y5 : w2.cell? ⟨g, 5, none⟩ = some (.slice (some bd) s.states.length c5) := (hb2.cell (p := ⟨g, 5, none⟩) (World.block_lt_of_cell? _ _ r5)).trans r5
          have y6 : w2.cell? ⟨(bd.add (i * 4)).block, (bd.add (i * 4)).off + 1, none⟩ = some (.int .i64 t.now) := (hb2.cell (World.block_lt_of_cell? _ _ e5)).trans e5
          clear hb2 e5 r5
          go_wp2_with fail
          go_ret2
          rw [HFD.out, Ld.knownIn_some HNE.out HN.out]
          exact ⟨rfl, HB2⟩
        · have e6 : (t.now == 2) = false := by simpa using hnow
          have HN := hide (HL2.out.trans (show Ld.knownOf s.states (n :: ts.drop (k + 1)) = Ld.knownOf s.states (ts.drop (k + 1)) by conv => lhs; unfold Ld.knownOf; rw [hst]; simp only [hany, decide_eq_false hnow]; simp))
          clear hcs hst l1 ht hti hnow hany
          go_wp2_with fail
          refine (unhide HCS).mono ?_
          rintro e w2 ⟨rfl, hb2⟩
          have HB2 := below_then HB HB.size hb2
          have y5 : w2.cell? ⟨g, 5, none⟩ = some (.slice (some bd) s.states.length c5) := (hb2.cell (p := ⟨g, 5, none⟩) (World.block_lt_of_cell? _ _ r5)).trans r5
          have y6 : w2.cell? ⟨(bd.add (i * 4)).block, (bd.add (i * 4)).off + 1, none⟩ = some (.int .i64 t.now) := (hb2.cell (World.block_lt_of_cell? _ _ e5)).trans e5
          clear hb2 e5 r5
          go_wp2_with fail
          go_roundw
          case rel => exact ⟨k + 1, by go_num, by omega, HN, HB2⟩
          case measure => simp [intOf]; omega
    · obtain rfl : k = ts.length := by omega
      have HQ := hide (show Ld.knownOf s.states ts = none by rw [HL.out, List.drop_length]; rfl)
      go_wp2_with fail
      go_ret2
      rw [HFD.out, Ld.knownIn_none HNE.out HQ.out]
      exact ⟨rfl, HBB⟩
end Go.Proofs.YtkhlicmlnjccdaaGreatDoor

namespace Go.Proofs.YtkhlicmlnjccdaaGreatDoor
open Go.RowKit Mem

namespace Mem
section
variable {P : Program} {ops : Array Oper} {rest : List Oper} {o : Oper} {a : Act} {Q : Exit → Act → World → Prop}
/-- append of one value of one cell -/
theorem append_val {W : World} (hgd : o.guard = none) (s x : Operand) (t e : TypeId) (z : Value) (bytes : Nat)
    (ho : o.op = .call { callee := .builtin .append, args := #[s, x], argTypes := #[t, t] })
    (ht : P.underlying t = some (.slice e)) (hinfo : (P.info? e).map (fun i => (i.zero, i.size, i.bytes)) = some (some z, 1, bytes)) (hz : z.cells.size = 1) (hb0 : 0 < bytes)
    (v : Value) (n : Nat) (hs : List Value) (u : Value) (hu : u.oneCell' = true) (hsv : a.eval s = v) (g : Nat) (hg : W.heap.size = g) (hx : a.eval x = .slice (some ⟨g, 0, none⟩) 1 1)
    (HO : W.ownsRow 0 e 1 v n hs) (hl : (n + 1) * bytes ≤ 140737488355328)
    (h : ∀ v1 w1, w1.ownsRow 0 e 1 v1 (n + 1) (hs ++ [u]) → W.grownBy w1 v.ownBlock → (v1.ownBlock = v.ownBlock ∨ ∃ b, v1.ownBlock = some b ∧ W.heap.size ≤ b) → wpList P ops Q rest (a.put o.dst v1) w1) :
    wpList P ops Q (o :: rest) a (W.alloc (.cells #[u] e)) := by
  subst hg
  obtain ⟨i0, hi, hzz⟩ := Option.map_eq_some_iff.1 hinfo
  simp only [Prod.mk.injEq] at hzz
  obtain ⟨hz0, hz1, hz2⟩ := hzz
  have hlen : n + 1 ≤ 140737488355328 := Nat.le_trans (Nat.le_mul_of_pos_right _ hb0) hl
  refine wpList_append_own_at (W.alloc (.cells #[u] e)) hgd s x t ho 0 e i0 z 1 bytes ht hi hz0 hz1 hz2 hz (by omega) v n hs hsv (World.ownsRow.alloc HO _) ⟨W.heap.size, 0, none⟩ 1 1 [u] hx rfl
    (World.news_of_block (cs := #[u]) (t := e) (fr := (0, 0)) (heap_alloc_new W _)) (by intro y hy; rw [List.mem_singleton] at hy; rw [hy]; exact hu) (by simp only [maxLen]; omega) hl (by simp) ?_
  intro v1 w1 hown hg _ hat
  refine h v1 w1 hown (World.grownBy.trans (World.grownBy_alloc W _ _) hg) ?_
  rcases hat with hat | hat
  · exact .inl hat
  · exact .inr ⟨_, hat, by simp⟩
end
theorem row_form {w : World} {base sz n : Nat} {e : TypeId} {v : Value} {cs : List Value} (h : w.ownsRow base e sz v n cs) : ∃ A c, v = .slice A n c := by
  rcases h.2 with ⟨e, e0⟩ | ⟨g', cap, cur, e, _⟩
  · exact ⟨none, 0, by rw [e, e0]⟩
  · exact ⟨_, cap, e⟩
theorem OwnR.snoc {w w' : World} {B : Nat} {K : Nat → Prop} {v v1 : Value} {rings : List (List Str)} {hs : List Value} {u : Value} {out : List Str} (h2 : ∀ (i : Nat) (x : List Str), rings[i]? = some x → ∃ h, hs[i]? = some h ∧ Own fStr w B 9 h x ∧ ∀ b, h.ownBlock = some b → K b) (h3 : ∀ (i j : Nat) (h h' : Value) (b : Nat), hs[i]? = some h → hs[j]? = some h' → h.ownBlock = some b → h'.ownBlock = some b → i = j) (hl : hs.length = rings.length)
    (hg : w.grownBy w' v.ownBlock) (hr : ∀ b, v.ownBlock = some b → ¬ K b) (hown : w'.ownsRow 0 23 1 v1 (rings.length + 1) (hs ++ [u])) (hu : Own fStr w B 9 u out) (huK : ∀ b, u.ownBlock = some b → K b) (hun : ∀ (i : Nat) (h : Value) (b : Nat), hs[i]? = some h → h.ownBlock = some b → u.ownBlock ≠ some b) : OwnR w' B K v1 (rings ++ [out]) := by
  have hkept : ∀ {h : Value} {x : List Str}, Own fStr w B 9 h x → (∀ b, h.ownBlock = some b → K b) → Own fStr w' B 9 h x := fun {h x} ho hk => ho.kept hg (by
    cases he : h.ownBlock with
    | none => exact .inl rfl
    | some b => exact .inr fun e => hr b e.symm (hk b he))
  have hat : ∀ (i : Nat) (h : Value), (hs ++ [u])[i]? = some h → (i < rings.length ∧ hs[i]? = some h) ∨ (i = rings.length ∧ u = h) := fun i h hi => by
    rcases Nat.lt_or_ge i hs.length with hlt | hge
    · rw [List.getElem?_append_left hlt] at hi
      exact .inl ⟨by omega, hi⟩
    · rw [List.getElem?_append_right hge] at hi
      have hi0 : i - hs.length = 0 := by
        rcases Nat.lt_or_ge (i - hs.length) 1 with h1 | h1
        · omega
        · rw [List.getElem?_eq_none (by simpa using h1)] at hi; simp at hi
      rw [hi0] at hi
      exact .inr ⟨by omega, by simpa using hi⟩
  refine ⟨hs ++ [u], by rw [List.length_append]; exact hown, fun i x hi => ?_, fun i j h h' b hi hj hb hb' => ?_⟩
  · rcases Nat.lt_or_ge i rings.length with h | h
    · rw [List.getElem?_append_left h] at hi
      obtain ⟨y, hy, ho, hk⟩ := h2 i x hi
      exact ⟨y, by rw [List.getElem?_append_left (by omega)]; exact hy, hkept ho hk, hk⟩
    · rw [List.getElem?_append_right h] at hi
      have hi0 : i - rings.length = 0 := by
        rcases Nat.lt_or_ge (i - rings.length) 1 with h1 | h1
        · omega
        · rw [List.getElem?_eq_none (by simpa using h1)] at hi; simp at hi
      rw [hi0] at hi
      obtain rfl : out = x := by simpa using hi
      exact ⟨u, by rw [List.getElem?_append_right (by omega), hl, hi0]; rfl, hkept hu huK, huK⟩
  · rcases hat i h hi with ⟨i1, i2⟩ | ⟨rfl, rfl⟩ <;> rcases hat j h' hj with ⟨j1, j2⟩ | ⟨rfl, rfl⟩
    · exact h3 i j h h' b i2 j2 hb hb'
    · exact absurd hb' (hun i h b i2 hb)
    · exact absurd hb (hun j h' b j2 hb')
    · rfl
end Mem
theorem info_sl : (Tryz.prog.info? 23).map (fun i => (i.zero, i.size, i.bytes)) = some (some (.slice none 0 0), 1, 24) := by kernel_rfl
theorem info_str' : (Tryz.prog.info? 9).map (fun i => (i.zero, i.size, i.bytes)) = some (some (.string ByteArray.empty), 1, 16) := by kernel_rfl

set_option maxRecDepth 100000 in
set_option maxHeartbeats 2000000 in
theorem ring_calls (w : World) (g : Nat) (K : Nat → Prop) (vR vM vF : Value) (D : WorldD) (s : Ld.St) (h : SAt w g K vR vM vF D s) (nm : Str) (hr : s.rings.length ≤ 9000) (hst : s.stack.length ≤ 40) :
    Calls Tryz.prog 70 #[.pointer (some ⟨g, 0, none⟩), .string nm] w fun e w' => e = .returned (.tuple #[]) ∧ STo w w' g K vR vM vF D (s.ring nm) := by
  obtain ⟨vc, vs, vr, vk, hh, hin⟩ := h
  obtain ⟨A8, c8, hv8, hc8, hd8, hs8⟩ := hh.stack.slV
  subst hv8
  obtain ⟨hs, hrow, hrr⟩ := hh.rings
  have hvr := row_form hrow
  obtain ⟨A7, c7, hv7⟩ := hvr
  subst hv7
  have k8 : w.cell? ⟨g, 8, none⟩ = some (.slice A8 s.stack.length c8) := blk_cell hh.blk 8
  have hrg : s.ring nm = { s with rings := s.rings ++ [s.stack.dropWhile fun x => decide (x ≠ nm)] } := rfl
  rw [hrg]
  generalize hrd : s.stack.dropWhile (fun x => decide (x ≠ nm)) = rg
  have HRD := hide hrd
  clear hrd
  have HRW := hide hrow
  have HRR := hide hrr
  have hgl := hh.lt
  clear hrg hrow hrr
  go_enter Tryz.func70, Tryz.ntmps70
  go_wp2_with fail
  go_loopw [4, 5, 7, 13] (fun v on _ i wr => ∃ (k : Nat) (out : List Str) (ob : Bool), i = .int .i64 k ∧ k ≤ s.stack.length ∧ on = .bool ob ∧ Hid (ob = !out.isEmpty) ∧ Hid (out = (s.stack.take k).dropWhile fun x => decide (x ≠ nm)) ∧ out.length ≤ k ∧ Own fStr wr w.heap.size 9 v out ∧ Below w.heap.size w wr) (fun _ _ _ i _ => s.stack.length - (intOf i).toNat)
  case atStart => exact ⟨0, [], false, rfl, by omega, rfl, hide (by simp), hide (by simp), by simp, Own.nil _ _ _, Below.refl _ _⟩
  case round =>
    clear k8
    obtain ⟨k, out, ob, rfl, hk, rfl, HOB, HOUT, hol, HO, HB⟩ := hrel
    by_cases hlt : k < s.stack.length
    · obtain ⟨ad, hA, hc⟩ := (hs8.below HB).get hlt
      subst hA
      have e0 : wr.cell? (ad.add k) = some (.string s.stack[k]) := by simpa [fStr, kStr] using hc.2
      have htk := hide (List.take_succ_eq_append_getElem hlt)
      clear hc
      generalize s.stack[k] = x at e0 htk
      have hnx := hide (show (s.stack.take (k + 1)).dropWhile (fun y => decide (y ≠ nm)) = if out.isEmpty then [x].dropWhile (fun y => decide (y ≠ nm)) else out ++ [x] by
        rw [htk.out, List.dropWhile_append, ← HOUT.out])
      obtain ⟨A9, c9, hv9, _, _, _⟩ := HO.slV
      subst hv9
      cases ob with
      | true =>
        have HN := hide (show (s.stack.take (k + 1)).dropWhile (fun y => decide (y ≠ nm)) = out ++ [x] by
          have := HOB.out
          rw [hnx.out, if_neg (by intro e; rw [e] at this; simp at this)])
        have HO2 := HO
        go_wp2_with (at_builtin; refine append_own_g fStr w.heap.size rfl _ _ 23 9 (.string ByteArray.empty) 16 rfl Tryz.underlying23 info_str' rfl (by omega) (.slice A9 out.length c9) out x #[.string x] rfl rfl wr.heap.size rfl rfl HO HB HB.size (by omega) ?_; intro v1 w5 hown hbel _ _)
        go_roundw
        case rel => exact ⟨k + 1, out ++ [x], true, by go_num, by omega, rfl, hide (by simp), hide HN.out.symm, by simp; omega, hown, hbel⟩
        case measure => simp [intOf]; omega
      | false =>
        have ho0 : out = [] := by
          have := HOB.out
          cases out with
          | nil => rfl
          | cons a r => simp at this
        by_cases hx : x = nm
        · have e1 := beq_t hx
          have HN := hide (show (s.stack.take (k + 1)).dropWhile (fun y => decide (y ≠ nm)) = out ++ [x] by
            rw [hnx.out, ho0]; simp [hx])
          clear hx ho0
          go_wp2_with (at_builtin; refine append_own_g fStr w.heap.size rfl _ _ 23 9 (.string ByteArray.empty) 16 rfl Tryz.underlying23 info_str' rfl (by omega) (.slice A9 out.length c9) out x #[.string x] rfl rfl wr.heap.size rfl rfl HO HB HB.size (by omega) ?_; intro v1 w5 hown hbel _ _)
          go_roundw
          case rel => exact ⟨k + 1, out ++ [x], true, by go_num, by omega, rfl, hide (by simp), hide HN.out.symm, by simp; omega, hown, hbel⟩
          case measure => simp [intOf]; omega
        · have e1 := beq_f hx
          have HN := hide (show (s.stack.take (k + 1)).dropWhile (fun y => decide (y ≠ nm)) = out by
            rw [hnx.out, ho0]; simp [hx])
          clear hx ho0
          go_wp2_with fail
          go_roundw
          case rel => exact ⟨k + 1, out, false, by go_num, by omega, rfl, HOB, hide HN.out.symm, by omega, HO, HB⟩
          case measure => simp [intOf]; omega
    · obtain rfl : k = s.stack.length := by omega
      have hout := HOUT.out
      rw [List.take_length, HRD.out] at hout
      have HRO := hide hout
      obtain ⟨A9, c9, hv9, hc9, hd9, hs9⟩ := HO.slV
      subst hv9
      have hhf := hh.fresh HB
      have q7 : wr.cell? ⟨g, 7, none⟩ = some (.slice A7 s.rings.length c7) := blk_cell hhf.blk 7
      have hrow := HRW.out.kept (row := none) ⟨HB.os, HB.tape, HB.output, HB.size, fun i hi _ => HB.block i hi⟩ (by cases (Value.slice A7 s.rings.length c7).ownBlock <;> simp)
      have hu : Own fStr wr g 9 (.slice A9 out.length c9) out := HO.more (Nat.le_of_lt hgl)
      have huK : ∀ b, (Value.slice A9 out.length c9).ownBlock = some b → K b ∨ (w.heap.size ≤ b ∧ b < wr.heap.size) := fun b hb => .inr ⟨HO.le hb, HO.lt hb⟩
      have hun : ∀ (i : Nat) (h : Value) (b : Nat), hs[i]? = some h → h.ownBlock = some b → (Value.slice A9 out.length c9).ownBlock ≠ some b := fun i h b hi hb e => by
        have h1 := HO.le e
        have hil : i < s.rings.length := by
          have h4 := HRW.out.1
          rcases Nat.lt_or_ge i hs.length with h | h
          · omega
          · rw [List.getElem?_eq_none h] at hi; simp at hi
        obtain ⟨y, hy, _, hk⟩ := HRR.out.1 i _ (List.getElem?_eq_getElem hil)
        obtain rfl : y = h := Option.some.inj (hy.symm.trans hi)
        have := hh.KS b (hk b hb)
        omega
      have hrr2 : ∀ (i : Nat) (x : List Str), s.rings[i]? = some x → ∃ h, hs[i]? = some h ∧ Own fStr wr g 9 h x ∧ ∀ b, h.ownBlock = some b → K b ∨ (w.heap.size ≤ b ∧ b < wr.heap.size) := fun i x hi => by
        obtain ⟨y, hy, ho, hk⟩ := HRR.out.1 i x hi
        exact ⟨y, hy, ho.below HB, fun b hb => .inl (hk b hb)⟩
      have hlen : hs.length = s.rings.length := by have := HRW.out.1; omega
      have HRR2 := hide hrr2
      have HU := hide hu
      have HUK := hide huK
      have HUN := hide hun
      clear hrr2 hs9 hout HOUT HOB hu huK hun
      go_wp2_with (at_builtin; refine append_val rfl _ _ 32 23 (.slice none 0 0) 24 rfl Tryz.underlying32 info_sl rfl (by omega) (.slice A7 s.rings.length c7) s.rings.length hs (.slice A9 out.length c9) rfl rfl wr.heap.size rfl rfl hrow (by omega) ?_; intro v1 w5 hown hgr hnew; have hor := OwnR.snoc (out := out) HRR2.out HRR.out.2 hlen hgr hhf.ringsK hown HU.out HUK.out HUN.out; obtain ⟨hh5, hk5⟩ := hhf.rings_to hor hgr hnew; obtain ⟨A6, c6, hv6⟩ := row_form hown; subst hv6; have q7' : w5.cell? ⟨g, 7, none⟩ = some (.slice A7 s.rings.length c7) := blk_cell hh5.blk 7; have f7 := blk_free hh5.blk 7)
      have hs7 := hh5.set 7 (.slice A6 (s.rings.length + 1) c6)
      have hkw : Keep K w wr := Keep.of_below HB
      go_end0
      rw [← HRO.out]
      refine ⟨rfl, STo.of (K' := fun b => K b ∨ (w.heap.size ≤ b ∧ b < wr.heap.size)) ?_ (fun b hb => .inl hb) (hkw.then (hk5.then hs7.2 (fun b hb => hb)) (fun b hb => .inl hb))⟩
      have hin2 := (((hin.below HB).more (T := fun b => K b ∨ (w.heap.size ≤ b ∧ b < wr.heap.size)) (fun b hb => .inl hb)).same (hk5.same (fun b hb => hb) hhf.KS)).same (hs7.2.same (fun b hb => hb) hh5.KS)
      exact SAtV.sat (vc := vc) (vs := vs) (vr := .slice A6 (s.rings.length + 1) c6) (vk := .slice A8 s.stack.length c8) ⟨hs7.1, hin2⟩
end Go.Proofs.YtkhlicmlnjccdaaGreatDoor

namespace Go.Proofs.YtkhlicmlnjccdaaGreatDoor
open Go.RowKit Mem

namespace Ld
def after (D : WorldD) (f : Nat) (n : Str) (s : St) : Int × St := match f with
  | 0 => deep s n
  | f' + 1 => enter (get D f') D n s
theorem get_after (D : WorldD) (f : Nat) (frm name : Str) (s : St) : get D f frm name s = if (find D frm name s).2.1 ≠ 0 then find D frm name s else ((find D frm name s).1, after D f (find D frm name s).1 (find D frm name s).2.2) := by cases f <;> rfl
end Ld
/-- what both machines need of a world -/
structure DOk (D : WorldD) : Prop where
  sz : WSz D
  mods : D.mods.length ≤ 60
  lines : ∀ m ∈ D.mods, m.lines.length ≤ 60
  ok : ∀ m ∈ D.mods, ∀ (i : Nat) (l : LineD), m.lines[i]? = some l → Wd.lineOk l ((m.lines.length : Int) - i - 1) = true
  clean : ∀ m ∈ D.mods, m.name.size ≤ 60
def St_add (s : Ld.St) (n : Str) : Ld.St := { s with states := s.states ++ [⟨n, 1, 0, 0⟩] }
def GetP (g : Nat) (vR vM vF : Value) (D : WorldD) (f : Nat) : Prop :=
  ∀ (w : World) (K : Nat → Prop) (s : Ld.St) (b : Nat) (frm name : Str), SAt w g K vR vM vF D s → Ld.Good D s (b + 1) → f + s.stack.length = 40 → frm.size ≤ 1048576 → name.size ≤ 1048576 →
    Calls Tryz.prog 27 #[.pointer (some ⟨g, 0, none⟩), .string frm, .string name] w fun e w' => e = .returned (.tuple #[.string (Ld.get D f frm name s).1, .int .i64 (Ld.get D f frm name s).2.1]) ∧ STo w w' g K vR vM vF D (Ld.get D f frm name s).2.2
def BodyP (g : Nat) (vR vM vF : Value) (D : WorldD) (f : Nat) : Prop :=
  ∀ (w : World) (K : Nat → Prop) (s : Ld.St) (b : Nat) (n : Str), SAt w g K vR vM vF D (St_add s n) → Ld.Good D s (b + 1) → f + 1 + s.stack.length = 40 → Ld.stAt s.states n = none → (Ld.modAt D.mods n).isSome = true →
    Calls Tryz.prog 69 #[.pointer (some ⟨g, 0, none⟩), .string n] w fun e w' => e = .returned (.int .i64 (Ld.body (Ld.get D f) D n s).1) ∧ STo w w' g K vR vM vF D (Ld.body (Ld.get D f) D n s).2
theorem info_state : (Tryz.prog.info? 79).map (fun i => (i.zero, i.size, i.bytes)) = some (some (.agg #[.string ByteArray.empty, .int .i64 0, .int .i64 0, .int .i64 0]), 4, 40) := by kernel_rfl
theorem STo.then {w w1 w2 : World} {g : Nat} {K K1 : Nat → Prop} {vR vM vF : Value} {D : WorldD} {s2 : Ld.St} (hK : ∀ b, K b → K1 b) (hk : Keep K w w1) (h2 : STo w1 w2 g K1 vR vM vF D s2) : STo w w2 g K vR vM vF D s2 := by
  obtain ⟨K2, h3, h4, h5⟩ := h2
  exact ⟨K2, fun b hb => h3 b (hK b hb), h4, hk.then h5 hK⟩
theorem any_now {l : List StateD} {i : Nat} {t : StateD} (h : l[i]? = some t) (c : Int) : (l[i]?).any (fun t => decide (t.now = c)) = decide (t.now = c) := by rw [h]; rfl

set_option maxRecDepth 100000 in
set_option maxHeartbeats 2000000 in
theorem get_step (g : Nat) (vR vM vF : Value) (D : WorldD) (hD : DOk D) (f : Nat) (hbody : ∀ f', f = f' + 1 → BodyP g vR vM vF D f') : GetP g vR vM vF D f := by
  intro w K s b frm name h hG hf hfs hns
  have hfc := find_calls w g K vR vM vF D s (b + 1) h hG hD.sz frm name hfs hns
  have hfo := Ld.find_ok D frm name s (b + 1) hG
  have hget := Ld.get_after D f frm name s
  generalize Ld.get D f frm name s = res at hget ⊢
  obtain ⟨n, c, s1, hr⟩ : ∃ n c s1, Ld.find D frm name s = (n, c, s1) := ⟨_, _, _, rfl⟩
  rw [hr] at hfc hfo hget
  obtain ⟨G1, E1, E2, _, _, F6, _⟩ := hfo
  replace G1 : Ld.Good D s1 (b + 1) := G1
  replace E1 : s1.states = s.states := E1
  replace E2 : s1.stack = s.stack := E2
  replace F6 : c = 0 → n ∈ Nm.tries D.roots frm name ∧ (Ld.stAt s.states n = none → (Ld.modAt D.mods n).isSome = true) := F6
  have HFC := hide hfc
  have HGE := hide hget
  have HG1 := hide G1
  have HE1 := hide E1
  have HE2 := hide E2
  have HF6 := hide F6
  have HF := hide hf
  clear hfc hget G1 E1 E2 F6 hr hG hf
  by_cases hc : c = 0
  · subst hc
    have hres := HGE.out
    rw [if_neg (by simp)] at hres
    have HRES := hide hres
    clear hres
    go_enter Tryz.func27, Tryz.ntmps27
    go_wp2_with fail
    refine (unhide HFC).mono ?_
    rintro e w1 ⟨rfl, K1, hK1, hs1, hk1⟩
    obtain ⟨vc, vs, vr, vk, hh, hin⟩ := id hs1
    obtain ⟨A5, c5, hv5, hc5, hd5, hs5⟩ := hh.states.slV
    subst hv5
    obtain ⟨A8, c8, hv8, hc8, hd8, hs8⟩ := hh.stack.slV
    subst hv8
    have k5 : w1.cell? ⟨g, 5, none⟩ = some (.slice A5 s1.states.length c5) := blk_cell hh.blk 5
    have k8 : w1.cell? ⟨g, 8, none⟩ = some (.slice A8 s1.stack.length c8) := blk_cell hh.blk 8
    have hcs := state_calls g A5 c5 s1.states.length s1.states n _ w1 k5 hs5 rfl (by omega)
    cases hst : Ld.stAt s1.states n with
    | some i =>
      rw [hst] at hcs
      replace hcs : Calls Tryz.prog 68 #[.pointer (some ⟨g, 0, none⟩), .string n] w1 fun e w' => e = .returned (.int .i64 (i : Int)) ∧ Below w1.heap.size w1 w' := hcs
      have HCS := hide hcs
      obtain ⟨t, hti, _⟩ := Ld.stAt_some hst
      have hil : i < s1.states.length := by
        rcases Nat.lt_or_ge i s1.states.length with h | h
        · exact h
        · rw [List.getElem?_eq_none h] at hti; simp at hti
      obtain ⟨bd, hA, _, l1, _⟩ := hs5.get hil
      subst hA
      have ht : s1.states[i] = t := by rw [List.getElem?_eq_getElem hil] at hti; exact Option.some.inj hti
      rw [ht] at l1
      have e5 : w1.cell? ⟨(bd.add (i * 4)).block, (bd.add (i * 4)).off + 1, none⟩ = some (.int .i64 t.now) := by have := l1.2; rwa [add_pos _ _ (by omega)] at this
      have hilI : (i : Int) < s1.states.length := by omega
      have hres2 : res = (n, if decide (t.now = 1) = true then ((4 : Int), s1.ring n) else if decide (t.now = 3) = true then (5, s1) else (0, s1)) := by
        rw [HRES.out]
        congr 1
        cases f with
        | zero =>
          show Ld.deep s1 n = _
          unfold Ld.deep
          rw [hst]
          simp only [any_now hti]
        | succ f' =>
          show Ld.enter _ _ n s1 = _
          unfold Ld.enter
          rw [hst]
          simp only [any_now hti]
      have HR2 := hide hres2
      have hlen := HG1.out.len
      have hroom := HG1.out.room
      have hstk := HG1.out.stack
      clear hcs hst l1 ht hti hs5 hs8 hres2 hh hin
      by_cases n1 : t.now = 1
      · have b1 : (t.now == 1) = true := by simpa using n1
        have HQ := hide (HR2.out.trans (show _ = (n, (4 : Int), s1.ring n) by simp [n1]))
        clear n1 HR2
        go_wp2_with fail
        refine (unhide HCS).mono ?_
        rintro e w2 ⟨rfl, hb2⟩
        have q5 : w2.cell? ⟨g, 5, none⟩ = some (.slice (some bd) s1.states.length c5) := (hb2.cell (p := ⟨g, 5, none⟩) (World.block_lt_of_cell? _ _ k5)).trans k5
        have q6 : w2.cell? ⟨(bd.add (i * 4)).block, (bd.add (i * 4)).off + 1, none⟩ = some (.int .i64 t.now) := (hb2.cell (World.block_lt_of_cell? _ _ e5)).trans e5
        have hs2 := hs1.below hb2
        have hk2 := hk1.then (Keep.of_below (K := K1) hb2) hK1
        clear k5 k8 e5 hb2
        go_wp2_with fail
        refine (ring_calls w2 g K1 vR vM vF D s1 hs2 n (by omega) hstk).mono ?_
        rintro e w3 ⟨rfl, hto⟩
        go_wp2_with fail
        go_ret2
        rw [HQ.out]
        exact ⟨rfl, STo.then hK1 hk2 hto⟩
      · have b1 : (t.now == 1) = false := by simpa using n1
        by_cases n3 : t.now = 3
        · have b3 : (t.now == 3) = true := by simpa using n3
          have HQ := hide (HR2.out.trans (show _ = (n, (5 : Int), s1) by simp [n3]))
          clear n1 n3 HR2
          go_wp2_with fail
          refine (unhide HCS).mono ?_
          rintro e w2 ⟨rfl, hb2⟩
          have q5 : w2.cell? ⟨g, 5, none⟩ = some (.slice (some bd) s1.states.length c5) := (hb2.cell (p := ⟨g, 5, none⟩) (World.block_lt_of_cell? _ _ k5)).trans k5
          have q6 : w2.cell? ⟨(bd.add (i * 4)).block, (bd.add (i * 4)).off + 1, none⟩ = some (.int .i64 t.now) := (hb2.cell (World.block_lt_of_cell? _ _ e5)).trans e5
          have hs2 := hs1.below hb2
          have hk2 := hk1.then (Keep.of_below (K := K1) hb2) hK1
          clear k5 k8 e5 hb2
          go_wp2_with fail
          go_ret2
          rw [HQ.out]
          exact ⟨rfl, STo.of hs2 hK1 hk2⟩
        · have b3 : (t.now == 3) = false := by simpa using n3
          have HQ := hide (HR2.out.trans (show _ = (n, (0 : Int), s1) by simp [n1, n3]))
          clear n1 n3 HR2
          go_wp2_with fail
          refine (unhide HCS).mono ?_
          rintro e w2 ⟨rfl, hb2⟩
          have q5 : w2.cell? ⟨g, 5, none⟩ = some (.slice (some bd) s1.states.length c5) := (hb2.cell (p := ⟨g, 5, none⟩) (World.block_lt_of_cell? _ _ k5)).trans k5
          have q6 : w2.cell? ⟨(bd.add (i * 4)).block, (bd.add (i * 4)).off + 1, none⟩ = some (.int .i64 t.now) := (hb2.cell (World.block_lt_of_cell? _ _ e5)).trans e5
          have hs2 := hs1.below hb2
          have hk2 := hk1.then (Keep.of_below (K := K1) hb2) hK1
          clear k5 k8 e5 hb2
          go_wp2_with fail
          go_ret2
          rw [HQ.out]
          exact ⟨rfl, STo.of hs2 hK1 hk2⟩
    | none =>
      rw [hst] at hcs
      replace hcs : Calls Tryz.prog 68 #[.pointer (some ⟨g, 0, none⟩), .string n] w1 fun e w' => e = .returned (.int .i64 (-1)) ∧ Below w1.heap.size w1 w' := hcs
      have HCS := hide hcs
      have HST := hide hst
      have hsk : s1.stack.length = s.stack.length := by rw [HE2.out]
      clear hcs hst hs5 hs8
      cases f with
      | zero =>
        have h40 : ((s1.stack.length : Int) == 40) = true := by have := HF.out; simp; omega
        have HQ := hide (HRES.out.trans (show _ = (n, (7 : Int), s1) by show (n, Ld.deep s1 n) = _; unfold Ld.deep; rw [HST.out]))
        clear HRES
        go_wp2_with fail
        refine (unhide HCS).mono ?_
        rintro e w2 ⟨rfl, hb2⟩
        have q8 : w2.cell? ⟨g, 8, none⟩ = some (.slice A8 s1.stack.length c8) := (hb2.cell (p := ⟨g, 8, none⟩) (World.block_lt_of_cell? _ _ k8)).trans k8
        have hs2 := hs1.below hb2
        have hk2 := hk1.then (Keep.of_below (K := K1) hb2) hK1
        clear k5 k8 hb2 hh hin
        go_wp2_with fail
        go_ret2
        rw [HQ.out]
        exact ⟨rfl, STo.of hs2 hK1 hk2⟩
      | succ f' =>
        have h40 : ((s1.stack.length : Int) == 40) = false := by have := HF.out; simp; omega
        have HQ := hide (HRES.out.trans (show _ = (n, Ld.body (Ld.get D f') D n s1) by show (n, Ld.enter _ _ n s1) = _; unfold Ld.enter; rw [HST.out]))
        have hlen := HG1.out.len
        have hml := hD.mods
        have hmm := (HF6.out (by first | rfl | trivial)).2 (by rw [← HE1.out]; exact HST.out)
        have HBC := hide (fun (w' : World) (hs : SAt w' g K1 vR vM vF D (St_add s1 n)) => hbody f' rfl w' K1 s1 b n hs HG1.out (by have := HF.out; omega) HST.out hmm)
        clear HRES hmm
        go_wp2_with fail
        refine (unhide HCS).mono ?_
        rintro e w2 ⟨rfl, hb2⟩
        have hh2 := hh.below hb2
        have q8 : w2.cell? ⟨g, 8, none⟩ = some (.slice A8 s1.stack.length c8) := (hb2.cell (p := ⟨g, 8, none⟩) (World.block_lt_of_cell? _ _ k8)).trans k8
        have q5 : w2.cell? ⟨g, 5, none⟩ = some (.slice A5 s1.states.length c5) := (hb2.cell (p := ⟨g, 5, none⟩) (World.block_lt_of_cell? _ _ k5)).trans k5
        have hk2 := hk1.then (Keep.of_below (K := K1) hb2) hK1
        have hin2 := hin.below hb2
        clear k5 k8 hb2 hh hin
        have hls : (s1.states ++ [(⟨n, 1, 0, 0⟩ : StateD)]).length = s1.states.length + 1 := by simp
        go_wp2_with (at_builtin; refine append_own_g fState 0 rfl _ _ 31 79 (.agg #[.string ByteArray.empty, .int .i64 0, .int .i64 0, .int .i64 0]) 40 rfl Tryz.underlying31 info_state rfl (by omega) (.slice A5 s1.states.length c5) s1.states ⟨n, 1, 0, 0⟩ #[.string n, .int .i64 1, .int .i64 0, .int .i64 0] rfl rfl w2.heap.size rfl rfl hh2.states (Below.refl 0 w2) (Nat.zero_le _) (by omega) ?_; intro v1 w4 hown _ hgr hnew; obtain ⟨hh4, hk4⟩ := hh2.states_to hown hgr hnew; obtain ⟨A6, c6, hv6, _, _, _⟩ := hown.slV; subst hv6; have q5' : w4.cell? ⟨g, 5, none⟩ = some (.slice A5 s1.states.length c5) := blk_cell hh4.blk 5; have f5 := blk_free hh4.blk 5)
        rw [hls] at hh4
        have hs5 := hh4.set 5 (.slice A6 (s1.states.length + 1) c6)
        have hin5 := (hin2.same (hk4.same (fun b hb => hb) hh2.KS)).same (hs5.2.same (fun b hb => hb) hh4.KS)
        have hsat5 : SAt (w4.setCell ⟨g, 5, none⟩ (.slice A6 (s1.states.length + 1) c6)) g K1 vR vM vF D (St_add s1 n) := SAtV.sat (vc := vc) (vs := .slice A6 (s1.states.length + 1) c6) (vr := vr) (vk := .slice A8 s1.stack.length c8) ⟨hs5.1, hin5⟩
        have hk5 := hk2.then (hk4.then hs5.2 (fun b hb => hb)) hK1
        refine (HBC.out _ hsat5).mono ?_
        rintro e w6 ⟨rfl, hto⟩
        clear hsat5 hin5 hs5 hh4 hk4 q5' f5
        go_wp2_with fail
        go_ret2
        rw [HQ.out]
        exact ⟨rfl, STo.then hK1 hk5 hto⟩
  · have hb0 : (c != 0) = true := by simpa using hc
    have HQ := hide (HGE.out.trans (if_pos hc))
    clear hc
    go_enter Tryz.func27, Tryz.ntmps27
    go_wp2_with fail
    refine (unhide HFC).mono ?_
    rintro e w1 ⟨rfl, hto⟩
    go_wp2_with fail
    go_ret2
    rw [HQ.out]
    exact ⟨rfl, hto⟩
end Go.Proofs.YtkhlicmlnjccdaaGreatDoor
