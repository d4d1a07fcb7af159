/-
  Walks: the reference's machine: a reading, the search through the tries.
-/
import Derived.Test.YtkhlicmlnjccdaaDoorSm
import Derived.Test.YtkhlicmlnjccdaaDoorSTries
namespace Go.Proofs.YtkhlicmlnjccdaaDoor
open Go.RowKit Mem

namespace Ld
def hit (fs : List Int) (n : Int) : Bool := fs.any fun f => decide (f = n)
theorem hit_snoc (fs : List Int) (n : Int) (k : Nat) (hk : k < fs.length) : hit (fs.take (k + 1)) n = (hit (fs.take k) n || decide (fs[k] = n)) := by
  unfold hit
  rw [List.take_succ_eq_append_getElem hk, List.any_append]; simp
theorem hit_mem (fs : List Int) (n : Int) : hit fs n = true ↔ n ∈ fs := by
  unfold hit
  rw [List.any_eq_true]
  constructor
  · rintro ⟨x, hx, h⟩
    have : x = n := by simpa using h
    exact this ▸ hx
  · exact fun h => ⟨n, h, by simp⟩
def rcode (D : WorldD) (s : St) (n : Str) : Int := if (s.reads : Int) ∈ D.faults then 3 else if (modAt D.mods n).isSome = true then 0 else 2
theorem look_cons (D : WorldD) (n : Str) (r : List Str) (s : St) (h1 : stAt s.states n = none) (h2 : s.reads ≠ 400) : look D (n :: r) s =
    if rcode D s n = 3 then (n, 3, s.read.note ⟨1, n, rcode D s n, 0⟩) else if rcode D s n = 0 then (n, 0, s.read.note ⟨1, n, rcode D s n, 0⟩) else look D r (s.read.note ⟨1, n, rcode D s n, 0⟩) := by
  conv => lhs; unfold look
  rw [h1, if_neg (by simp), if_neg h2]
  unfold rcode
  by_cases h3 : (s.reads : Int) ∈ D.faults
  · rw [if_pos h3]; simp [h3]
  · rw [if_neg h3]
    by_cases h4 : (modAt D.mods n).isSome = true
    · rw [if_pos h4]; simp [h3, h4]
    · rw [if_neg h4]; simp [h3, h4]
end Ld

set_option maxRecDepth 100000 in
set_option maxHeartbeats 2000000 in
theorem read_calls (w : World) (g : Nat) (K : Nat → Prop) (vR vM vF : Value) (D : WorldD) (s : Ld.St) (h : SAt w g K vR vM vF D s) (nm : Str) (hr : s.recs.length ≤ 9000) (hs : s.reads ≤ 400) :
    Calls Tryd.prog 123 #[.pointer (some ⟨g, 0, none⟩), .string nm] w fun e w' => e = .returned (.int .i64 (Ld.rcode D s nm)) ∧ SAt w' g K vR vM vF D (s.read.note ⟨1, nm, Ld.rcode D s nm, 0⟩) ∧ Keep K w w' := by
  obtain ⟨vc, vs, vr, vk, hh, hin⟩ := h
  have hin0 := hin
  obtain ⟨⟨A1, c1, rfl, _, _, hR⟩, ⟨A2, c2, rfl, hc2, hd2, hM⟩, ⟨A3, c3, rfl, hc3, hd3, hF⟩⟩ := hin
  have k6 : w.cell? ⟨g, 6, none⟩ = some (.int .i64 s.reads) := blk_cell hh.blk 6
  have f6 := blk_free hh.blk 6
  have hst := hh.set 6 (.int .i64 ((s.reads : Int) + 1))
  have HH1 := hide hst.1
  have HK1 := hide hst.2
  have k0 : (w.setCell ⟨g, 6, none⟩ (.int .i64 ((s.reads : Int) + 1))).cell? ⟨g, 0, none⟩ = some (.slice A1 D.roots.length c1) := blk_cell hst.1.blk 0
  have k1 : (w.setCell ⟨g, 6, none⟩ (.int .i64 ((s.reads : Int) + 1))).cell? ⟨g, 1, none⟩ = some (.slice A2 D.mods.length c2) := blk_cell hst.1.blk 1
  have k2 : (w.setCell ⟨g, 6, none⟩ (.int .i64 ((s.reads : Int) + 1))).cell? ⟨g, 2, none⟩ = some (.slice A3 D.faults.length c3) := blk_cell hst.1.blk 2
  have hin1 := hin0.same (hst.2.same (fun b hb => hb) hh.KS)
  have hin2 := hin1
  obtain ⟨⟨_, _, _, _, _, _⟩, ⟨B2, d2, hv2, _, _, gM⟩, ⟨B3, d3, hv3, _, _, gF⟩⟩ := hin1
  injection hv2 with hv2 _ hv2'
  injection hv3 with hv3 _ hv3'
  subst hv2 hv2' hv3 hv3'
  clear hst hin0 hM hF hR
  go_enter Tryd.func123, Tryd.ntmps123
  go_wp2_with fail
  generalize hW : w.setCell ⟨g, 6, none⟩ (.int .i64 ((s.reads : Int) + 1)) = W1 at HH1 HK1 k0 k1 k2 gM gF hin2 ⊢
  clear hW k6 f6
  have hsat : SAt W1 g K (.slice A1 D.roots.length c1) (.slice A2 D.mods.length c2) (.slice A3 D.faults.length c3) D s.read := SAtV.sat (vc := vc) (vs := vs) (vr := vr) (vk := vk) ⟨HH1.out, hin2⟩
  refine (l2find_calls _ _ A2 c2 D.mods.length D.mods nm K W1 gM rfl (by omega)).mono ?_
  rintro e w2 ⟨rfl, hb2⟩
  have hsat2 := hsat.below hb2
  have hk2 := HK1.out.then (Keep.of_below (K := K) hb2) (fun b hb => hb)
  have q2 : w2.cell? ⟨g, 2, none⟩ = some (.slice A3 D.faults.length c3) := (hb2.cell (p := ⟨g, 2, none⟩) (World.block_lt_of_cell? _ _ k2)).trans k2
  have hF2 := gF.below hb2
  clear k0 k1 k2 hb2 HH1 HK1 hsat gM gF hin2 hh
  have hcb : ∃ c0 : Int, (idxI (Ld.modAt D.mods nm) < 0 ∧ c0 = 2 ∨ 0 ≤ idxI (Ld.modAt D.mods nm) ∧ c0 = 0) ∧ c0 = (if (Ld.modAt D.mods nm).isSome = true then 0 else 2) := by
    cases hmo : Ld.modAt D.mods nm with
    | none => exact ⟨2, .inl ⟨by simp [idxI], rfl⟩, rfl⟩
    | some i => exact ⟨0, .inr ⟨by simp [idxI], rfl⟩, rfl⟩
  obtain ⟨c0, hcs, hc0⟩ := hcb
  have HC0 := hide hc0
  generalize idxI (Ld.modAt D.mods nm) = ix at hcs ⊢
  have hd3' := mem_maxLen _ (show D.faults.length ≤ maxLen by omega)
  clear hc0
  rcases hcs with ⟨hix, rfl⟩ | ⟨hix, rfl⟩
  · go_wp2_with fail
    go_loop [6, 8, 36] (fun c _ i => ∃ k : Nat, i = .int .i64 k ∧ k ≤ D.faults.length ∧ c = .int .i64 (if Ld.hit (D.faults.take k) s.reads = true then 3 else 2)) (fun _ _ i => D.faults.length - (intOf i).toNat)
    case atStart => exact ⟨0, rfl, by omega, by simp [Ld.hit]⟩
    case round =>
      obtain ⟨k, rfl, hk, rfl⟩ := hrel
      by_cases hlt : k < D.faults.length
      · obtain ⟨ad, hA, l0⟩ := hF2.get hlt
        subst hA
        have e0 : w2.cell? (ad.add k) = some (.int .i64 D.faults[k]) := by simpa [kInt] using l0.2
        have hsn := Ld.hit_snoc D.faults s.reads k hlt
        clear l0
        generalize D.faults[k] = f at e0 hsn
        by_cases hf : f = s.reads
        · have e1 : (f == (s.reads : Int)) = true := by simpa using hf
          rw [decide_eq_true hf, Bool.or_true] at hsn
          have HSN := hide hsn
          clear hsn hf
          go_wp2_with fail
          go_round
          case rel => exact ⟨k + 1, by go_num, by omega, by rw [HSN.out]; rfl⟩
          case measure => simp [intOf]; omega
        · have e1 : (f == (s.reads : Int)) = false := by simpa using hf
          rw [decide_eq_false hf, Bool.or_false] at hsn
          have HSN := hide hsn
          clear hsn hf
          go_wp2_with fail
          go_round
          case rel => exact ⟨k + 1, by go_num, by omega, by rw [HSN.out]⟩
          case measure => simp [intOf]; omega
      · obtain rfl : k = D.faults.length := by omega
        rw [List.take_length]
        have hrc : (if Ld.hit D.faults s.reads = true then (3 : Int) else 2) = Ld.rcode D s nm := by
          unfold Ld.rcode
          by_cases hm : (s.reads : Int) ∈ D.faults
          · rw [if_pos hm, if_pos ((Ld.hit_mem _ _).2 hm)]
          · rw [if_neg hm, if_neg (fun e => hm ((Ld.hit_mem _ _).1 e))]; exact HC0.out
        rw [hrc]
        go_wp2_with fail
        refine (rec_calls w2 g K _ _ _ D s.read hsat2 1 (Ld.rcode D s nm) 0 nm hr).mono ?_
        rintro e w3 ⟨rfl, hs3, hk3⟩
        go_wp2_with fail
        go_ret
        exact ⟨rfl, hs3, hk2.then hk3 (fun b hb => hb)⟩
  · go_wp2_with fail
    go_loop [6, 8, 36] (fun c _ i => ∃ k : Nat, i = .int .i64 k ∧ k ≤ D.faults.length ∧ c = .int .i64 (if Ld.hit (D.faults.take k) s.reads = true then 3 else 0)) (fun _ _ i => D.faults.length - (intOf i).toNat)
    case atStart => exact ⟨0, rfl, by omega, by simp [Ld.hit]⟩
    case round =>
      obtain ⟨k, rfl, hk, rfl⟩ := hrel
      by_cases hlt : k < D.faults.length
      · obtain ⟨ad, hA, l0⟩ := hF2.get hlt
        subst hA
        have e0 : w2.cell? (ad.add k) = some (.int .i64 D.faults[k]) := by simpa [kInt] using l0.2
        have hsn := Ld.hit_snoc D.faults s.reads k hlt
        clear l0
        generalize D.faults[k] = f at e0 hsn
        by_cases hf : f = s.reads
        · have e1 : (f == (s.reads : Int)) = true := by simpa using hf
          rw [decide_eq_true hf, Bool.or_true] at hsn
          have HSN := hide hsn
          clear hsn hf
          go_wp2_with fail
          go_round
          case rel => exact ⟨k + 1, by go_num, by omega, by rw [HSN.out]; rfl⟩
          case measure => simp [intOf]; omega
        · have e1 : (f == (s.reads : Int)) = false := by simpa using hf
          rw [decide_eq_false hf, Bool.or_false] at hsn
          have HSN := hide hsn
          clear hsn hf
          go_wp2_with fail
          go_round
          case rel => exact ⟨k + 1, by go_num, by omega, by rw [HSN.out]⟩
          case measure => simp [intOf]; omega
      · obtain rfl : k = D.faults.length := by omega
        rw [List.take_length]
        have hrc : (if Ld.hit D.faults s.reads = true then (3 : Int) else 0) = Ld.rcode D s nm := by
          unfold Ld.rcode
          by_cases hm : (s.reads : Int) ∈ D.faults
          · rw [if_pos hm, if_pos ((Ld.hit_mem _ _).2 hm)]
          · rw [if_neg hm, if_neg (fun e => hm ((Ld.hit_mem _ _).1 e))]; exact HC0.out
        rw [hrc]
        go_wp2_with fail
        refine (rec_calls w2 g K _ _ _ D s.read hsat2 1 (Ld.rcode D s nm) 0 nm hr).mono ?_
        rintro e w3 ⟨rfl, hs3, hk3⟩
        go_wp2_with fail
        go_ret
        exact ⟨rfl, hs3, hk2.then hk3 (fun b hb => hb)⟩
end Go.Proofs.YtkhlicmlnjccdaaDoor
