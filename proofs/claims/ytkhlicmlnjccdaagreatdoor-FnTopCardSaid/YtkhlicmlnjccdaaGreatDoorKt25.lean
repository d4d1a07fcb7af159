/-
  Walks: the reference's machine: a body, given what an import does.
-/
import Derived.Test.YtkhlicmlnjccdaaGreatDoorKt24
import Derived.Deep.RegionHeld3
import Derived.Deep.DeepCutAuto
import Derived.StillTailTactics
import Derived.Deep.CutBlock
namespace Go.Proofs.YtkhlicmlnjccdaaGreatDoor
open Go.RowKit Mem

namespace Ld
theorem stAt_snoc {l : List StateD} {n : Str} (h : stAt l n = none) (t : StateD) (ht : t.name = n) : stAt (l ++ [t]) n = some l.length :=
  stAt_at (t := t) (by simp) ht (fun j hj u hu => by
    rw [List.getElem?_append_left hj] at hu
    exact stAt_none h u (List.mem_of_getElem? hu))
theorem linesOf_at {D : WorldD} {n : Str} {i : Nat} {m : ModD} (h : modAt D.mods n = some i) (hm : D.mods[i]? = some m) : linesOf D n = m.lines := by unfold linesOf; rw [h]; simp only [hm]
theorem lines_step {get : Get} {D : WorldD} {k : Nat} {me : Str} {ls : List LineD} {f i : Nat} {s : St} {l : LineD} (h : ls[i]? = some l) :
    lines get D k me ls (f + 1) i s = if (line get D k me l s).1 ≠ 0 then ((line get D k me l s).1, (line get D k me l s).2.2) else lines get D k me ls f (i + 1 + (line get D k me l s).2.1) (line get D k me l s).2.2 := by
  conv => lhs; unfold lines
  rw [h]
theorem lines_end {get : Get} {D : WorldD} {k : Nat} {me : Str} {ls : List LineD} {f i : Nat} {s : St} (h : ls.length ≤ i) : lines get D k me ls f i s = (0, s) := by
  cases f with
  | zero => rfl
  | succ f => unfold lines; rw [List.getElem?_eq_none h]
theorem line_1 {get : Get} {D : WorldD} {k : Nat} {me : Str} {l : LineD} {s : St} (h : l.op = 1) : line get D k me l s = (0, 0, s.note ⟨3, me, 0, l.num⟩) := by unfold line; rw [if_pos h]
theorem line_2 {get : Get} {D : WorldD} {k : Nat} {me : Str} {l : LineD} {s : St} (h : l.op = 2) : line get D k me l s = (0, 0, s.give k me l.num) := by unfold line; rw [if_neg (by omega), if_pos h]
theorem line_3 {get : Get} {D : WorldD} {k : Nat} {me : Str} {l : LineD} {s : St} (h : l.op = 3) : line get D k me l s = ((get me l.name s).2.1, 0, (get me l.name s).2.2) := by unfold line; rw [if_neg (by omega), if_neg (by omega), if_pos h]
theorem line_4 {get : Get} {D : WorldD} {k : Nat} {me : Str} {l : LineD} {s : St} (h : l.op = 4) : line get D k me l s = (0, 0, if (get me l.name s).2.1 ≠ 0 then (get me l.name s).2.2.note ⟨6, (get me l.name s).1, (get me l.name s).2.1, 0⟩ else (get me l.name s).2.2) := by unfold line; rw [if_neg (by omega), if_neg (by omega), if_neg (by omega), if_pos h]
theorem line_5_some {get : Get} {D : WorldD} {k : Nat} {me : Str} {l : LineD} {s : St} {x : Str × Nat} (h : l.op = 5) (hk : (known D me l.name s).1 = some x) : line get D k me l s = (0, 0, s.note ⟨3, me, 0, giveAt s.states x.2⟩) := by unfold line; rw [if_neg (by omega), if_neg (by omega), if_neg (by omega), if_neg (by omega), if_pos h]; simp only [hk]
theorem line_5_none {get : Get} {D : WorldD} {k : Nat} {me : Str} {l : LineD} {s : St} (h : l.op = 5) (hk : (known D me l.name s).1 = none) : line get D k me l s = ((known D me l.name s).2, 0, s) := by unfold line; rw [if_neg (by omega), if_neg (by omega), if_neg (by omega), if_neg (by omega), if_pos h]; simp only [hk]
theorem line_6 {get : Get} {D : WorldD} {k : Nat} {me : Str} {l : LineD} {s : St} (h : l.op = 6) : line get D k me l s = (6, 0, { s with thrown := l.num }) := by unfold line; rw [if_neg (by omega), if_neg (by omega), if_neg (by omega), if_neg (by omega), if_neg (by omega), if_pos h]
theorem line_7 {get : Get} {D : WorldD} {k : Nat} {me : Str} {l : LineD} {s : St} (h : l.op = 7) : line get D k me l s = (0, (if (known D me l.name s).1.isSome = true then 0 else l.skip.toNat), s) := by unfold line; rw [if_neg (by omega), if_neg (by omega), if_neg (by omega), if_neg (by omega), if_neg (by omega), if_neg (by omega), if_pos h]
theorem line_op {l : LineD} {b : Int} (h : Wd.lineOk l b = true) : l.op = 1 ∨ l.op = 2 ∨ l.op = 3 ∨ l.op = 4 ∨ l.op = 5 ∨ l.op = 6 ∨ l.op = 7 := by
  unfold Wd.lineOk at h
  split at h
  · omega
  · split at h
    · omega
    · split at h
      · omega
      · simp at h
theorem line_skip {l : LineD} {b : Int} (h : Wd.lineOk l b = true) (h7 : l.op = 7) : 0 ≤ l.skip ∧ l.skip ≤ b := by
  unfold Wd.lineOk at h
  rw [if_neg (by omega), if_neg (by omega), if_pos h7] at h
  simp at h
  exact ⟨h.1.2, h.2⟩
theorem known_code (D : WorldD) (frm name : Str) (s : St) : ((known D frm name s).1.isSome = true ∧ (known D frm name s).2 = 0) ∨ ((known D frm name s).1 = none ∧ (known D frm name s).2 ≠ 0) := by
  unfold known knownIn
  split
  · exact .inr ⟨rfl, by simp⟩
  · split
    · exact .inl ⟨rfl, rfl⟩
    · exact .inr ⟨rfl, by simp⟩
theorem knownOf_at {states : List StateD} {x : Str × Nat} : {ts : List Str} → knownOf states ts = some x → stAt states x.1 = some x.2 ∧ ∃ t, states[x.2]? = some t ∧ t.now = 2
  | [], h => by simp [knownOf] at h
  | n :: r, h => by
    unfold knownOf at h
    cases hs : stAt states n with
    | none => rw [hs] at h; exact knownOf_at h
    | some i =>
      rw [hs] at h
      simp only at h
      by_cases hn : (states[i]?).any (fun t => decide (t.now = 2)) = true
      · rw [if_pos hn] at h
        obtain rfl := Option.some.inj h
        cases ht : states[i]? with
        | none => rw [ht] at hn; simp at hn
        | some t => rw [ht] at hn; exact ⟨hs, t, rfl, by simpa using hn⟩
      · rw [if_neg hn] at h; exact knownOf_at h
theorem known_at {D : WorldD} {frm name : Str} {s : St} {x : Str × Nat} (h : (known D frm name s).1 = some x) : stAt s.states x.1 = some x.2 ∧ ∃ t, s.states[x.2]? = some t ∧ t.now = 2 := by
  unfold known knownIn at h
  split at h
  · simp at h
  · split at h
    · rename_i y hy
      obtain rfl := Option.some.inj h
      exact knownOf_at hy
    · simp at h
end Ld

theorem own_blkOf {α : Type} {k : Flat α} {w : World} {base : Nat} {e : TypeId} {v : Value} {xs : List α} (h : Own k w base e v xs) {b : Nat} (hb : v.ownBlock = some b) : ∃ cur, w.heap[b]? = some (.cells cur e (0, 0)) := by
  rcases h.2 with ⟨rfl, _⟩ | ⟨g, cap, cur, rfl, _, hh, _⟩
  · simp [Value.ownBlock] at hb
  · have : g = b := by simpa [Value.ownBlock] using hb
    subst this
    exact ⟨cur, hh⟩

set_option maxRecDepth 100000 in
set_option maxHeartbeats 4000000 in
theorem body_step (g : Nat) (vR vM vF : Value) (D : WorldD) (hD : DOk D) (f : Nat) (hget : GetP g vR vM vF D f) : BodyP g vR vM vF D f := by
  intro w K s b n h hG hfk hst hmo
  have hlen := hG.len
  have hml := hD.mods
  have hroom := hG.room
  have hstk := hG.stack
  obtain ⟨mi, hmi⟩ := Option.isSome_iff_exists.1 hmo
  obtain ⟨m, hmm, hmn⟩ := Ld.modAt_some hmi
  have hlo := Ld.linesOf_at hmi hmm
  have hmem : m ∈ D.mods := List.mem_of_getElem? hmm
  have hl60 := hD.lines m hmem
  have hnsz := hD.clean m hmem
  rw [hmn] at hnsz
  have HG := hide hG
  have HST := hide (Ld.stAt_snoc hst ⟨n, 1, 0, 0⟩ rfl)
  have HLO := hide hlo
  have HMI := hide hmi
  have HMM := hide hmm
  have hbg := hG.begin hst hmo (by omega)
  have HBG := hide hbg
  have HSTN := hide hst
  have HBD := hide (show Ld.body (Ld.get D f) D n s = ((Ld.lines (Ld.get D f) D s.states.length n m.lines m.lines.length 0 (s.begin n)).1,
    Ld.fin s.states.length n (Ld.lines (Ld.get D f) D s.states.length n m.lines m.lines.length 0 (s.begin n)).1 (Ld.lines (Ld.get D f) D s.states.length n m.lines m.lines.length 0 (s.begin n)).2) by
    unfold Ld.body; rw [hlo])
  have HOK := hide (hD.ok m hmem)
  have HLN := hide (fun y hy => hD.sz.l m hmem y hy)
  clear hG hst hmo hmi hlo hbg hmn hmem
  generalize Ld.body (Ld.get D f) D n s = res at HBD ⊢
  obtain ⟨vc, vs, vr, vk, hh, hin⟩ := h
  obtain ⟨A8, c8, hv8, hc8, hd8, _⟩ := hh.stack.slV
  subst hv8
  have hst0 : (St_add s n).stack = s.stack := rfl
  rw [hst0] at hh
  have k8 : w.cell? ⟨g, 8, none⟩ = some (.slice A8 s.stack.length c8) := blk_cell hh.blk 8
  have hls : (s.stack ++ [n]).length = s.stack.length + 1 := by simp
  go_enter Tryz.func69, Tryz.ntmps69
  go_wp2_with (at_builtin; refine append_own_g fStr 0 rfl _ _ 23 9 (.string ByteArray.empty) 16 rfl Tryz.underlying23 info_str' rfl (by omega) (.slice A8 s.stack.length c8) s.stack n #[.string n] rfl rfl w.heap.size rfl rfl hh.stack (Below.refl 0 w) (Nat.zero_le _) (by omega) ?_; intro v1 w1 hown _ hgr hnew; obtain ⟨hh1, hk1⟩ := hh.stack_to hown hgr hnew; obtain ⟨A9, c9, hv9, _, _, _⟩ := hown.slV; subst hv9; have q8 : w1.cell? ⟨g, 8, none⟩ = some (.slice A8 s.stack.length c8) := blk_cell hh1.blk 8; have f8 := blk_free hh1.blk 8)
  rw [hls] at hh1
  have hs8 := hh1.set 8 (.slice A9 (s.stack.length + 1) c9)
  have hin8 := (hin.same (hk1.same (fun b hb => hb) hh.KS)).same (hs8.2.same (fun b hb => hb) hh1.KS)
  have hk8 := hk1.then hs8.2 (fun b hb => hb)
  have hsat8 : SAt (w1.setCell ⟨g, 8, none⟩ (.slice A9 (s.stack.length + 1) c9)) g K vR vM vF D { St_add s n with stack := s.stack ++ [n] } := SAtV.sat (vc := vc) (vs := vs) (vr := vr) (vk := .slice A9 (s.stack.length + 1) c9) ⟨hs8.1, hin8⟩
  clear hs8 hin8 hh1 hk1 q8 f8 k8 hh hin hls
  generalize w1.setCell ⟨g, 8, none⟩ (.slice A9 (s.stack.length + 1) c9) = W1 at hsat8 hk8 ⊢
  refine (rec_calls W1 g K vR vM vF D _ hsat8 2 0 0 n (show s.recs.length ≤ 9000 by omega)).mono ?_
  rintro e w2 ⟨rfl, hsat2, hk2⟩
  replace hsat2 : SAt w2 g K vR vM vF D (s.begin n) := hsat2
  have hk := hk8.then hk2 (fun b hb => hb)
  clear hsat8 hk8 hk2
  obtain ⟨vc, vs, vr, vk, hh, hin⟩ := id hsat2
  obtain ⟨A5, c5, hv5, hc5, hd5, hs5⟩ := hh.states.slV
  subst hv5
  have k5 : w2.cell? ⟨g, 5, none⟩ = some (.slice A5 (s.begin n).states.length c5) := blk_cell hh.blk 5
  have hcs := state_calls g A5 c5 (s.begin n).states.length (s.begin n).states n _ w2 k5 hs5 rfl (by omega)
  rw [show Ld.stAt (s.begin n).states n = some s.states.length from HST.out] at hcs
  replace hcs : Calls Tryz.prog 68 #[.pointer (some ⟨g, 0, none⟩), .string n] w2 fun e w' => e = .returned (.int .i64 ((s.states.length : Nat) : Int)) ∧ Below w2.heap.size w2 w' := hcs
  have HCS := hide hcs
  obtain ⟨⟨A1, c1, hvR, _, _, _⟩, ⟨A2, c2, hvM, hc2, hd2, hM⟩, ⟨A3, c3, hvF, _, _, _⟩⟩ := hin
  subst hvR hvM hvF
  have k0 : w2.cell? ⟨g, 0, none⟩ = some (.slice A1 D.roots.length c1) := blk_cell hh.blk 0
  have k1 : w2.cell? ⟨g, 1, none⟩ = some (.slice A2 D.mods.length c2) := blk_cell hh.blk 1
  have k2 : w2.cell? ⟨g, 2, none⟩ = some (.slice A3 D.faults.length c3) := blk_cell hh.blk 2
  have hmil : mi < D.mods.length := by
    rcases Nat.lt_or_ge mi D.mods.length with h | h
    · exact h
    · have := HMM.out; rw [List.getElem?_eq_none h] at this; simp at this
  have hme : D.mods[mi] = m := by have := HMM.out; rw [List.getElem?_eq_getElem hmil] at this; exact Option.some.inj this
  obtain ⟨ad, hA, _, A4, c4, hc4, hl4, hm4, hs4⟩ := hM.get hmil
  subst hA
  rw [hme] at hc4 hl4 hs4
  have e4 : w2.cell? ⟨(ad.add (mi * 2)).block, (ad.add (mi * 2)).off + 1, none⟩ = some (.slice A4 m.lines.length c4) := by have := hc4.2; rwa [add_pos _ _ (by omega)] at this
  have hlf := l2find_calls (.slice A1 D.roots.length c1) (.slice A3 D.faults.length c3) (some ad) c2 D.mods.length D.mods n K
  have HLF := hide (fun (w' : World) (hb : Below w2.heap.size w2 w') => hlf w' (hM.below hb) rfl (by omega))
  have hmI : (mi : Int) < D.mods.length := by omega
  clear hcs hlf hc4 hs5 hme
  go_wp2_with fail
  refine (unhide HCS).mono ?_
  rintro e w3 ⟨rfl, hb3⟩
  go_wp2_with fail
  go_cut [6] (fun c wx => c = .slice A4 m.lines.length c4 ∧ Below w3.heap.size w3 wx)
  case first =>
    have keep : ∀ {W1 W2 : World} {a : Addr} {v : Value}, W1.cell? a = some v → Below W1.heap.size W1 W2 → W2.cell? a = some v := fun h hb => (hb.cell (World.block_lt_of_cell? _ _ h)).trans h
    have j0 := keep k0 hb3
    have j1 := keep k1 hb3
    have j2 := keep k2 hb3
    have j4 := keep e4 hb3
    have hidx : idxI (Ld.modAt D.mods n) = (mi : Int) := by rw [HMI.out]; rfl
    refine wp_region_held_drew (S := fun w' => Below w3.heap.size w3 w' ∧ (w'.cell? ⟨g, 0, none⟩ = some (.slice A1 D.roots.length c1) ∧ w'.cell? ⟨g, 1, none⟩ = some (.slice (some ad) D.mods.length c2) ∧ w'.cell? ⟨g, 2, none⟩ = some (.slice A3 D.faults.length c3)) ∧ w'.cell? ⟨(ad.add (mi * 2)).block, (ad.add (mi * 2)).off + 1, none⟩ = some (.slice A4 m.lines.length c4)) (by kernel_rfl) ⟨Below.drew (Below.refl _ _), ⟨j0, j1, j2⟩, j4⟩ (fun hHeld => ?_)
    (refine wpAnyH_take (i := 0) (oi := ⟨some 33, _, _, _, _, _⟩) (v := .pointer (some ⟨g, 0, none⟩)) rfl (by kernel_rfl) (by kernel_rfl) (by kernel_rfl) (fun _ _ _ h => h) (Or.inl ⟨by rfl, ?_⟩) (by assumption) ?_; (focus (intro w hSw; (try dsimp only at hSw); go_simp; done)); try simp only [Act.put, List.setIfInBounds_toArray, List.set_cons_zero, List.set_cons_succ])
    (refine wpAnyH_take (i := 1) (oi := ⟨some 34, _, _, _, _, _⟩) (v := .pointer (some ⟨g, 0, none⟩)) rfl (by kernel_rfl) (by kernel_rfl) (by kernel_rfl) (fun _ _ _ h => h) (Or.inl ⟨by rfl, ?_⟩) (by assumption) ?_; (focus (intro w hSw; (try dsimp only at hSw); go_simp; done)); try simp only [Act.put, List.setIfInBounds_toArray, List.set_cons_zero, List.set_cons_succ])
    (refine wpAnyH_take (i := 2) (oi := ⟨some 35, _, _, _, _, _⟩) (v := .pointer (some ⟨g, 0, none⟩)) rfl (by kernel_rfl) (by kernel_rfl) (by kernel_rfl) (fun _ _ _ h => h) (Or.inl ⟨by rfl, ?_⟩) (by assumption) ?_; (focus (intro w hSw; (try dsimp only at hSw); go_simp; done)); try simp only [Act.put, List.setIfInBounds_toArray, List.set_cons_zero, List.set_cons_succ])
    (refine wpAnyH_take (i := 3) (oi := ⟨some 36, _, _, _, _, _⟩) (v := .pointer (some ⟨g, 1, none⟩)) rfl (by kernel_rfl) (by kernel_rfl) (by kernel_rfl) (fun _ _ _ h => h) (Or.inl ⟨by rfl, ?_⟩) (by assumption) ?_; (focus (intro w hSw; (try dsimp only at hSw); go_simp; done)); try simp only [Act.put, List.setIfInBounds_toArray, List.set_cons_zero, List.set_cons_succ])
    (refine wpAnyH_take (i := 4) (oi := ⟨some 37, _, _, _, _, _⟩) (v := .slice (some ad) D.mods.length c2) rfl (by kernel_rfl) (by kernel_rfl) (by kernel_rfl) (fun _ _ _ h => h) (Or.inl ⟨by rfl, ?_⟩) (by assumption) ?_; (focus (intro w hSw; (try dsimp only at hSw); go_simp; done)); try simp only [Act.put, List.setIfInBounds_toArray, List.set_cons_zero, List.set_cons_succ])
    (refine wpAnyH_take (i := 5) (oi := ⟨some 38, _, _, _, _, _⟩) (v := .pointer (some ⟨g, 0, none⟩)) rfl (by kernel_rfl) (by kernel_rfl) (by kernel_rfl) (fun _ _ _ h => h) (Or.inl ⟨by rfl, ?_⟩) (by assumption) ?_; (focus (intro w hSw; (try dsimp only at hSw); go_simp; done)); try simp only [Act.put, List.setIfInBounds_toArray, List.set_cons_zero, List.set_cons_succ])
    (refine wpAnyH_take (i := 6) (oi := ⟨some 39, _, _, _, _, _⟩) (v := .pointer (some ⟨g, 0, none⟩)) rfl (by kernel_rfl) (by kernel_rfl) (by kernel_rfl) (fun _ _ _ h => h) (Or.inl ⟨by rfl, ?_⟩) (by assumption) ?_; (focus (intro w hSw; (try dsimp only at hSw); go_simp; done)); try simp only [Act.put, List.setIfInBounds_toArray, List.set_cons_zero, List.set_cons_succ])
    (refine wpAnyH_take (i := 7) (oi := ⟨some 40, _, _, _, _, _⟩) (v := .pointer (some ⟨g, 0, none⟩)) rfl (by kernel_rfl) (by kernel_rfl) (by kernel_rfl) (fun _ _ _ h => h) (Or.inl ⟨by rfl, ?_⟩) (by assumption) ?_; (focus (intro w hSw; (try dsimp only at hSw); go_simp; done)); try simp only [Act.put, List.setIfInBounds_toArray, List.set_cons_zero, List.set_cons_succ])
    (refine wpAnyH_take (i := 8) (oi := ⟨some 41, _, _, _, _, _⟩) (v := .agg #[.slice A1 D.roots.length c1, .slice (some ad) D.mods.length c2, .slice A3 D.faults.length c3]) rfl (by kernel_rfl) (by kernel_rfl) (by kernel_rfl) (fun _ _ _ h => h) (Or.inl ⟨by rfl, ?_⟩) (by assumption) ?_; (focus (intro w hSw; (try dsimp only at hSw); go_simp; done)); try simp only [Act.put, List.setIfInBounds_toArray, List.set_cons_zero, List.set_cons_succ])
    (refine wpAnyH_take (i := 9) (oi := ⟨some 42, _, _, _, _, _⟩) (v := .string n) rfl (by kernel_rfl) (by kernel_rfl) (by kernel_rfl) (fun _ _ _ h => h) (Or.inl ⟨by rfl, ?_⟩) (by assumption) ?_; (focus (intro w hSw; (try dsimp only at hSw); go_simp; done)); try simp only [Act.put, List.setIfInBounds_toArray, List.set_cons_zero, List.set_cons_succ])
    refine wpAnyH_ready (rs := [10]) (by kernel_rfl) (by simp) ?_
    refine AllReadyH.cons (o := ⟨some 43, _, _, _, _, _⟩) rfl (fun K hK => ?_) AllReadyH.nil
    go_simp
    refine (HLF.out _ (below_then hb3 hb3.size hHeld.1)).mono ?_
    rw [hidx]
    rintro e w4 ⟨rfl, hb4⟩
    refine hK.out _ _ (by
      obtain ⟨u0, ⟨u1, u2, u3⟩, u4⟩ := hHeld
      exact ⟨below_then u0 u0.size hb4, ⟨keep u1 hb4, keep u2 hb4, keep u3 hb4⟩, keep u4 hb4⟩) (fun hHeld => ?_)
    clear hK K
    try simp only [Act.put, List.setIfInBounds_toArray, List.set_cons_zero, List.set_cons_succ]
    (refine wpAnyH_take (i := 11) (oi := ⟨some 44, _, _, _, _, _⟩) (v := .pointer (some (ad.add (mi * 2)))) rfl (by kernel_rfl) (by kernel_rfl) (by kernel_rfl) (fun _ _ _ h => h) (Or.inl ⟨by rfl, ?_⟩) (by assumption) ?_; (focus (intro w hSw; (try dsimp only at hSw); go_simp; done)); try simp only [Act.put, List.setIfInBounds_toArray, List.set_cons_zero, List.set_cons_succ])
    (refine wpAnyH_take (i := 12) (oi := ⟨some 45, _, _, _, _, _⟩) (v := .pointer (some ⟨(ad.add (mi * 2)).block, (ad.add (mi * 2)).off + 1, none⟩)) rfl (by kernel_rfl) (by kernel_rfl) (by kernel_rfl) (fun _ _ _ h => h) (Or.inl ⟨by rfl, ?_⟩) (by assumption) ?_; (focus (intro w hSw; (try dsimp only at hSw); go_simp; done)); try simp only [Act.put, List.setIfInBounds_toArray, List.set_cons_zero, List.set_cons_succ])
    (refine wpAnyH_take (i := 13) (oi := ⟨some 46, _, _, _, _, _⟩) (v := .slice A4 m.lines.length c4) rfl (by kernel_rfl) (by kernel_rfl) (by kernel_rfl) (fun _ _ _ h => h) (Or.inl ⟨by rfl, ?_⟩) (by assumption) ?_; (focus (intro w hSw; (try dsimp only at hSw); go_simp; done)); try simp only [Act.put, List.setIfInBounds_toArray, List.set_cons_zero, List.set_cons_succ])
    (refine wpAnyH_take (i := 14) (oi := ⟨some 6, _, _, _, _, _⟩) (v := .slice A4 m.lines.length c4) rfl (by kernel_rfl) (by kernel_rfl) (by kernel_rfl) (fun _ _ _ h => h) (Or.inl ⟨by rfl, ?_⟩) (by assumption) ?_; (focus (intro w hSw; (try dsimp only at hSw); go_simp; done)); try simp only [Act.put, List.setIfInBounds_toArray, List.set_cons_zero, List.set_cons_succ])
    refine wpAnyH_done (by kernel_rfl) ?_ _
    go_wp2_with fail
    go_meet
    exact ⟨rfl, hHeld.1⟩
  case rest =>
    obtain ⟨rfl, hb4⟩ := hcut
    have hb34 := below_then hb3 hb3.size hb4
    have hsatb := hsat2.below hb34
    have hkb := hk.then (Keep.of_below (K := K) hb34) (fun b hb => hb)
    have hslb := hs4.below hb34
    have HGO := hide (Ld.get_ok hD.lines f (s.stack ++ [n]) (by rw [List.length_append, List.length_singleton]; omega))
    have HMID := hide (show Ld.Mid D s.states n (s.stack ++ [n]) (s.begin n) (b + 1 + 2 * m.lines.length) from ⟨HBG.out.less (by omega), rfl, 0, [], by simp [Ld.St.begin], by simp⟩)
    clear hb3 hb4 hb34 k0 k1 k2 k5 e4 hs4 hsat2 hh hM HCS HLF HMM HMI HG hmm
    obtain ⟨wb, rfl⟩ : ∃ wb : World, wb = wc := ⟨_, rfl⟩
    go_upto_block 0 with fail
    go_cut [7] (fun c7 wx => ∃ (c : Int) (s1 : Ld.St) (K1 : Nat → Prop), c7 = .int .i64 c ∧ (∀ b, K b → K1 b) ∧ SAt wx g K1 (.slice A1 D.roots.length c1) (.slice (some ad) D.mods.length c2) (.slice A3 D.faults.length c3) D s1 ∧ Keep K wb wx ∧ Hid (Ld.lines (Ld.get D f) D s.states.length n m.lines m.lines.length 0 (s.begin n) = (c, s1)) ∧ Hid (Ld.Mid D s.states n (s.stack ++ [n]) s1 (b + 1)))
    case first =>
      go_wp2_with fail
      go_loopw [7, 8] (fun c7 i8 wr => ∃ (i fu : Nat) (c : Int) (s1 : Ld.St) (K1 : Nat → Prop), i8 = .int .i64 i ∧ c7 = .int .i64 c ∧ i ≤ m.lines.length ∧ m.lines.length ≤ i + fu ∧ (∀ b, K b → K1 b) ∧ SAt wr g K1 (.slice A1 D.roots.length c1) (.slice (some ad) D.mods.length c2) (.slice A3 D.faults.length c3) D s1 ∧ Keep K wb wr ∧ Hid (Ld.lines (Ld.get D f) D s.states.length n m.lines m.lines.length 0 (s.begin n) = if c ≠ 0 then (c, s1) else Ld.lines (Ld.get D f) D s.states.length n m.lines fu i s1) ∧ Hid (Ld.Mid D s.states n (s.stack ++ [n]) s1 (b + 1 + 2 * fu))) (fun _ i8 _ => m.lines.length - (intOf i8).toNat)
      case atStart => exact ⟨0, m.lines.length, 0, s.begin n, K, rfl, rfl, by omega, by omega, fun b hb => hb, hsatb, Keep.refl _ _, hide (by simp), HMID⟩
      case round =>
        clear hsatb HMID
        obtain ⟨i, fu, c, s1, K1, rfl, rfl, hiL, hfu, hK1, hsat, hkr, HL, HM⟩ := hrel
        by_cases hrd : i < m.lines.length ∧ c = 0
        · obtain ⟨hlt, rfl⟩ := hrd
          obtain ⟨fu, rfl⟩ : ∃ q, fu = q + 1 := ⟨fu - 1, by omega⟩
          obtain ⟨al, hA, l0, l1, l2, l3⟩ := (hslb.keep hkr).get hlt
          subst hA
          have e0 : wr.cell? (al.add (i * 4)) = some (.int .i64 m.lines[i].op) := l0.2
          have e1 : wr.cell? ⟨(al.add (i * 4)).block, (al.add (i * 4)).off + 1, none⟩ = some (.string m.lines[i].name) := by have := l1.2; rwa [add_pos _ _ (by omega)] at this
          have e2 : wr.cell? ⟨(al.add (i * 4)).block, (al.add (i * 4)).off + 2, none⟩ = some (.int .i64 m.lines[i].num) := by have := l2.2; rwa [add_pos _ _ (by omega)] at this
          have e3 : wr.cell? ⟨(al.add (i * 4)).block, (al.add (i * 4)).off + 3, none⟩ = some (.int .i64 m.lines[i].skip) := by have := l3.2; rwa [add_pos _ _ (by omega)] at this
          have hli := List.getElem?_eq_getElem hlt
          have hlk := HOK.out i _ hli
          have hlz := HLN.out _ (List.getElem_mem hlt)
          have hstep := HL.out
          rw [if_neg (by simp), Ld.lines_step hli] at hstep
          have hmid2 := Ld.line_ok HGO.out m.lines[i] (show Ld.Mid D s.states n (s.stack ++ [n]) s1 (b + 1 + 2 * fu + 2) from HM.out.less (by omega))
          clear l0 l1 l2 l3 hli
          generalize m.lines[i] = l at e0 e1 e2 e3 hlk hlz hstep hmid2
          have hgood := HM.out.good
          have hrm := hgood.room
          have hstk1 := HM.out.stack
          have hsl1 := hgood.len
          have hba : Below wr.heap.size wr (wr.alloc (Obj.cells #[.int .i64 l.op, .string l.name, .int .i64 l.num, .int .i64 l.skip] 106)) := by (repeat (first | with_reducible exact Below.refl _ _ | with_reducible assumption | with_reducible refine Below.alloc ?_ (by first | exact Nat.le_refl _ | exact Below.size (by assumption) | exact Nat.le_trans (Below.size (by assumption)) (by simp; done) | (simp; done) | (simp; omega) | omega) _ | with_reducible refine below_drewN ?_ _ | with_reducible refine Below.drew ?_ | with_reducible refine Below.setCell ?_ (by first | exact Nat.le_refl _ | (simp; done) | (simp; omega) | omega) _))
          have hsatA := hsat.below hba
          have hkrA := hkr.then (Keep.of_below (K := K) hba) (fun b hb => hb)
          have hblkA := heap_alloc_new wr (Obj.cells #[.int .i64 l.op, .string l.name, .int .i64 l.num, .int .i64 l.skip] 106)
          have hltA : wr.heap.size < (wr.alloc (Obj.cells #[.int .i64 l.op, .string l.name, .int .i64 l.num, .int .i64 l.skip] 106)).heap.size := by simp
          have HLK := hide hlk
          have HGD := hide hgood
          have HS1 := hide hstk1
          clear hlk hgood hstk1 hba
          obtain ⟨op, lname, lnum, lskip⟩ := l
          replace hlz : lname.size ≤ 1048576 := hlz
          have hop := Ld.line_op HLK.out
          replace hop : op = 1 ∨ op = 2 ∨ op = 3 ∨ op = 4 ∨ op = 5 ∨ op = 6 ∨ op = 7 := hop
          rcases hop with rfl | rfl | rfl | rfl | rfl | rfl | rfl
          · -- say
            rw [Ld.line_1 rfl] at hstep hmid2
            have HST2 := hide hstep
            have HMD2 := hide hmid2
            clear hstep hmid2 hblkA
            go_wp2_with fail
            refine (rec_calls _ g K1 _ _ _ D s1 hsatA 3 0 lnum n (by omega)).mono ?_
            rintro e w5 ⟨rfl, hs5, hk5⟩
            have hkr5 := hkrA.then hk5 hK1
            clear hsatA hkrA hk5 hsat
            go_wp2_with fail
            go_roundw
            case rel => exact ⟨i + 1, fu, 0, _, K1, by go_num, rfl, by omega, by omega, hK1, hs5, hkr5, hide (HST2.out.trans (by simp)), HMD2⟩
            case measure => simp [intOf]; omega
          · -- give
            rw [Ld.line_2 rfl] at hstep hmid2
            have HST2 := hide hstep
            have HMD2 := hide hmid2
            clear hstep hmid2
            obtain ⟨g0, more, hsts, _⟩ := HM.out.states
            obtain ⟨xc, xs, xr, xk, hh, hin⟩ := hsatA
            have hne : s1.states ≠ [] := by rw [hsts]; simp
            obtain ⟨gb, cb, hxs, _, _, _, _, hob, _⟩ := hh.states.form hne
            subst hxs
            have hkl : s.states.length < s1.states.length := by rw [hsts]; simp
            have hkI : (s.states.length : Int) < s1.states.length := by omega
            have hsk : s1.states[s.states.length]? = some ⟨n, 1, g0, 0⟩ := by rw [hsts, List.getElem?_append_right (Nat.le_refl _)]; simp
            have hcell := hh.states.cellAt (j := 2) hsk rfl
            have c2' : (wr.alloc (Obj.cells #[.int .i64 2, .string lname, .int .i64 lnum, .int .i64 lskip] 106)).cell? ⟨gb, s.states.length * 4 + 2, none⟩ = some (.int .i64 g0) := hcell
            have f2' := hh.states.free (s.states.length * 4 + 2)
            have k5 : (wr.alloc (Obj.cells #[.int .i64 2, .string lname, .int .i64 lnum, .int .i64 lskip] 106)).cell? ⟨g, 5, none⟩ = some (.slice (some ⟨gb, 0, none⟩) s1.states.length cb) := blk_cell hh.blk 5
            have hhd := hh.drew
            have hown := (hhd.states).store rfl s.states.length 2 ⟨n, 1, lnum, 0⟩ (.int .i64 lnum) (by show 2 < 4; omega) (fun x hx => by rw [hsk] at hx; obtain rfl := Option.some.inj hx; rfl)
            have hto := hhd.states_to hown (by rw [hob]; exact grown_set _ gb _ _) (.inl rfl)
            have hin5 := (hin.below (Below.drew (Below.refl _ _))).same (hto.2.same (fun b hb => hb) hhd.KS)
            have hs5 : SAt ((wr.alloc (Obj.cells #[.int .i64 2, .string lname, .int .i64 lnum, .int .i64 lskip] 106)).drew.setCell ⟨gb, s.states.length * 4 + 2, none⟩ (.int .i64 lnum)) g K1 (.slice A1 D.roots.length c1) (.slice (some ad) D.mods.length c2) (.slice A3 D.faults.length c3) D (s1.give s.states.length n lnum) := by
              refine SAtV.sat (vc := xc) (vs := .slice (some ⟨gb, 0, none⟩) s1.states.length cb) (vr := xr) (vk := xk) ⟨?_, hin5⟩
              exact hto.1
            have hkr5 := (hkrA.then (Keep.of_below (K := K) (Below.drew (Below.refl _ _))) (fun b hb => hb)).then hto.2 hK1
            have x2 : (wr.alloc (Obj.cells #[.int .i64 2, .string lname, .int .i64 lnum, .int .i64 lskip] 106)).cell? ⟨wr.heap.size, 2, none⟩ = some (.int .i64 lnum) := blk_cell hblkA 2
            clear hto hin5 hown hhd hcell hsk hsts hh hin hkrA hblkA hsat hob
            go_wp2_with fail
            generalize wr.alloc (Obj.cells #[.int .i64 2, .string lname, .int .i64 lnum, .int .i64 lskip] 106) = WA at k5 c2' f2' hs5 hkr5 x2 ⊢
            go_still_tail 10, (by kernel_rfl)
            change wpList _ _ _ _ _ (World.drew _)
            go_wp2_with fail
            go_roundw
            case rel => exact ⟨i + 1, fu, 0, _, K1, by go_num, rfl, by omega, by omega, hK1, hs5, hkr5, hide (HST2.out.trans (by simp)), HMD2⟩
            case measure => simp [intOf]; omega
          · -- import
            have hex := HGO.out n lname s1 0 (HGD.out.less (by omega)) HS1.out
            have hgc := fun (w' : World) (hs : SAt w' g K1 (.slice A1 D.roots.length c1) (.slice (some ad) D.mods.length c2) (.slice A3 D.faults.length c3) D s1) => hget w' K1 s1 0 n lname hs (HGD.out.less (by omega)) (by rw [HS1.out, List.length_append, List.length_singleton]; omega) (by omega) hlz
            rw [Ld.line_3 rfl] at hstep hmid2
            obtain ⟨gn, gc, gs, hgq⟩ : ∃ gn gc gs, Ld.get D f n lname s1 = (gn, gc, gs) := ⟨_, _, _, rfl⟩
            rw [hgq] at hstep hmid2 hgc
            have HST2 := hide hstep
            have HMD2 := hide hmid2
            have HGC := hide hgc
            clear hstep hmid2 hgc hgq hex hblkA
            go_wp2_with fail
            refine (HGC.out _ hsatA).mono ?_
            rintro e w5 ⟨rfl, K2, hK2, hs5, hk5⟩
            have hkr5 := hkrA.then hk5 hK1
            clear hsatA hkrA hk5 hsat
            go_wp2_with fail
            go_roundw
            case rel => exact ⟨i + 1, fu, gc, gs, K2, by go_num, rfl, by omega, by omega, fun b hb => hK2 b (hK1 b hb), hs5, hkr5, hide HST2.out, HMD2⟩
            case measure => simp [intOf]; omega
          · -- try
            have hex := HGO.out n lname s1 0 (HGD.out.less (by omega)) HS1.out
            have hgc := fun (w' : World) (hs : SAt w' g K1 (.slice A1 D.roots.length c1) (.slice (some ad) D.mods.length c2) (.slice A3 D.faults.length c3) D s1) => hget w' K1 s1 0 n lname hs (HGD.out.less (by omega)) (by rw [HS1.out, List.length_append, List.length_singleton]; omega) (by omega) hlz
            rw [Ld.line_4 rfl] at hstep hmid2
            obtain ⟨gn, gc, gs, hgq⟩ : ∃ gn gc gs, Ld.get D f n lname s1 = (gn, gc, gs) := ⟨_, _, _, rfl⟩
            rw [hgq] at hstep hmid2 hgc hex
            have hgroom := hex.good.room
            replace hgroom : gs.recs.length ≤ 9000 := by
              have : gs.recs.length + gs.rings.length + 0 + 130 * (D.mods.length - gs.states.length) + (400 - gs.reads) ≤ 9000 := hgroom
              omega
            have HGC := hide hgc
            by_cases hgz : gc = 0
            · subst hgz
              have HST2 := hide hstep
              have HMD2 := hide hmid2
              clear hstep hmid2 hgc hgq hex hblkA
              go_wp2_with fail
              refine (HGC.out _ hsatA).mono ?_
              rintro e w5 ⟨rfl, K2, hK2, hs5, hk5⟩
              have hkr5 := hkrA.then hk5 hK1
              clear hsatA hkrA hk5 hsat
              go_wp2_with fail
              go_roundw
              case rel => exact ⟨i + 1, fu, 0, gs, K2, by go_num, rfl, by omega, by omega, fun b hb => hK2 b (hK1 b hb), hs5, hkr5, hide (HST2.out.trans (by simp)), hide (by simpa using HMD2.out)⟩
              case measure => simp [intOf]; omega
            · have hgb : (gc != 0) = true := by simpa using hgz
              rw [if_pos hgz] at hstep hmid2
              have HST2 := hide hstep
              have HMD2 := hide hmid2
              clear hstep hmid2 hgc hgq hex hblkA hgz
              go_wp2_with fail
              refine (HGC.out _ hsatA).mono ?_
              rintro e w5 ⟨rfl, K2, hK2, hs5, hk5⟩
              have hkr5 := hkrA.then hk5 hK1
              clear hsatA hkrA hk5 hsat
              go_wp2_with fail
              refine (rec_calls _ g K2 _ _ _ D gs hs5 6 gc 0 gn hgroom).mono ?_
              rintro e w6 ⟨rfl, hs6, hk6⟩
              have hkr6 := hkr5.then hk6 (fun b hb => hK2 b (hK1 b hb))
              clear hs5 hk6 hkr5
              go_wp2_with fail
              go_roundw
              case rel => exact ⟨i + 1, fu, 0, _, K2, by go_num, rfl, by omega, by omega, fun b hb => hK2 b (hK1 b hb), hs6, hkr6, hide (HST2.out.trans (by simp)), HMD2⟩
              case measure => simp [intOf]; omega
          · -- show
            have hkn := fun (w' : World) (hs : SAt w' g K1 (.slice A1 D.roots.length c1) (.slice (some ad) D.mods.length c2) (.slice A3 D.faults.length c3) D s1) => known_calls w' g K1 _ _ _ D s1 hs hD.sz n lname (by omega) hlz
            obtain ⟨kr1, kr2, hkq⟩ : ∃ kr1 kr2, Ld.known D n lname s1 = (kr1, kr2) := ⟨_, _, rfl⟩
            have hkc := Ld.known_code D n lname s1
            rw [hkq] at hkc
            cases kr1 with
            | none =>
              rw [Ld.line_5_none rfl (by show (Ld.known D n lname s1).1 = none; rw [hkq])] at hstep hmid2
              replace hstep : _ = if (Ld.known D n lname s1).2 ≠ 0 then ((Ld.known D n lname s1).2, s1) else _ := hstep
              rw [hkq] at hstep
              rw [hkq] at hkn
              have hkz : kr2 ≠ 0 := by simpa using hkc
              have hkb : (kr2 == 0) = false := by simpa using hkz
              replace hstep : _ = if kr2 ≠ 0 then (kr2, s1) else _ := hstep
              rw [if_pos hkz] at hstep
              have HST2 := hide hstep
              have HMD2 := hide hmid2
              have HKN := hide hkn
              have HKZ := hide hkz
              clear hstep hmid2 hkn hkz hkc hkq
              go_wp2_with fail
              refine (HKN.out _ hsatA).mono ?_
              rintro e w5 ⟨rfl, hb5⟩
              have hs5 := hsatA.below hb5
              have hkr5 := hkrA.then (Keep.of_below (K := K) hb5) (fun b hb => hb)
              clear hsatA hkrA hb5 hsat hblkA
              go_wp2_with fail
              go_roundw
              case rel => exact ⟨i + 1, fu, kr2, s1, K1, by go_num, rfl, by omega, by omega, hK1, hs5, hkr5, hide (HST2.out.trans (by rw [if_pos HKZ.out])), HMD2⟩
              case measure => simp [intOf]; omega
            | some x =>
              obtain ⟨xn, xi⟩ := x
              have hx : (Ld.known D n lname s1).1 = some (xn, xi) := by rw [hkq]
              rw [Ld.line_5_some rfl hx] at hstep hmid2
              obtain ⟨hxa, xt, hxt, _⟩ := Ld.known_at hx
              replace hxa : Ld.stAt s1.states xn = some xi := hxa
              replace hxt : s1.states[xi]? = some xt := hxt
              have hgv : Ld.giveAt s1.states xi = xt.give := by unfold Ld.giveAt; rw [hxt]
              replace hstep : _ = if (0 : Int) ≠ 0 then _ else Ld.lines (Ld.get D f) D s.states.length n m.lines fu (i + 1 + 0) (s1.note ⟨3, n, 0, Ld.giveAt s1.states xi⟩) := hstep
              replace hmid2 : Ld.Mid D s.states n (s.stack ++ [n]) (s1.note ⟨3, n, 0, Ld.giveAt s1.states xi⟩) _ := hmid2
              rw [hgv] at hstep hmid2
              rw [hkq] at hkn
              have hk2 : kr2 = 0 := by simpa using hkc
              subst hk2
              have hxl : xi < s1.states.length := by
                rcases Nat.lt_or_ge xi s1.states.length with h | h
                · exact h
                · rw [List.getElem?_eq_none h] at hxt; simp at hxt
              have HST2 := hide hstep
              have HMD2 := hide hmid2
              have HKN := hide hkn
              have HXA := hide hxa
              have HXT := hide hxt
              clear hstep hmid2 hkn hkc hkq hx hgv hxa hxt
              go_wp2_with fail
              refine (HKN.out _ hsatA).mono ?_
              rintro e w5 ⟨rfl, hb5⟩
              have hs5 := hsatA.below hb5
              have hkr5 := hkrA.then (Keep.of_below (K := K) hb5) (fun b hb => hb)
              clear hsatA hkrA hb5 hsat hblkA
              simp only [kname]
              go_wp2_with fail
              replace hs5 := hs5.below (Below.drew (Below.refl _ _))
              replace hkr5 := hkr5.then (Keep.of_below (K := K) (Below.drew (Below.refl _ _))) (fun b hb => hb)
              obtain ⟨xc, xs, xr, xk, hh, hin⟩ := id hs5
              obtain ⟨A5, c5, hxs, _, _, hsl5⟩ := hh.states.slV
              subst hxs
              have hne : s1.states ≠ [] := by intro h0; rw [h0] at hxl; simp at hxl
              obtain ⟨gb, cb, hxs, _, _, _, _, hob, _⟩ := hh.states.form hne
              injection hxs with hA5 _ hcb
              subst hA5 hcb
              have k5 : (w5.drew).cell? ⟨g, 5, none⟩ = some (.slice (some ⟨gb, 0, none⟩) s1.states.length c5) := blk_cell hh.blk 5
              have q2 : (w5.drew).cell? ⟨gb, xi * 4 + 2, none⟩ = some (.int .i64 xt.give) := hh.states.cellAt (j := 2) HXT.out rfl
              have hcs := fun (w' : World) (hb : Below w5.drew.heap.size w5.drew w') => state_calls g (some ⟨gb, 0, none⟩) c5 s1.states.length s1.states xn _ w' ((hb.cell (World.block_lt_of_cell? _ _ k5)).trans k5) (hsl5.below hb) rfl (by omega)
              rw [HXA.out, show idxI (some xi) = ((xi : Nat) : Int) from rfl] at hcs
              have HCS := hide hcs
              have hxI : (xi : Int) < s1.states.length := by omega
              obtain ⟨cur5, hblk5⟩ := own_blkOf hh.states hob
              clear hcs hh hin hsl5 hob
              refine wp_region_held_drew (S := fun w' => w'.cell? ⟨g, 5, none⟩ = some (.slice (some ⟨gb, 0, none⟩) s1.states.length c5) ∧ w'.cell? ⟨gb, xi * 4 + 2, none⟩ = some (.int .i64 xt.give)) (by kernel_rfl) ⟨k5, q2⟩ (fun hHeld => ?_)
              (refine wpAnyH_take (i := 0) (oi := ⟨some 121, _, _, _, _, _⟩) (v := .pointer (some ⟨g, 0, none⟩)) rfl (by kernel_rfl) (by kernel_rfl) (by kernel_rfl) (fun _ _ _ h => h) (Or.inl ⟨by rfl, ?_⟩) (by assumption) ?_; (focus (intro w hSw; (try dsimp only at hSw); go_simp; done)); try simp only [Act.put, List.setIfInBounds_toArray, List.set_cons_zero, List.set_cons_succ])
              (refine wpAnyH_take (i := 1) (oi := ⟨some 122, _, _, _, _, _⟩) (v := .string n) rfl (by kernel_rfl) (by kernel_rfl) (by kernel_rfl) (fun _ _ _ h => h) (Or.inl ⟨by rfl, ?_⟩) (by assumption) ?_; (focus (intro w hSw; (try dsimp only at hSw); go_simp; done)); try simp only [Act.put, List.setIfInBounds_toArray, List.set_cons_zero, List.set_cons_succ])
              (refine wpAnyH_take (i := 2) (oi := ⟨some 123, _, _, _, _, _⟩) (v := .pointer (some ⟨g, 0, none⟩)) rfl (by kernel_rfl) (by kernel_rfl) (by kernel_rfl) (fun _ _ _ h => h) (Or.inl ⟨by rfl, ?_⟩) (by assumption) ?_; (focus (intro w hSw; (try dsimp only at hSw); go_simp; done)); try simp only [Act.put, List.setIfInBounds_toArray, List.set_cons_zero, List.set_cons_succ])
              (refine wpAnyH_take (i := 3) (oi := ⟨some 124, _, _, _, _, _⟩) (v := .pointer (some ⟨g, 0, none⟩)) rfl (by kernel_rfl) (by kernel_rfl) (by kernel_rfl) (fun _ _ _ h => h) (Or.inl ⟨by rfl, ?_⟩) (by assumption) ?_; (focus (intro w hSw; (try dsimp only at hSw); go_simp; done)); try simp only [Act.put, List.setIfInBounds_toArray, List.set_cons_zero, List.set_cons_succ])
              (refine wpAnyH_take (i := 4) (oi := ⟨some 125, _, _, _, _, _⟩) (v := .pointer (some ⟨g, 3, none⟩)) rfl (by kernel_rfl) (by kernel_rfl) (by kernel_rfl) (fun _ _ _ h => h) (Or.inl ⟨by rfl, ?_⟩) (by assumption) ?_; (focus (intro w hSw; (try dsimp only at hSw); go_simp; done)); try simp only [Act.put, List.setIfInBounds_toArray, List.set_cons_zero, List.set_cons_succ])
              (refine wpAnyH_take (i := 5) (oi := ⟨some 126, _, _, _, _, _⟩) (v := .pointer (some ⟨g, 5, none⟩)) rfl (by kernel_rfl) (by kernel_rfl) (by kernel_rfl) (fun _ _ _ h => h) (Or.inl ⟨by rfl, ?_⟩) (by assumption) ?_; (focus (intro w hSw; (try dsimp only at hSw); go_simp; done)); try simp only [Act.put, List.setIfInBounds_toArray, List.set_cons_zero, List.set_cons_succ])
              (refine wpAnyH_take (i := 6) (oi := ⟨some 127, _, _, _, _, _⟩) (v := .slice (some ⟨gb, 0, none⟩) s1.states.length c5) rfl (by kernel_rfl) (by kernel_rfl) (by kernel_rfl) (fun _ _ _ h => h) (Or.inl ⟨by rfl, ?_⟩) (by assumption) ?_; (focus (intro w hSw; (try dsimp only at hSw); go_simp; done)); try simp only [Act.put, List.setIfInBounds_toArray, List.set_cons_zero, List.set_cons_succ])
              (refine wpAnyH_take (i := 7) (oi := ⟨some 128, _, _, _, _, _⟩) (v := .pointer (some ⟨g, 0, none⟩)) rfl (by kernel_rfl) (by kernel_rfl) (by kernel_rfl) (fun _ _ _ h => h) (Or.inl ⟨by rfl, ?_⟩) (by assumption) ?_; (focus (intro w hSw; (try dsimp only at hSw); go_simp; done)); try simp only [Act.put, List.setIfInBounds_toArray, List.set_cons_zero, List.set_cons_succ])
              (refine wpAnyH_take (i := 8) (oi := ⟨some 129, _, _, _, _, _⟩) (v := .string xn) rfl (by kernel_rfl) (by kernel_rfl) (by kernel_rfl) (fun _ _ _ h => h) (Or.inl ⟨by rfl, ?_⟩) (by assumption) ?_; (focus (intro w hSw; (try dsimp only at hSw); go_simp; done)); try simp only [Act.put, List.setIfInBounds_toArray, List.set_cons_zero, List.set_cons_succ])
              refine wpAnyH_ready (rs := [9]) (by kernel_rfl) (by simp) ?_
              refine AllReadyH.cons (o := ⟨some 130, _, _, _, _, _⟩) rfl (fun K hK => ?_) AllReadyH.nil
              go_simp
              refine (HCS.out _ (Below.refl _ _)).mono ?_
              rintro e w6 ⟨rfl, hb6⟩
              have keep : ∀ {W1 W2 : World} {a : Addr} {v : Value}, W1.cell? a = some v → Below W1.heap.size W1 W2 → W2.cell? a = some v := fun h hb => (hb.cell (World.block_lt_of_cell? _ _ h)).trans h
              refine hK.out _ _ ⟨keep k5 hb6, keep q2 hb6⟩ (fun hHeld => ?_)
              clear hK K
              try simp only [Act.put, List.setIfInBounds_toArray, List.set_cons_zero, List.set_cons_succ]
              have hs6 := hs5.below hb6
              have hkr6 := hkr5.then (Keep.of_below (K := K) hb6) (fun b hb => hb)
              (refine wpAnyH_take (i := 10) (oi := ⟨some 131, _, _, _, _, _⟩) (v := .pointer (some ⟨gb, xi * 4, none⟩)) rfl (by kernel_rfl) (by kernel_rfl) (by kernel_rfl) (fun _ _ _ h => h) (Or.inl ⟨by rfl, ?_⟩) (by assumption) ?_; (focus (intro w hSw; (try dsimp only at hSw); go_simp; done)); try simp only [Act.put, List.setIfInBounds_toArray, List.set_cons_zero, List.set_cons_succ])
              (refine wpAnyH_take (i := 11) (oi := ⟨some 132, _, _, _, _, _⟩) (v := .pointer (some ⟨gb, xi * 4 + 2, none⟩)) rfl (by kernel_rfl) (by kernel_rfl) (by kernel_rfl) (fun _ _ _ h => h) (Or.inl ⟨by rfl, ?_⟩) (by assumption) ?_; (focus (intro w hSw; (try dsimp only at hSw); go_simp; done)); try simp only [Act.put, List.setIfInBounds_toArray, List.set_cons_zero, List.set_cons_succ])
              (refine wpAnyH_take (i := 12) (oi := ⟨some 133, _, _, _, _, _⟩) (v := .int .i64 xt.give) rfl (by kernel_rfl) (by kernel_rfl) (by kernel_rfl) (fun _ _ _ h => h) (Or.inl ⟨by rfl, ?_⟩) (by assumption) ?_; (focus (intro w hSw; (try dsimp only at hSw); go_simp; done)); try simp only [Act.put, List.setIfInBounds_toArray, List.set_cons_zero, List.set_cons_succ])
              refine wpAnyH_ready (rs := [13]) (by kernel_rfl) (by simp) ?_
              refine AllReadyH.cons (o := ⟨some 134, _, _, _, _, _⟩) rfl (fun K hK => ?_) AllReadyH.nil
              go_simp
              refine (rec_strong _ g K1 _ _ _ D s1 hs6 3 0 xt.give n (by omega)).mono ?_
              rintro e w7 ⟨rfl, hs7, hk7, hc7, hb7⟩
              refine hK.out _ _ ⟨(hc7 5 (by omega)).trans hHeld.1, ?_⟩ (fun hHeld => ?_)
              · exact (show _ = _ by unfold World.cell?; rw [hb7 gb cur5 ((hb6.block gb (Array.getElem?_eq_some_iff.1 hblk5).1).trans hblk5)]).trans hHeld.2
              clear hK K
              try simp only [Act.put, List.setIfInBounds_toArray, List.set_cons_zero, List.set_cons_succ]
              have hkr7 := hkr6.then hk7 hK1
              clear hs6 hkr6 hs5 hkr5 hk7 hc7 hb7 HCS
              refine wpAnyH_done (by kernel_rfl) ?_ _
              go_wp2_with fail
              go_roundw
              case rel => exact ⟨i + 1, fu, 0, _, K1, by go_num, rfl, by omega, by omega, hK1, hs7, hkr7, hide (HST2.out.trans (by simp)), HMD2⟩
              case measure => simp [intOf]; omega
          · -- throw
            rw [Ld.line_6 rfl] at hstep hmid2
            have HST2 := hide hstep
            have HMD2 := hide hmid2
            clear hstep hmid2
            obtain ⟨xc, xs, xr, xk, hh, hin⟩ := hsatA
            have k9 : (wr.alloc (Obj.cells #[.int .i64 6, .string lname, .int .i64 lnum, .int .i64 lskip] 106)).cell? ⟨g, 9, none⟩ = some (.int .i64 s1.thrown) := blk_cell hh.blk 9
            have f9 := blk_free hh.blk 9
            have hset := hh.set 9 (.int .i64 lnum)
            have hin9 := hin.same (hset.2.same (fun b hb => hb) hh.KS)
            have hs5 : SAt ((wr.alloc (Obj.cells #[.int .i64 6, .string lname, .int .i64 lnum, .int .i64 lskip] 106)).setCell ⟨g, 9, none⟩ (.int .i64 lnum)) g K1 (.slice A1 D.roots.length c1) (.slice (some ad) D.mods.length c2) (.slice A3 D.faults.length c3) D { s1 with thrown := lnum } := SAtV.sat (vc := xc) (vs := xs) (vr := xr) (vk := xk) ⟨hset.1, hin9⟩
            have hkr5 := hkrA.then hset.2 hK1
            clear hset hin9 hh hin hkrA hblkA hsat
            go_wp2_with fail
            go_roundw
            case rel => exact ⟨i + 1, fu, 6, _, K1, by go_num, rfl, by omega, by omega, hK1, hs5, hkr5, hide HST2.out, HMD2⟩
            case measure => simp [intOf]; omega
          · -- if
            rw [Ld.line_7 rfl] at hstep hmid2
            have hsk := Ld.line_skip HLK.out rfl
            replace hsk : 0 ≤ lskip ∧ lskip ≤ (m.lines.length : Int) - i - 1 := hsk
            have hkc := Ld.known_code D n lname s1
            have hkn := fun (w' : World) (hs : SAt w' g K1 (.slice A1 D.roots.length c1) (.slice (some ad) D.mods.length c2) (.slice A3 D.faults.length c3) D s1) => known_calls w' g K1 _ _ _ D s1 hs hD.sz n lname (by omega) hlz
            replace hstep : _ = if (0 : Int) ≠ 0 then _ else Ld.lines (Ld.get D f) D s.states.length n m.lines fu (i + 1 + if (Ld.known D n lname s1).1.isSome = true then 0 else lskip.toNat) s1 := hstep
            generalize Ld.known D n lname s1 = kr at hstep hmid2 hkc hkn
            obtain ⟨kr1, kr2⟩ := kr
            replace hkc : (kr1.isSome = true ∧ kr2 = 0) ∨ (kr1 = none ∧ kr2 ≠ 0) := hkc
            replace hstep : _ = if (0 : Int) ≠ 0 then _ else Ld.lines (Ld.get D f) D s.states.length n m.lines fu (i + 1 + if kr1.isSome = true then 0 else lskip.toNat) s1 := hstep
            have HKN := hide hkn
            have HMD2 := hide hmid2
            rcases hkc with ⟨hk1', rfl⟩ | ⟨rfl, hk2'⟩
            · rw [if_pos hk1'] at hstep
              have HST2 := hide hstep
              clear hstep hmid2 hkn hk1'
              go_wp2_with fail
              refine (HKN.out _ hsatA).mono ?_
              rintro e w5 ⟨rfl, hb5⟩
              have hs5 := hsatA.below hb5
              have hkr5 := hkrA.then (Keep.of_below (K := K) hb5) (fun b hb => hb)
              clear hsatA hkrA hb5 hsat hblkA
              go_wp2_with fail
              go_roundw
              case rel => exact ⟨i + 1, fu, 0, s1, K1, by go_num, rfl, by omega, by omega, hK1, hs5, hkr5, hide (HST2.out.trans (by simp)), HMD2⟩
              case measure => simp [intOf]; omega
            · have hkb : (kr2 != 0) = true := by simpa using hk2'
              have HST2 := hide hstep
              obtain ⟨q, rfl⟩ : ∃ q : Nat, lskip = (q : Int) := ⟨lskip.toNat, by omega⟩
              clear hstep hmid2 hkn hk2'
              have hq : i + 1 + q ≤ m.lines.length := by omega
              clear hsk
              go_wp2_with fail
              refine (HKN.out _ hsatA).mono ?_
              rintro e w5 ⟨rfl, hb5⟩
              have hs5 := hsatA.below hb5
              have hkr5 := hkrA.then (Keep.of_below (K := K) hb5) (fun b hb => hb)
              have x3 : w5.cell? ⟨wr.heap.size, 3, none⟩ = some (.int .i64 (q : Int)) := blk_cell ((hb5.block _ hltA).trans hblkA) 3
              clear hsatA hkrA hb5 hsat hblkA
              go_wp2_with fail
              go_roundw
              case rel => exact ⟨i + 1 + q, fu, 0, s1, K1, by congr 1; omega, rfl, by omega, by omega, hK1, hs5, hkr5, hide (HST2.out.trans (by simp)), HMD2⟩
              case measure => simp [intOf]; omega
        · have HQ := hide (show Ld.lines (Ld.get D f) D s.states.length n m.lines m.lines.length 0 (s.begin n) = (c, s1) by
            rw [HL.out]
            by_cases hc0 : c = 0
            · rw [if_neg (by simpa using hc0), Ld.lines_end (by omega), hc0]
            · rw [if_pos hc0])
          clear HL
          rcases (show (c = 0 ∧ ¬ i < m.lines.length) ∨ (c ≠ 0 ∧ i < m.lines.length) ∨ (c ≠ 0 ∧ ¬ i < m.lines.length) by
            by_cases h0 : c = 0
            · exact .inl ⟨h0, fun h => hrd ⟨h, h0⟩⟩
            · by_cases h1 : i < m.lines.length
              · exact .inr (.inl ⟨h0, h1⟩)
              · exact .inr (.inr ⟨h0, h1⟩)) with ⟨rfl, hlt⟩ | ⟨hc0, hlt⟩ | ⟨hc0, hlt⟩
          · go_wp2_with fail
            go_meet
            exact ⟨0, s1, K1, rfl, hK1, hsat, hkr, HQ, hide (HM.out.less (by omega))⟩
          · have hcb : (c == 0) = false := by simpa using hc0
            have HC0 := hide hc0
            clear hc0
            go_wp2_with fail
            go_meet
            exact ⟨c, s1, K1, rfl, hK1, hsat, hkr, HQ, hide (HM.out.less (by omega))⟩
          · have hcb : (c == 0) = false := by simpa using hc0
            have HC0 := hide hc0
            clear hc0
            go_wp2_with fail
            go_meet
            exact ⟨c, s1, K1, rfl, hK1, hsat, hkr, HQ, hide (HM.out.less (by omega))⟩
    case rest =>
      clear hsatb HMID hslb
      obtain ⟨c, s1, K1, rfl, hK1, hsat, hkr, HQ, HM⟩ := hcut
      have HBQ := hide (show res = (c, Ld.fin s.states.length n c s1) by rw [HBD.out, HQ.out])
      have hgood := HM.out.good
      have hrm := hgood.room
      have hstk1 := HM.out.stack
      obtain ⟨g0, more, hsts, _⟩ := HM.out.states
      have hkl : s.states.length < s1.states.length := by rw [hsts]; simp
      have hkI : (s.states.length : Int) < s1.states.length := by omega
      have hsk : s1.states[s.states.length]? = some ⟨n, 1, g0, 0⟩ := by rw [hsts, List.getElem?_append_right (Nat.le_refl _)]; simp
      have hwr : IntKind.i64.wrap ((s.stack.length : Nat) : Int) = (s.stack.length : Nat) := by rw [IntKind.wrap_i64]; omega
      have hgv : Ld.giveAt s1.states s.states.length = g0 := by unfold Ld.giveAt; rw [hsk]
      have hsl1 := hgood.len
      have hne : s1.states ≠ [] := by intro h0; rw [h0] at hkl; simp at hkl
      have hslen : s1.stack.length = s.stack.length + 1 := by rw [hstk1]; simp
      obtain ⟨xc, xs, xr, xk, hh, hin⟩ := hsat
      have hsne : s1.stack ≠ [] := by intro h0; rw [h0] at hslen; simp at hslen
      obtain ⟨gk, ck, hxk, _, _, hck, hck2, hokb, _⟩ := hh.stack.form hsne
      subst hxk
      rw [hslen] at hck
      have hckI : ((s.stack.length : Nat) : Int) ≤ ck := by omega
      have k8 : wc.cell? ⟨g, 8, none⟩ = some (.slice (some ⟨gk, 0, none⟩) s1.stack.length ck) := blk_cell hh.blk 8
      have f8 := blk_free hh.blk 8
      rw [hslen] at k8
      have hhd := hh.drew
      rw [hslen] at hhd
      have hpop := (hhd.stack).pop hslen
      have hst1 := hhd.stack_to hpop (World.grownBy.refl _ _) (.inl rfl)
      have hs8 := hst1.1.set 8 (.slice (some ⟨gk, 0, none⟩) s.stack.length ck)
      have hin8 := ((hin.below (Below.drew (Below.refl _ _))).same (hst1.2.same (fun b hb => hb) hhd.KS)).same (hs8.2.same (fun b hb => hb) hst1.1.KS)
      have hkr8 := ((hkr.then (Keep.of_below (K := K1) (Below.drew (Below.refl _ _))) hK1).then hst1.2 hK1).then hs8.2 hK1
      obtain ⟨gs, cs, hxs, _, _, _, _, hob, _⟩ := hs8.1.states.form hne
      subst hxs
      have hH := hs8.1
      clear hs8 hst1 hpop hhd hh hin hokb hkr
      go_wp2_with fail
      go_still_tail 14, (by kernel_rfl)
      change wpList _ _ _ _ _ (World.drew _)
      go_upto_region 34 with fail
      have hdw : wc.drew.setCell ⟨g, 8, none⟩ (.slice (some ⟨gk, 0, none⟩) s.stack.length ck) = (wc.setCell ⟨g, 8, none⟩ (.slice (some ⟨gk, 0, none⟩) s.stack.length ck)).drew := rfl
      rw [hdw] at hH hin8 hkr8
      clear hdw
      generalize (wc.setCell ⟨g, 8, none⟩ (.slice (some ⟨gk, 0, none⟩) s.stack.length ck)).drew = W8 at hH hin8 hkr8 ⊢
      have k5 : W8.cell? ⟨g, 5, none⟩ = some (.slice (some ⟨gs, 0, none⟩) s1.states.length cs) := blk_cell hH.blk 5
      have k9 : W8.cell? ⟨g, 9, none⟩ = some (.int .i64 s1.thrown) := blk_cell hH.blk 9
      have q0 : W8.cell? ⟨gs, s.states.length * 4, none⟩ = some (.string n) := hH.states.cellAt (j := 0) hsk rfl
      have q1 : W8.cell? ⟨gs, s.states.length * 4 + 1, none⟩ = some (.int .i64 1) := hH.states.cellAt (j := 1) hsk rfl
      have q2 : W8.cell? ⟨gs, s.states.length * 4 + 2, none⟩ = some (.int .i64 g0) := hH.states.cellAt (j := 2) hsk rfl
      have q3 : W8.cell? ⟨gs, s.states.length * 4 + 3, none⟩ = some (.int .i64 0) := hH.states.cellAt (j := 3) hsk rfl
      have f0 := hH.states.free (s.states.length * 4)
      have f1 := hH.states.free (s.states.length * 4 + 1)
      have f2 := hH.states.free (s.states.length * 4 + 2)
      have f3 := hH.states.free (s.states.length * 4 + 3)
      clear k8 f8
      have hst1 : ∀ (c : Int), c = 0 → (Ld.fin s.states.length n c s1) = (s1.pop.put s.states.length ⟨n, 2, g0, 0⟩).note ⟨4, n, 0, g0⟩ := fun c h => by unfold Ld.fin; rw [if_pos h, hgv]
      have hst2 : ∀ (c : Int), c ≠ 0 → (Ld.fin s.states.length n c s1) = (s1.pop.put s.states.length ⟨n, 3, 0, c⟩).note ⟨5, n, c, if c = 6 then s1.thrown else 0⟩ := fun c h => by unfold Ld.fin; rw [if_neg h]
      have HF1 := hide hst1
      have HF2 := hide hst2
      clear hst1 hst2 hgv
      by_cases hc0 : c = 0
      · subst hc0
        have hown := (hH.states).store rfl s.states.length 1 ⟨n, 2, g0, 0⟩ (.int .i64 2) (by show 1 < 4; omega) (fun x hx => by rw [hsk] at hx; obtain rfl := Option.some.inj hx; rfl)
        have hto := hH.states_to hown (by rw [hob]; exact grown_set _ gs _ _) (.inl rfl)
        have hin5 := hin8.same (hto.2.same (fun b hb => hb) hH.KS)
        have hs5 : SAt (W8.setCell ⟨gs, s.states.length * 4 + 1, none⟩ (.int .i64 2)) g K1 (.slice A1 D.roots.length c1) (.slice (some ad) D.mods.length c2) (.slice A3 D.faults.length c3) D (s1.pop.put s.states.length ⟨n, 2, g0, 0⟩) := by
          refine SAtV.sat (vc := xc) (vs := .slice (some ⟨gs, 0, none⟩) s1.states.length cs) (vr := xr) (vk := .slice (some ⟨gk, 0, none⟩) s.stack.length ck) ⟨?_, hin5⟩
          exact hto.1
        have hkr5 := hkr8.then hto.2 hK1
        clear hto hin5 hown hsts hsk hob
        go_wp2_with fail
        refine (rec_calls _ g K1 _ _ _ D _ hs5 4 0 g0 n (show s1.recs.length ≤ 9000 by omega)).mono ?_
        rintro e w6 ⟨rfl, hs6, hk6⟩
        go_wp2_with fail
        go_ret
        refine ⟨by rw [HBQ.out]; rfl, K1, hK1, ?_, (hkb.then hkr5 (fun b hb => hb)).then hk6 hK1⟩
        rw [HBQ.out]
        show SAt _ _ _ _ _ _ _ (Ld.fin s.states.length n 0 s1)
        rw [HF1.out 0 rfl]
        exact hs6
      · have hcb : (c != 0) = true := by simpa using hc0
        have hown0 := (hH.states).store rfl s.states.length 0 ⟨n, 1, g0, 0⟩ (.string n) (by show 0 < 4; omega) (fun x hx => by rw [hsk] at hx; obtain rfl := Option.some.inj hx; rfl)
        rw [Nat.add_zero] at hown0
        have hown1 := hown0.store (by rw [List.length_set]) s.states.length 1 ⟨n, 3, g0, 0⟩ (.int .i64 3) (by show 1 < 4; omega) (fun x hx => by rw [List.getElem?_set_self hkl] at hx; obtain rfl := Option.some.inj hx; rfl)
        have hown2 := hown1.store (by rw [List.length_set, List.length_set]) s.states.length 2 ⟨n, 3, 0, 0⟩ (.int .i64 0) (by show 2 < 4; omega) (fun x hx => by rw [List.getElem?_set_self (by rw [List.length_set]; exact hkl)] at hx; obtain rfl := Option.some.inj hx; rfl)
        have hown3 := hown2.store (by rw [List.length_set, List.length_set, List.length_set]) s.states.length 3 ⟨n, 3, 0, c⟩ (.int .i64 c) (by show 3 < 4; omega) (fun x hx => by rw [List.getElem?_set_self (by rw [List.length_set, List.length_set]; exact hkl)] at hx; obtain rfl := Option.some.inj hx; rfl)
        simp only [List.set_set] at hown3
        clear hown0 hown1 hown2
        have hto := hH.states_to hown3 (by rw [hob]; exact World.grownBy.trans (World.grownBy.trans (World.grownBy.trans (grown_set _ gs _ _) (grown_set _ gs _ _)) (grown_set _ gs _ _)) (grown_set _ gs _ _)) (.inl rfl)
        have hin5 := hin8.same (hto.2.same (fun b hb => hb) hH.KS)
        have hs5 : SAt ((((W8.setCell ⟨gs, s.states.length * 4, none⟩ (.string n)).setCell ⟨gs, s.states.length * 4 + 1, none⟩ (.int .i64 3)).setCell ⟨gs, s.states.length * 4 + 2, none⟩ (.int .i64 0)).setCell ⟨gs, s.states.length * 4 + 3, none⟩ (.int .i64 c)) g K1 (.slice A1 D.roots.length c1) (.slice (some ad) D.mods.length c2) (.slice A3 D.faults.length c3) D (s1.pop.put s.states.length ⟨n, 3, 0, c⟩) := by
          refine SAtV.sat (vc := xc) (vs := .slice (some ⟨gs, 0, none⟩) s1.states.length cs) (vr := xr) (vk := .slice (some ⟨gk, 0, none⟩) s.stack.length ck) ⟨?_, hin5⟩
          exact hto.1
        have hkr5 : Keep K wb ((((W8.setCell ⟨gs, s.states.length * 4, none⟩ (.string n)).setCell ⟨gs, s.states.length * 4 + 1, none⟩ (.int .i64 3)).setCell ⟨gs, s.states.length * 4 + 2, none⟩ (.int .i64 0)).setCell ⟨gs, s.states.length * 4 + 3, none⟩ (.int .i64 c)) := hkr8.then hto.2 hK1
        have HC0 := hide hc0
        clear hto hin5 hown3 hsts hsk hob hc0
        go_upto_region 37 with fail
        generalize ((((W8.setCell ⟨gs, s.states.length * 4, none⟩ (.string n)).setCell ⟨gs, s.states.length * 4 + 1, none⟩ (.int .i64 3)).setCell ⟨gs, s.states.length * 4 + 2, none⟩ (.int .i64 0)).setCell ⟨gs, s.states.length * 4 + 3, none⟩ (.int .i64 c)) = W9 at hs5 hkr5 ⊢
        have k9' : W9.cell? ⟨g, 9, none⟩ = some (.int .i64 s1.thrown) := by
          obtain ⟨_, _, _, _, h9⟩ := hs5
          exact blk_cell h9.hold.blk 9
        clear k5 k9 q0 q1 q2 q3 f0 f1 f2 f3
        by_cases h6 : c = 6
        · subst h6
          go_wp2_with fail
          refine (rec_calls _ g K1 _ _ _ D _ hs5 5 6 s1.thrown n (show s1.recs.length ≤ 9000 by omega)).mono ?_
          rintro e w6 ⟨rfl, hs6, hk6⟩
          go_wp2_with fail
          go_ret
          refine ⟨by rw [HBQ.out]; rfl, K1, hK1, ?_, (hkb.then hkr5 (fun b hb => hb)).then hk6 hK1⟩
          rw [HBQ.out]
          show SAt _ _ _ _ _ _ _ (Ld.fin s.states.length n 6 s1)
          rw [HF2.out 6 HC0.out]
          exact hs6
        · have h6b : (c == 6) = false := by simpa using h6
          have H6 := hide h6
          clear h6
          go_wp2_with fail
          refine (rec_calls _ g K1 _ _ _ D _ hs5 5 c 0 n (show s1.recs.length ≤ 9000 by omega)).mono ?_
          rintro e w6 ⟨rfl, hs6, hk6⟩
          go_wp2_with fail
          go_ret
          refine ⟨by rw [HBQ.out]; rfl, K1, hK1, ?_, (hkb.then hkr5 (fun b hb => hb)).then hk6 hK1⟩
          rw [HBQ.out]
          show SAt _ _ _ _ _ _ _ (Ld.fin s.states.length n c s1)
          rw [HF2.out c HC0.out, if_neg H6.out]
          exact hs6
end Go.Proofs.YtkhlicmlnjccdaaGreatDoor
