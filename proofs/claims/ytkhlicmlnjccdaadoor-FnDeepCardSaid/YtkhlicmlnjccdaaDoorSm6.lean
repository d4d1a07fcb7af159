/-
  Walks: the reference's machine: an import, given what a body does.
-/
import Derived.Test.YtkhlicmlnjccdaaDoorSm5
namespace Go.Proofs.YtkhlicmlnjccdaaDoor
open Go.RowKit Mem

namespace Ld
def after (D : WorldD) (f : Nat) (n : Str) (s : St) : Int × St := match f with
  | 0 => deep s n
  | f' + 1 => enter (get D f') D n s
theorem get_after (D : WorldD) (f : Nat) (frm name : Str) (s : St) : get D f frm name s = if (find D frm name s).2.1 ≠ 0 then find D frm name s else ((find D frm name s).1, after D f (find D frm name s).1 (find D frm name s).2.2) := by cases f <;> rfl
end Ld
/-- what both machines need of a world -/
structure DOk (D : WorldD) : Prop where
  sz : WSz D
  mods : D.mods.length ≤ 60
  lines : ∀ m ∈ D.mods, m.lines.length ≤ 60
  ok : ∀ m ∈ D.mods, ∀ (i : Nat) (l : LineD), m.lines[i]? = some l → Wd.lineOk l ((m.lines.length : Int) - i - 1) = true
  clean : ∀ m ∈ D.mods, m.name.size ≤ 60
def St_add (s : Ld.St) (n : Str) : Ld.St := { s with states := s.states ++ [⟨n, 1, 0, 0⟩] }
def GetP (g : Nat) (vR vM vF : Value) (D : WorldD) (f : Nat) : Prop :=
  ∀ (w : World) (K : Nat → Prop) (s : Ld.St) (b : Nat) (frm name : Str), SAt w g K vR vM vF D s → Ld.Good D s (b + 1) → f + s.stack.length = 40 → frm.size ≤ 1048576 → name.size ≤ 1048576 →
    Calls Tryd.prog 90 #[.pointer (some ⟨g, 0, none⟩), .string frm, .string name] w fun e w' => e = .returned (.tuple #[.string (Ld.get D f frm name s).1, .int .i64 (Ld.get D f frm name s).2.1]) ∧ STo w w' g K vR vM vF D (Ld.get D f frm name s).2.2
def BodyP (g : Nat) (vR vM vF : Value) (D : WorldD) (f : Nat) : Prop :=
  ∀ (w : World) (K : Nat → Prop) (s : Ld.St) (b : Nat) (n : Str), SAt w g K vR vM vF D (St_add s n) → Ld.Good D s (b + 1) → f + 1 + s.stack.length = 40 → Ld.stAt s.states n = none → (Ld.modAt D.mods n).isSome = true →
    Calls Tryd.prog 108 #[.pointer (some ⟨g, 0, none⟩), .string n] w fun e w' => e = .returned (.int .i64 (Ld.body (Ld.get D f) D n s).1) ∧ STo w w' g K vR vM vF D (Ld.body (Ld.get D f) D n s).2
theorem info_state : (Tryd.prog.info? 53).map (fun i => (i.zero, i.size, i.bytes)) = some (some (.agg #[.string ByteArray.empty, .int .i64 0, .int .i64 0, .int .i64 0]), 4, 40) := by kernel_rfl
theorem STo.then {w w1 w2 : World} {g : Nat} {K K1 : Nat → Prop} {vR vM vF : Value} {D : WorldD} {s2 : Ld.St} (hK : ∀ b, K b → K1 b) (hk : Keep K w w1) (h2 : STo w1 w2 g K1 vR vM vF D s2) : STo w w2 g K vR vM vF D s2 := by
  obtain ⟨K2, h3, h4, h5⟩ := h2
  exact ⟨K2, fun b hb => h3 b (hK b hb), h4, hk.then h5 hK⟩
theorem any_now {l : List StateD} {i : Nat} {t : StateD} (h : l[i]? = some t) (c : Int) : (l[i]?).any (fun t => decide (t.now = c)) = decide (t.now = c) := by rw [h]; rfl

set_option maxRecDepth 100000 in
set_option maxHeartbeats 2000000 in
theorem get_step (g : Nat) (vR vM vF : Value) (D : WorldD) (hD : DOk D) (f : Nat) (hbody : ∀ f', f = f' + 1 → BodyP g vR vM vF D f') : GetP g vR vM vF D f := by
  intro w K s b frm name h hG hf hfs hns
  have hfc := find_calls w g K vR vM vF D s (b + 1) h hG hD.sz frm name hfs hns
  have hfo := Ld.find_ok D frm name s (b + 1) hG
  have hget := Ld.get_after D f frm name s
  generalize Ld.get D f frm name s = res at hget ⊢
  obtain ⟨n, c, s1, hr⟩ : ∃ n c s1, Ld.find D frm name s = (n, c, s1) := ⟨_, _, _, rfl⟩
  rw [hr] at hfc hfo hget
  obtain ⟨G1, E1, E2, _, _, F6, _⟩ := hfo
  replace G1 : Ld.Good D s1 (b + 1) := G1
  replace E1 : s1.states = s.states := E1
  replace E2 : s1.stack = s.stack := E2
  replace F6 : c = 0 → n ∈ Nm.tries D.roots frm name ∧ (Ld.stAt s.states n = none → (Ld.modAt D.mods n).isSome = true) := F6
  have HFC := hide hfc
  have HGE := hide hget
  have HG1 := hide G1
  have HE1 := hide E1
  have HE2 := hide E2
  have HF6 := hide F6
  have HF := hide hf
  clear hfc hget G1 E1 E2 F6 hr hG hf
  by_cases hc : c = 0
  · subst hc
    have hres := HGE.out
    rw [if_neg (by simp)] at hres
    have HRES := hide hres
    clear hres
    go_enter Tryd.func90, Tryd.ntmps90
    go_wp2_with fail
    refine (unhide HFC).mono ?_
    rintro e w1 ⟨rfl, K1, hK1, hs1, hk1⟩
    obtain ⟨vc, vs, vr, vk, hh, hin⟩ := id hs1
    obtain ⟨A5, c5, hv5, hc5, hd5, hs5⟩ := hh.states.slV
    subst hv5
    obtain ⟨A8, c8, hv8, hc8, hd8, hs8⟩ := hh.stack.slV
    subst hv8
    have k5 : w1.cell? ⟨g, 5, none⟩ = some (.slice A5 s1.states.length c5) := blk_cell hh.blk 5
    have k8 : w1.cell? ⟨g, 8, none⟩ = some (.slice A8 s1.stack.length c8) := blk_cell hh.blk 8
    have hcs := state_calls g A5 c5 s1.states.length s1.states n _ w1 k5 hs5 rfl (by omega)
    cases hst : Ld.stAt s1.states n with
    | some i =>
      rw [hst] at hcs
      replace hcs : Calls Tryd.prog 107 #[.pointer (some ⟨g, 0, none⟩), .string n] w1 fun e w' => e = .returned (.int .i64 (i : Int)) ∧ Below w1.heap.size w1 w' := hcs
      have HCS := hide hcs
      obtain ⟨t, hti, _⟩ := Ld.stAt_some hst
      have hil : i < s1.states.length := by
        rcases Nat.lt_or_ge i s1.states.length with h | h
        · exact h
        · rw [List.getElem?_eq_none h] at hti; simp at hti
      obtain ⟨bd, hA, _, l1, _⟩ := hs5.get hil
      subst hA
      have ht : s1.states[i] = t := by rw [List.getElem?_eq_getElem hil] at hti; exact Option.some.inj hti
      rw [ht] at l1
      have e5 : w1.cell? ⟨(bd.add (i * 4)).block, (bd.add (i * 4)).off + 1, none⟩ = some (.int .i64 t.now) := by have := l1.2; rwa [add_pos _ _ (by omega)] at this
      have hilI : (i : Int) < s1.states.length := by omega
      have hres2 : res = (n, if decide (t.now = 1) = true then ((4 : Int), s1.ring n) else if decide (t.now = 3) = true then (5, s1) else (0, s1)) := by
        rw [HRES.out]
        congr 1
        cases f with
        | zero =>
          show Ld.deep s1 n = _
          unfold Ld.deep
          rw [hst]
          simp only [any_now hti]
        | succ f' =>
          show Ld.enter _ _ n s1 = _
          unfold Ld.enter
          rw [hst]
          simp only [any_now hti]
      have HR2 := hide hres2
      have hlen := HG1.out.len
      have hroom := HG1.out.room
      have hstk := HG1.out.stack
      clear hcs hst l1 ht hti hs5 hs8 hres2 hh hin
      by_cases n1 : t.now = 1
      · have b1 : (t.now == 1) = true := by simpa using n1
        have HQ := hide (HR2.out.trans (show _ = (n, (4 : Int), s1.ring n) by simp [n1]))
        clear n1 HR2
        go_wp2_with fail
        refine (unhide HCS).mono ?_
        rintro e w2 ⟨rfl, hb2⟩
        have q5 : w2.cell? ⟨g, 5, none⟩ = some (.slice (some bd) s1.states.length c5) := (hb2.cell (p := ⟨g, 5, none⟩) (World.block_lt_of_cell? _ _ k5)).trans k5
        have q6 : w2.cell? ⟨(bd.add (i * 4)).block, (bd.add (i * 4)).off + 1, none⟩ = some (.int .i64 t.now) := (hb2.cell (World.block_lt_of_cell? _ _ e5)).trans e5
        have hs2 := hs1.below hb2
        have hk2 := hk1.then (Keep.of_below (K := K1) hb2) hK1
        clear k5 k8 e5 hb2
        go_wp2_with fail
        refine (ring_calls w2 g K1 vR vM vF D s1 hs2 n (by omega) hstk).mono ?_
        rintro e w3 ⟨rfl, hto⟩
        go_wp2_with fail
        go_ret2
        rw [HQ.out]
        exact ⟨rfl, STo.then hK1 hk2 hto⟩
      · have b1 : (t.now == 1) = false := by simpa using n1
        by_cases n3 : t.now = 3
        · have b3 : (t.now == 3) = true := by simpa using n3
          have HQ := hide (HR2.out.trans (show _ = (n, (5 : Int), s1) by simp [n3]))
          clear n1 n3 HR2
          go_wp2_with fail
          refine (unhide HCS).mono ?_
          rintro e w2 ⟨rfl, hb2⟩
          have q5 : w2.cell? ⟨g, 5, none⟩ = some (.slice (some bd) s1.states.length c5) := (hb2.cell (p := ⟨g, 5, none⟩) (World.block_lt_of_cell? _ _ k5)).trans k5
          have q6 : w2.cell? ⟨(bd.add (i * 4)).block, (bd.add (i * 4)).off + 1, none⟩ = some (.int .i64 t.now) := (hb2.cell (World.block_lt_of_cell? _ _ e5)).trans e5
          have hs2 := hs1.below hb2
          have hk2 := hk1.then (Keep.of_below (K := K1) hb2) hK1
          clear k5 k8 e5 hb2
          go_wp2_with fail
          go_ret2
          rw [HQ.out]
          exact ⟨rfl, STo.of hs2 hK1 hk2⟩
        · have b3 : (t.now == 3) = false := by simpa using n3
          have HQ := hide (HR2.out.trans (show _ = (n, (0 : Int), s1) by simp [n1, n3]))
          clear n1 n3 HR2
          go_wp2_with fail
          refine (unhide HCS).mono ?_
          rintro e w2 ⟨rfl, hb2⟩
          have q5 : w2.cell? ⟨g, 5, none⟩ = some (.slice (some bd) s1.states.length c5) := (hb2.cell (p := ⟨g, 5, none⟩) (World.block_lt_of_cell? _ _ k5)).trans k5
          have q6 : w2.cell? ⟨(bd.add (i * 4)).block, (bd.add (i * 4)).off + 1, none⟩ = some (.int .i64 t.now) := (hb2.cell (World.block_lt_of_cell? _ _ e5)).trans e5
          have hs2 := hs1.below hb2
          have hk2 := hk1.then (Keep.of_below (K := K1) hb2) hK1
          clear k5 k8 e5 hb2
          go_wp2_with fail
          go_ret2
          rw [HQ.out]
          exact ⟨rfl, STo.of hs2 hK1 hk2⟩
    | none =>
      rw [hst] at hcs
      replace hcs : Calls Tryd.prog 107 #[.pointer (some ⟨g, 0, none⟩), .string n] w1 fun e w' => e = .returned (.int .i64 (-1)) ∧ Below w1.heap.size w1 w' := hcs
      have HCS := hide hcs
      have HST := hide hst
      have hsk : s1.stack.length = s.stack.length := by rw [HE2.out]
      clear hcs hst hs5 hs8
      cases f with
      | zero =>
        have h40 : ((s1.stack.length : Int) == 40) = true := by have := HF.out; simp; omega
        have HQ := hide (HRES.out.trans (show _ = (n, (7 : Int), s1) by show (n, Ld.deep s1 n) = _; unfold Ld.deep; rw [HST.out]))
        clear HRES
        go_wp2_with fail
        refine (unhide HCS).mono ?_
        rintro e w2 ⟨rfl, hb2⟩
        have q8 : w2.cell? ⟨g, 8, none⟩ = some (.slice A8 s1.stack.length c8) := (hb2.cell (p := ⟨g, 8, none⟩) (World.block_lt_of_cell? _ _ k8)).trans k8
        have hs2 := hs1.below hb2
        have hk2 := hk1.then (Keep.of_below (K := K1) hb2) hK1
        clear k5 k8 hb2 hh hin
        go_wp2_with fail
        go_ret2
        rw [HQ.out]
        exact ⟨rfl, STo.of hs2 hK1 hk2⟩
      | succ f' =>
        have h40 : ((s1.stack.length : Int) == 40) = false := by have := HF.out; simp; omega
        have HQ := hide (HRES.out.trans (show _ = (n, Ld.body (Ld.get D f') D n s1) by show (n, Ld.enter _ _ n s1) = _; unfold Ld.enter; rw [HST.out]))
        have hlen := HG1.out.len
        have hml := hD.mods
        have hmm := (HF6.out (by first | rfl | trivial)).2 (by rw [← HE1.out]; exact HST.out)
        have HBC := hide (fun (w' : World) (hs : SAt w' g K1 vR vM vF D (St_add s1 n)) => hbody f' rfl w' K1 s1 b n hs HG1.out (by have := HF.out; omega) HST.out hmm)
        clear HRES hmm
        go_wp2_with fail
        refine (unhide HCS).mono ?_
        rintro e w2 ⟨rfl, hb2⟩
        have hh2 := hh.below hb2
        have q8 : w2.cell? ⟨g, 8, none⟩ = some (.slice A8 s1.stack.length c8) := (hb2.cell (p := ⟨g, 8, none⟩) (World.block_lt_of_cell? _ _ k8)).trans k8
        have q5 : w2.cell? ⟨g, 5, none⟩ = some (.slice A5 s1.states.length c5) := (hb2.cell (p := ⟨g, 5, none⟩) (World.block_lt_of_cell? _ _ k5)).trans k5
        have hk2 := hk1.then (Keep.of_below (K := K1) hb2) hK1
        have hin2 := hin.below hb2
        clear k5 k8 hb2 hh hin
        have hls : (s1.states ++ [(⟨n, 1, 0, 0⟩ : StateD)]).length = s1.states.length + 1 := by simp
        go_wp2_with (at_builtin; refine append_own_g fState 0 rfl _ _ 38 53 (.agg #[.string ByteArray.empty, .int .i64 0, .int .i64 0, .int .i64 0]) 40 rfl Tryd.underlying38 info_state rfl (by omega) (.slice A5 s1.states.length c5) s1.states ⟨n, 1, 0, 0⟩ #[.string n, .int .i64 1, .int .i64 0, .int .i64 0] rfl rfl w2.heap.size rfl rfl hh2.states (Below.refl 0 w2) (Nat.zero_le _) (by omega) ?_; intro v1 w4 hown _ hgr hnew; obtain ⟨hh4, hk4⟩ := hh2.states_to hown hgr hnew; obtain ⟨A6, c6, hv6, _, _, _⟩ := hown.slV; subst hv6; have q5' : w4.cell? ⟨g, 5, none⟩ = some (.slice A5 s1.states.length c5) := blk_cell hh4.blk 5; have f5 := blk_free hh4.blk 5)
        rw [hls] at hh4
        have hs5 := hh4.set 5 (.slice A6 (s1.states.length + 1) c6)
        have hin5 := (hin2.same (hk4.same (fun b hb => hb) hh2.KS)).same (hs5.2.same (fun b hb => hb) hh4.KS)
        have hsat5 : SAt (w4.setCell ⟨g, 5, none⟩ (.slice A6 (s1.states.length + 1) c6)) g K1 vR vM vF D (St_add s1 n) := SAtV.sat (vc := vc) (vs := .slice A6 (s1.states.length + 1) c6) (vr := vr) (vk := .slice A8 s1.stack.length c8) ⟨hs5.1, hin5⟩
        have hk5 := hk2.then (hk4.then hs5.2 (fun b hb => hb)) hK1
        refine (HBC.out _ hsat5).mono ?_
        rintro e w6 ⟨rfl, hto⟩
        clear hsat5 hin5 hs5 hh4 hk4 q5' f5
        go_wp2_with fail
        go_ret2
        rw [HQ.out]
        exact ⟨rfl, STo.then hK1 hk5 hto⟩
  · have hb0 : (c != 0) = true := by simpa using hc
    have HQ := hide (HGE.out.trans (if_pos hc))
    clear hc
    go_enter Tryd.func90, Tryd.ntmps90
    go_wp2_with fail
    refine (unhide HFC).mono ?_
    rintro e w1 ⟨rfl, hto⟩
    go_wp2_with fail
    go_ret2
    rw [HQ.out]
    exact ⟨rfl, hto⟩
end Go.Proofs.YtkhlicmlnjccdaaDoor
