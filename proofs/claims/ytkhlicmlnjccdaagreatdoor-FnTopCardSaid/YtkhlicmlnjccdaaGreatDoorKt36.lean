/-
  Walks: the program's machine: a body, given what an import does.
-/
import Derived.Test.YtkhlicmlnjccdaaGreatDoorKt35
import Derived.StillTailTactics
namespace Go.Proofs.YtkhlicmlnjccdaaGreatDoor
open Go.RowKit Mem Go.Maps Go.ChangeMaps Go.WideMaps

theorem map_hid_set {l : List StateD} {k : Nat} {n : Str} {g0 : Int} (h : l[k]? = some ⟨n, 1, g0, 0⟩) (t : StateD) (ht : hid t = ⟨n, 1, 0, 0⟩) : (l.set k t).map hid = l.map hid := by
  rw [List.map_set, ht]
  have : (l.map hid)[k]? = some ⟨n, 1, 0, 0⟩ := by rw [List.getElem?_map, h]; rfl
  refine List.ext_getElem? fun i => ?_
  by_cases hi : i = k
  · subst hi
    have hl : i < (l.map hid).length := by
      rcases Nat.lt_or_ge i (l.map hid).length with h1 | h1
      · exact h1
      · rw [List.getElem?_eq_none h1] at this; simp at this
    rw [List.getElem?_set_self hl, this]
  · rw [List.getElem?_set_ne (Ne.symm hi)]

theorem giveAt_more {l more : List StateD} {k : Nat} (hk : k < l.length) : Ld.giveAt (l ++ more) k = Ld.giveAt l k := by
  unfold Ld.giveAt
  rw [List.getElem?_append_left hk]
theorem PAt.give {w : World} {g : Nat} {K : Nat → Prop} {vR vM vF : Value} {bm bf : Nat} {D : WorldD} {s : Ld.St} (h : PAt w g K vR vM vF bm bf D s) {k : Nat} {n : Str} {g0 : Int} (hk : s.states[k]? = some ⟨n, 1, g0, 0⟩) (g' : Int) : PAt w g K vR vM vF bm bf D (s.give k n g') := by
  obtain ⟨vc, vs, vr, vk, hh, hin⟩ := h
  refine ⟨vc, vs, vr, vk, ?_, hin⟩
  show Hold w g _ _ K vc vs vr vk s.recs ((s.states.set k ⟨n, 1, g', 0⟩).map hid) s.rings s.stack
  rw [map_hid_set hk _ rfl]
  exact hh
theorem PAt.thrown {w : World} {g : Nat} {K : Nat → Prop} {vR vM vF : Value} {bm bf : Nat} {D : WorldD} {s : Ld.St} (h : PAt w g K vR vM vF bm bf D s) (t : Int) : PAt w g K vR vM vF bm bf D { s with thrown := t } := by
  obtain ⟨vc, vs, vr, vk, hh, hin⟩ := h
  exact ⟨vc, vs, vr, vk, hh, hin⟩
theorem known_code3 (D : WorldD) (frm name : Str) (s : Ld.St) : ((Ld.known D frm name s).1.isSome = true ∧ (Ld.known D frm name s).2 = 0) ∨ ((Ld.known D frm name s).1 = none ∧ ((Ld.known D frm name s).2 = 1 ∨ (Ld.known D frm name s).2 = 2)) := by
  unfold Ld.known Ld.knownIn
  split
  · exact .inr ⟨rfl, .inl rfl⟩
  · split
    · exact .inl ⟨rfl, rfl⟩
    · exact .inr ⟨rfl, .inr rfl⟩

set_option maxRecDepth 100000 in
set_option maxHeartbeats 40000000 in
theorem pbody_step (g : Nat) (vR vM vF : Value) (bm bf : Nat) (D : WorldD) (hD : DOk D) (f : Nat) (hload : LoadP g vR vM vF bm bf D f) : PBodyP g vR vM vF bm bf D f := by
  intro w K s b n m A4 c4 mi h hG hfk hst hmi hmm hl4 hm4 hs4
  have hlen := hG.len
  have hml := hD.mods
  have hroom := hG.room
  have hstk := hG.stack
  obtain ⟨m', hmm', hmn⟩ := Ld.modAt_some hmi
  obtain rfl : m = m' := Option.some.inj (hmm.symm.trans hmm')
  have hlo := Ld.linesOf_at hmi hmm
  have hmem : m ∈ D.mods := List.mem_of_getElem? hmm
  have hl60 := hD.lines m hmem
  have hnsz := hD.clean m hmem
  rw [hmn] at hnsz
  have hmo : (Ld.modAt D.mods n).isSome = true := by rw [hmi]; rfl
  have hbg := hG.begin hst hmo (by omega)
  have HBG := hide hbg
  have HBD := hide (show Ld.body (Ld.get D f) D n s = ((Ld.lines (Ld.get D f) D s.states.length n m.lines m.lines.length 0 (s.begin n)).1,
    Ld.fin s.states.length n (Ld.lines (Ld.get D f) D s.states.length n m.lines m.lines.length 0 (s.begin n)).1 (Ld.lines (Ld.get D f) D s.states.length n m.lines m.lines.length 0 (s.begin n)).2) by
    unfold Ld.body; rw [hlo])
  have HOK := hide (hD.ok m hmem)
  have HLN := hide (fun y hy => hD.sz.l m hmem y hy)
  clear hG hst hmo hmi hlo hbg hmn hmem hmm hmm'
  generalize Ld.body (Ld.get D f) D n s = res at HBD ⊢
  have hba : Below w.heap.size w (w.alloc (Obj.cells #[.string n, .slice A4 m.lines.length c4] 75)) := by (repeat (first | with_reducible exact Below.refl _ _ | with_reducible assumption | with_reducible refine Below.alloc ?_ (by first | exact Nat.le_refl _ | exact Below.size (by assumption) | exact Nat.le_trans (Below.size (by assumption)) (by simp; done) | (simp; done) | (simp; omega) | omega) _ | with_reducible refine below_drewN ?_ _ | with_reducible refine Below.drew ?_ | with_reducible refine Below.setCell ?_ (by first | exact Nat.le_refl _ | (simp; done) | (simp; omega) | omega) _))
  have hp0 := h.fresh hba
  have hk0 := Keep.of_below (K := K) hba
  have hs0 := (hs4.below hba).more (T := fun b => K b ∨ (w.heap.size ≤ b ∧ b < (w.alloc (Obj.cells #[.string n, .slice A4 m.lines.length c4] 75)).heap.size)) (fun b hb => .inl hb)
  have hnb := heap_alloc_new w (Obj.cells #[.string n, .slice A4 m.lines.length c4] 75)
  have hzb : w.heap.size < (w.alloc (Obj.cells #[.string n, .slice A4 m.lines.length c4] 75)).heap.size := by simp
  have hfold : ∀ b, K b → K b ∨ (w.heap.size ≤ b ∧ b < (w.alloc (Obj.cells #[.string n, .slice A4 m.lines.length c4] 75)).heap.size) := fun b hb => .inl hb
  have hbin : K w.heap.size ∨ (w.heap.size ≤ w.heap.size ∧ w.heap.size < (w.alloc (Obj.cells #[.string n, .slice A4 m.lines.length c4] 75)).heap.size) := .inr ⟨Nat.le_refl _, hzb⟩
  go_enter Tryz.func74, Tryz.ntmps74
  go_upto_region 1 with fail
  generalize w.alloc (Obj.cells #[.string n, .slice A4 m.lines.length c4] 75) = W at hba hp0 hk0 hs0 hnb hzb hfold hbin ⊢
  generalize hK0 : (fun b => K b ∨ (w.heap.size ≤ b ∧ b < W.heap.size)) = K0 at hp0 hs0
  replace hfold : ∀ b, K b → K0 b := by rw [← hK0]; exact hfold
  replace hbin : K0 w.heap.size := by rw [← hK0]; exact hbin
  clear hK0 hba h hs4
  have b0 : W.cell? ⟨w.heap.size, 0, none⟩ = some (.string n) := blk_cell hnb 0
  obtain ⟨vc, vs, vr, vk, hh, hin⟩ := id hp0
  obtain ⟨A7, c7, hv7, hc7, hd7, _⟩ := hh.states.slV
  subst hv7
  have hml' := map_hid_len s.states
  rw [hml'] at hh hc7
  clear hml'
  have k7 : W.cell? ⟨g, 7, none⟩ = some (.slice A7 s.states.length c7) := blk_cell hh.blk 7
  have hgl := hh.lt
  go_upto_region 2 with fail
  go_cut [] (fun wx => PAt wx g K0 vR vM vF bm bf D (St_add s n) ∧ Keep K0 W wx)
  case first =>
    go_region_law ((refine step_own fState 0 (by rfl) _ _ 31 79 (.agg #[.string ByteArray.empty, .int .i64 0, .int .i64 0, .int .i64 0]) 40 (by rfl) Tryz.underlying31 info_state rfl (by omega) (.slice A7 s.states.length c7) (s.states.map hid) ⟨n, 1, 0, 0⟩ #[.string n, .int .i64 1, .int .i64 0, .int .i64 0] rfl (by rfl) W.heap.size (by rfl) (by exact heap_alloc_new _ _) (hh.states.alloc _) (Nat.zero_le _) (by rw [List.length_map]; omega) ?_; intro v1 w1 hown hgr hnew; obtain ⟨hh1, hk1⟩ := Hold.states_to (hh.below (by (repeat (first | with_reducible exact Below.refl _ _ | with_reducible assumption | with_reducible refine Below.alloc ?_ (by first | exact Nat.le_refl _ | exact Below.size (by assumption) | exact Nat.le_trans (Below.size (by assumption)) (by simp; done) | (simp; done) | (simp; omega) | omega) _ | with_reducible refine below_drewN ?_ _ | with_reducible refine Below.drew ?_ | with_reducible refine Below.setCell ?_ (by first | exact Nat.le_refl _ | (simp; done) | (simp; omega) | omega) _)))) hown hgr hnew; have hkp := (Keep.of_below (K := K0) (show Below W.heap.size W _ by (repeat (first | with_reducible exact Below.refl _ _ | with_reducible assumption | with_reducible refine Below.alloc ?_ (by first | exact Nat.le_refl _ | exact Below.size (by assumption) | exact Nat.le_trans (Below.size (by assumption)) (by simp; done) | (simp; done) | (simp; omega) | omega) _ | with_reducible refine below_drewN ?_ _ | with_reducible refine Below.drew ?_ | with_reducible refine Below.setCell ?_ (by first | exact Nat.le_refl _ | (simp; done) | (simp; omega) | omega) _)))).then hk1 (fun b hb => hb); obtain ⟨A1, c1, hv1, hc1, hd1, _⟩ := hown.slV; subst hv1; have q7 : w1.cell? ⟨g, 7, none⟩ = some (.slice A7 s.states.length c7) := blk_cell hh1.blk 7; have f7 := blk_free hh1.blk 7; clear hgr hnew hown))
    all_goals
      have hl : (s.states.map hid ++ [(⟨n, 1, 0, 0⟩ : StateD)]).length = s.states.length + 1 := by simp
      rw [hl] at hh1
      have hs := hh1.set 7 (.slice A1 (s.states.length + 1) c1)
      have hin2 := hin.same ((hkp.then hs.2 (fun b hb => hb)).same (fun b hb => hb) hh.KS)
      have hpt : PAt (w1.setCell ⟨g, 7, none⟩ (.slice A1 (s.states.length + 1) c1)) g K0 vR vM vF bm bf D (St_add s n) := by
        refine PAtV.pat (vc := vc) (vs := .slice A1 (s.states.length + 1) c1) (vr := vr) (vk := vk) ⟨?_, hin2⟩
        have hmp : (St_add s n).states.map hid = s.states.map hid ++ [(⟨n, 1, 0, 0⟩ : StateD)] := by simp [St_add, hid]
        rw [hmp]
        exact hs.1
      have hkk := hkp.then hs.2 (fun b hb => hb)
      clear hs hin2 hh1 hk1 q7 f7 hkp
      go_wp2_with fail
      go_meet
      exact ⟨hpt, hkk⟩
  case rest =>
    obtain ⟨hp1, hk1⟩ := hcut
    have nb := (hk1.block _ hbin hzb).trans hnb
    have hs1 := hs0.keep hk1
    have hk01 := hk0.then hk1 hfold
    have hz1 := Nat.lt_of_lt_of_le hzb hk1.size
    clear hh hin k7 hp0 hk0 hs0 hnb b0 hk1 hzb hgl
    obtain ⟨vc, vs, vr, vk, hh, hin⟩ := id hp1
    obtain ⟨A10, c10, hv10, hc10, hd10, _⟩ := hh.stack.slV
    subst hv10
    have k10 : wc.cell? ⟨g, 10, none⟩ = some (.slice A10 s.stack.length c10) := blk_cell hh.blk 10
    have b0 : wc.cell? ⟨w.heap.size, 0, none⟩ = some (.string n) := blk_cell nb 0
    have hgl := hh.lt
    go_upto_region 3 with fail
    go_cut [] (fun wx => PAt wx g K0 vR vM vF bm bf D { St_add s n with stack := s.stack ++ [n] } ∧ Keep K0 wc wx)
    case first =>
      go_region_law ((refine step_own fStr 0 (by rfl) _ _ 23 9 (.string ByteArray.empty) 16 (by rfl) Tryz.underlying23 info_str' rfl (by omega) (.slice A10 s.stack.length c10) s.stack n #[.string n] rfl (by rfl) wc.heap.size (by rfl) (by exact heap_alloc_new _ _) (hh.stack.alloc _) (Nat.zero_le _) (by omega) ?_; intro v1 w1 hown hgr hnew; obtain ⟨hh1, hk1⟩ := Hold.stack_to (hh.below (by (repeat (first | with_reducible exact Below.refl _ _ | with_reducible assumption | with_reducible refine Below.alloc ?_ (by first | exact Nat.le_refl _ | exact Below.size (by assumption) | exact Nat.le_trans (Below.size (by assumption)) (by simp; done) | (simp; done) | (simp; omega) | omega) _ | with_reducible refine below_drewN ?_ _ | with_reducible refine Below.drew ?_ | with_reducible refine Below.setCell ?_ (by first | exact Nat.le_refl _ | (simp; done) | (simp; omega) | omega) _)))) hown hgr hnew; have hkp := (Keep.of_below (K := K0) (show Below wc.heap.size wc _ by (repeat (first | with_reducible exact Below.refl _ _ | with_reducible assumption | with_reducible refine Below.alloc ?_ (by first | exact Nat.le_refl _ | exact Below.size (by assumption) | exact Nat.le_trans (Below.size (by assumption)) (by simp; done) | (simp; done) | (simp; omega) | omega) _ | with_reducible refine below_drewN ?_ _ | with_reducible refine Below.drew ?_ | with_reducible refine Below.setCell ?_ (by first | exact Nat.le_refl _ | (simp; done) | (simp; omega) | omega) _)))).then hk1 (fun b hb => hb); obtain ⟨A1, c1, hv1, hc1, hd1, _⟩ := hown.slV; subst hv1; have q10 : w1.cell? ⟨g, 10, none⟩ = some (.slice A10 s.stack.length c10) := blk_cell hh1.blk 10; have f10 := blk_free hh1.blk 10; clear hgr hnew hown))
      all_goals
        have hl : (s.stack ++ [n]).length = s.stack.length + 1 := by simp
        rw [hl] at hh1
        have hs := hh1.set 10 (.slice A1 (s.stack.length + 1) c1)
        have hin2 := hin.same ((hkp.then hs.2 (fun b hb => hb)).same (fun b hb => hb) hh.KS)
        have hpt : PAt (w1.setCell ⟨g, 10, none⟩ (.slice A1 (s.stack.length + 1) c1)) g K0 vR vM vF bm bf D { St_add s n with stack := s.stack ++ [n] } :=
          PAtV.pat (vc := vc) (vs := vs) (vr := vr) (vk := .slice A1 (s.stack.length + 1) c1) ⟨hs.1, hin2⟩
        have hkk := hkp.then hs.2 (fun b hb => hb)
        clear hs hin2 hh1 hk1 q10 f10 hkp
        go_wp2_with fail
        go_meet
        exact ⟨hpt, hkk⟩
    case rest =>
      obtain ⟨hp2, hk2⟩ := hcut
      have nb2 := (hk2.block _ hbin hz1).trans nb
      have hs2 := hs1.keep hk2
      have hk02 := hk01.then hk2 hfold
      have hz2 := Nat.lt_of_lt_of_le hz1 hk2.size
      clear hh hin k10 hp1 hk01 hs1 nb b0 hk2 hz1 hgl
      have b0 : wc.cell? ⟨w.heap.size, 0, none⟩ = some (.string n) := blk_cell nb2 0
      go_wp2_with fail
      refine (note_calls wc g K0 vR vM vF bm bf D _ hp2 2 0 0 n (show s.recs.length ≤ 9000 by omega)).mono ?_
      rintro e wb ⟨rfl, hp3, hk3⟩
      replace hp3 : PAt wb g K0 vR vM vF bm bf D (s.begin n) := hp3
      have hkb := hk02.then hk3 hfold
      have nb3 := (hk3.block _ hbin hz2).trans nb2
      have hslb := hs2.keep hk3
      have hzb := Nat.lt_of_lt_of_le hz2 hk3.size
      have NB := hide nb3
      clear b0 hp2 hk02 hk3 nb2 hs2 hz2 nb3
      have HGO := hide (Ld.get_ok hD.lines f (s.stack ++ [n]) (by rw [List.length_append, List.length_singleton]; omega))
      have HMID := hide (show Ld.Mid D s.states n (s.stack ++ [n]) (s.begin n) (b + 1 + 2 * m.lines.length) from ⟨HBG.out.less (by omega), rfl, 0, [], by simp [Ld.St.begin], by simp⟩)
      have hgv0 : Ld.giveAt (s.begin n).states s.states.length = 0 := by unfold Ld.giveAt; simp [Ld.St.begin]
      have HGV0 := hide hgv0
      clear hgv0
      go_upto_block 0 with fail
      go_cut [7, 8, 9] (fun c7 c8 c9 wx => ∃ (c num gv : Int) (s1 : Ld.St) (K1 : Nat → Prop), c7 = .int .i64 c ∧ c8 = .int .i64 num ∧ c9 = .int .i64 gv ∧ (∀ b, K0 b → K1 b) ∧ PAt wx g K1 vR vM vF bm bf D s1 ∧ Keep K0 wb wx ∧ Hid (Ld.lines (Ld.get D f) D s.states.length n m.lines m.lines.length 0 (s.begin n) = (c, s1)) ∧ Hid (Ld.Mid D s.states n (s.stack ++ [n]) s1 (b + 1)) ∧ Hid (Ld.giveAt s1.states s.states.length = gv) ∧ Hid (c = 6 → num = s1.thrown))
      case first =>
        go_wp2_with fail
        go_loopw [7, 8, 9, 10] (fun c7 c8 c9 i10 wr => ∃ (i fu : Nat) (c num gv : Int) (s1 : Ld.St) (K1 : Nat → Prop), i10 = .int .i64 i ∧ c7 = .int .i64 c ∧ c8 = .int .i64 num ∧ c9 = .int .i64 gv ∧ i ≤ m.lines.length ∧ m.lines.length ≤ i + fu ∧ (∀ b, K0 b → K1 b) ∧ PAt wr g K1 vR vM vF bm bf D s1 ∧ Keep K0 wb wr ∧ Hid (Ld.lines (Ld.get D f) D s.states.length n m.lines m.lines.length 0 (s.begin n) = if c ≠ 0 then (c, s1) else Ld.lines (Ld.get D f) D s.states.length n m.lines fu i s1) ∧ Hid (Ld.Mid D s.states n (s.stack ++ [n]) s1 (b + 1 + 2 * fu)) ∧ Hid (Ld.giveAt s1.states s.states.length = gv) ∧ Hid (c = 6 → num = s1.thrown)) (fun _ _ _ i10 _ => m.lines.length - (intOf i10).toNat)
        case atStart => exact ⟨0, m.lines.length, 0, 0, 0, s.begin n, K0, rfl, rfl, rfl, rfl, by omega, by omega, fun b hb => hb, hp3, Keep.refl _ _, hide (by simp), HMID, HGV0, hide (by simp)⟩
        case round =>
          clear hp3 HMID HGV0
          obtain ⟨i, fu, c, num, gv, s1, K1, rfl, rfl, rfl, rfl, hiL, hfu, hK1, hsat, hkr, HL, HM, HGV, HNUM⟩ := hrel
          have nbr := (hkr.block _ hbin hzb).trans NB.out
          have b0 : wr.cell? ⟨w.heap.size, 0, none⟩ = some (.string n) := blk_cell nbr 0
          have b1 : wr.cell? ⟨w.heap.size, 1, none⟩ = some (.slice A4 m.lines.length c4) := blk_cell nbr 1
          have hzr : w.heap.size < wr.heap.size := Nat.lt_of_lt_of_le hzb hkr.size
          clear nbr
          by_cases hrd : i < m.lines.length ∧ c = 0
          · obtain ⟨hlt, rfl⟩ := hrd
            obtain ⟨fu, rfl⟩ : ∃ q, fu = q + 1 := ⟨fu - 1, by omega⟩
            obtain ⟨al, hA, l0, l1, l2, l3⟩ := (hslb.keep hkr).get hlt
            subst hA
            have e0 : wr.cell? (al.add (i * 4)) = some (.int .i64 m.lines[i].op) := l0.2
            have e1 : wr.cell? ⟨(al.add (i * 4)).block, (al.add (i * 4)).off + 1, none⟩ = some (.string m.lines[i].name) := by have := l1.2; rwa [add_pos _ _ (by omega)] at this
            have e2 : wr.cell? ⟨(al.add (i * 4)).block, (al.add (i * 4)).off + 2, none⟩ = some (.int .i64 m.lines[i].num) := by have := l2.2; rwa [add_pos _ _ (by omega)] at this
            have e3 : wr.cell? ⟨(al.add (i * 4)).block, (al.add (i * 4)).off + 3, none⟩ = some (.int .i64 m.lines[i].skip) := by have := l3.2; rwa [add_pos _ _ (by omega)] at this
            have hli := List.getElem?_eq_getElem hlt
            have hlk := HOK.out i _ hli
            have hlz := HLN.out _ (List.getElem_mem hlt)
            have hstep := HL.out
            rw [if_neg (by simp), Ld.lines_step hli] at hstep
            have hmid2 := Ld.line_ok HGO.out m.lines[i] (show Ld.Mid D s.states n (s.stack ++ [n]) s1 (b + 1 + 2 * fu + 2) from HM.out.less (by omega))
            clear l0 l1 l2 l3 hli
            generalize m.lines[i] = l at e0 e1 e2 e3 hlk hlz hstep hmid2
            have hgood := HM.out.good
            have hrm := hgood.room
            have hstk1 := HM.out.stack
            have hsl1 := hgood.len
            obtain ⟨g0, more, hsts, _⟩ := HM.out.states
            have hkl : s.states.length < s1.states.length := by rw [hsts]; simp
            have hsk : s1.states[s.states.length]? = some ⟨n, 1, g0, 0⟩ := by rw [hsts, List.getElem?_append_right (Nat.le_refl _)]; simp
            have HSK := hide hsk
            have hba : Below wr.heap.size wr (wr.alloc (Obj.cells #[.int .i64 l.op, .string l.name, .int .i64 l.num, .int .i64 l.skip] 106)) := by (repeat (first | with_reducible exact Below.refl _ _ | with_reducible assumption | with_reducible refine Below.alloc ?_ (by first | exact Nat.le_refl _ | exact Below.size (by assumption) | exact Nat.le_trans (Below.size (by assumption)) (by simp; done) | (simp; done) | (simp; omega) | omega) _ | with_reducible refine below_drewN ?_ _ | with_reducible refine Below.drew ?_ | with_reducible refine Below.setCell ?_ (by first | exact Nat.le_refl _ | (simp; done) | (simp; omega) | omega) _))
            have hsatA := hsat.below hba
            have hkrA := hkr.then (Keep.of_below (K := K0) hba) (fun b hb => hb)
            have hblkA := heap_alloc_new wr (Obj.cells #[.int .i64 l.op, .string l.name, .int .i64 l.num, .int .i64 l.skip] 106)
            have hltA : wr.heap.size < (wr.alloc (Obj.cells #[.int .i64 l.op, .string l.name, .int .i64 l.num, .int .i64 l.skip] 106)).heap.size := by simp
            have HLK := hide hlk
            have HGD := hide hgood
            have HS1 := hide hstk1
            clear hlk hgood hstk1 hba hsts hsk
            obtain ⟨op, lname, lnum, lskip⟩ := l
            replace hlz : lname.size ≤ 1048576 := hlz
            have hop := Ld.line_op HLK.out
            replace hop : op = 1 ∨ op = 2 ∨ op = 3 ∨ op = 4 ∨ op = 5 ∨ op = 6 ∨ op = 7 := hop
            rcases hop with rfl | rfl | rfl | rfl | rfl | rfl | rfl
            · -- say
              as_aux_lemma =>
                rw [Ld.line_1 rfl] at hstep hmid2
                have HST2 := hide hstep
                have HMD2 := hide hmid2
                clear hstep hmid2 hblkA
                go_wp2_with fail
                refine (note_calls _ g K1 vR vM vF bm bf D s1 hsatA 3 0 lnum n (by omega)).mono ?_
                rintro e w5 ⟨rfl, hs5, hk5⟩
                have hkr5 := hkrA.then hk5 hK1
                clear hsatA hkrA hk5 hsat
                go_wp2_with fail
                go_roundw
                case rel => exact ⟨i + 1, fu, 0, num, gv, _, K1, by go_num, rfl, rfl, rfl, by omega, by omega, hK1, hs5, hkr5, hide (HST2.out.trans (by simp)), HMD2, HGV, hide (by simp)⟩
                case measure => simp [intOf]; omega
            · -- give
              as_aux_lemma =>
                rw [Ld.line_2 rfl] at hstep hmid2
                have HST2 := hide hstep
                have HMD2 := hide hmid2
                have hs5 := hsatA.give HSK.out lnum
                have hgn : Ld.giveAt (s1.give s.states.length n lnum).states s.states.length = lnum := by
                  unfold Ld.giveAt Ld.St.give Ld.St.put
                  simp only [List.getElem?_set_self hkl]
                have HGN := hide hgn
                clear hstep hmid2 hblkA hgn
                go_wp2_with fail
                go_roundw
                case rel => exact ⟨i + 1, fu, 0, num, lnum, _, K1, by go_num, rfl, rfl, rfl, by omega, by omega, hK1, hs5, hkrA, hide (HST2.out.trans (by simp)), HMD2, HGN, hide (by simp)⟩
                case measure => simp [intOf]; omega
            · -- import
              as_aux_lemma =>
                have hex := HGO.out n lname s1 0 (HGD.out.less (by omega)) HS1.out
                have hgc := fun (w' : World) (hs : PAt w' g K1 vR vM vF bm bf D s1) => hload w' K1 s1 0 n lname hs (HGD.out.less (by omega)) (by rw [HS1.out, List.length_append, List.length_singleton]; omega) (by omega) hlz
                rw [Ld.line_3 rfl] at hstep hmid2
                obtain ⟨gn, gc, gs, hgq⟩ : ∃ gn gc gs, Ld.get D f n lname s1 = (gn, gc, gs) := ⟨_, _, _, rfl⟩
                rw [hgq] at hstep hmid2 hgc hex
                obtain ⟨mo, hmo, _⟩ := hex.states
                have hgn : Ld.giveAt gs.states s.states.length = gv := by
                  show Ld.giveAt gs.states _ = gv
                  rw [show gs.states = s1.states ++ mo from hmo, giveAt_more hkl]; exact HGV.out
                have HGN := hide hgn
                have HST2 := hide hstep
                have HMD2 := hide hmid2
                have HGC := hide hgc
                clear hstep hmid2 hgc hgq hex hblkA hmo hgn
                go_wp2_with fail
                refine (HGC.out _ hsatA).mono ?_
                rintro e w5 ⟨rfl, K2, hK2, hs5, hk5⟩
                have hkr5 := hkrA.then hk5 hK1
                clear hsatA hkrA hk5 hsat
                go_wp2_with fail
                go_roundw
                case rel => exact ⟨i + 1, fu, gc, numOf gc gs, gv, gs, K2, by go_num, rfl, rfl, rfl, by omega, by omega, fun b hb => hK2 b (hK1 b hb), hs5, hkr5, hide HST2.out, HMD2, HGN, hide (fun h6 => by unfold numOf; rw [if_pos h6])⟩
                case measure => simp [intOf]; omega
            · -- try
              as_aux_lemma =>
                have hex := HGO.out n lname s1 0 (HGD.out.less (by omega)) HS1.out
                have hgc := fun (w' : World) (hs : PAt w' g K1 vR vM vF bm bf D s1) => hload w' K1 s1 0 n lname hs (HGD.out.less (by omega)) (by rw [HS1.out, List.length_append, List.length_singleton]; omega) (by omega) hlz
                rw [Ld.line_4 rfl] at hstep hmid2
                obtain ⟨gn, gc, gs, hgq⟩ : ∃ gn gc gs, Ld.get D f n lname s1 = (gn, gc, gs) := ⟨_, _, _, rfl⟩
                rw [hgq] at hstep hmid2 hgc hex
                obtain ⟨mo, hmo, _⟩ := hex.states
                have hgn : Ld.giveAt gs.states s.states.length = gv := by
                  show Ld.giveAt gs.states _ = gv
                  rw [show gs.states = s1.states ++ mo from hmo, giveAt_more hkl]; exact HGV.out
                have HGN := hide hgn
                have hgroom := hex.good.room
                replace hgroom : gs.recs.length ≤ 9000 := by
                  have : gs.recs.length + gs.rings.length + 0 + 130 * (D.mods.length - gs.states.length) + (400 - gs.reads) ≤ 9000 := hgroom
                  omega
                have HGC := hide hgc
                by_cases hgz : gc = 0
                · subst hgz
                  have HST2 := hide hstep
                  have HMD2 := hide hmid2
                  clear hstep hmid2 hgc hgq hex hblkA hmo hgn
                  go_wp2_with fail
                  refine (HGC.out _ hsatA).mono ?_
                  rintro e w5 ⟨rfl, K2, hK2, hs5, hk5⟩
                  have hkr5 := hkrA.then hk5 hK1
                  clear hsatA hkrA hk5 hsat
                  go_wp2_with fail
                  go_roundw
                  case rel => exact ⟨i + 1, fu, 0, num, gv, gs, K2, by go_num, rfl, rfl, rfl, by omega, by omega, fun b hb => hK2 b (hK1 b hb), hs5, hkr5, hide (HST2.out.trans (by simp)), hide (by simpa using HMD2.out), HGN, hide (by simp)⟩
                  case measure => simp [intOf]; omega
                · have hgb : (gc != 0) = true := by simpa using hgz
                  rw [if_pos hgz] at hstep hmid2
                  have HST2 := hide hstep
                  have HMD2 := hide hmid2
                  clear hstep hmid2 hgc hgq hex hblkA hgz hmo hgn
                  go_wp2_with fail
                  refine (HGC.out _ hsatA).mono ?_
                  rintro e w5 ⟨rfl, K2, hK2, hs5, hk5⟩
                  have hkr5 := hkrA.then hk5 hK1
                  clear hsatA hkrA hk5 hsat
                  go_wp2_with fail
                  refine (note_calls _ g K2 vR vM vF bm bf D gs hs5 6 gc 0 gn hgroom).mono ?_
                  rintro e w6 ⟨rfl, hs6, hk6⟩
                  have hkr6 := hkr5.then hk6 (fun b hb => hK2 b (hK1 b hb))
                  clear hs5 hk6 hkr5
                  go_wp2_with fail
                  go_roundw
                  case rel => exact ⟨i + 1, fu, 0, num, gv, _, K2, by go_num, rfl, rfl, rfl, by omega, by omega, fun b hb => hK2 b (hK1 b hb), hs6, hkr6, hide (HST2.out.trans (by simp)), HMD2, HGN, hide (by simp)⟩
                  case measure => simp [intOf]; omega
            · -- show
              as_aux_lemma =>
                have hkn := fun (w' : World) (hs : PAt w' g K1 vR vM vF bm bf D s1) => shown_calls w' g K1 vR vM vF bm bf D s1 hs hD.sz n lname (by omega) hlz
                obtain ⟨kr1, kr2, hkq⟩ : ∃ kr1 kr2, Ld.known D n lname s1 = (kr1, kr2) := ⟨_, _, rfl⟩
                have hkc := known_code3 D n lname s1
                rw [hkq] at hkc
                cases kr1 with
                | none =>
                  rw [Ld.line_5_none rfl (by show (Ld.known D n lname s1).1 = none; rw [hkq])] at hstep hmid2
                  replace hstep : _ = if (Ld.known D n lname s1).2 ≠ 0 then ((Ld.known D n lname s1).2, s1) else _ := hstep
                  rw [hkq] at hstep
                  rw [hkq] at hkn
                  have hk12 : kr2 = 1 ∨ kr2 = 2 := by simpa using hkc
                  have hkz : kr2 ≠ 0 := by omega
                  have hk6 : kr2 ≠ 6 := by omega
                  have hkb : (kr2 == 0) = false := by simpa using hkz
                  replace hstep : _ = if kr2 ≠ 0 then (kr2, s1) else _ := hstep
                  rw [if_pos hkz] at hstep
                  have HST2 := hide hstep
                  have HMD2 := hide hmid2
                  have HKN := hide hkn
                  have HKZ := hide hkz
                  have HK6 := hide hk6
                  clear hstep hmid2 hkn hkz hkc hkq hk12 hk6
                  go_wp2_with fail
                  refine (HKN.out _ hsatA).mono ?_
                  rintro e w5 ⟨rfl, hb5⟩
                  have hs5 := hsatA.below hb5
                  have hkr5 := hkrA.then (Keep.of_below (K := K0) hb5) (fun b hb => hb)
                  clear hsatA hkrA hb5 hsat hblkA
                  go_wp2_with fail
                  go_roundw
                  case rel => exact ⟨i + 1, fu, kr2, num, gv, s1, K1, by go_num, rfl, rfl, rfl, by omega, by omega, hK1, hs5, hkr5, hide (HST2.out.trans (by rw [if_pos HKZ.out])), HMD2, HGV, hide (fun h6 => absurd h6 HK6.out)⟩
                  case measure => simp [intOf]; omega
                | some x =>
                  obtain ⟨xn, xi⟩ := x
                  have hx : (Ld.known D n lname s1).1 = some (xn, xi) := by rw [hkq]
                  rw [Ld.line_5_some rfl hx] at hstep hmid2
                  obtain ⟨hxa, xt, hxt, hx2⟩ := Ld.known_at hx
                  replace hxt : s1.states[xi]? = some xt := hxt
                  have hgvx : Ld.giveAt s1.states xi = xt.give := by unfold Ld.giveAt; rw [hxt]
                  replace hstep : _ = if (0 : Int) ≠ 0 then _ else Ld.lines (Ld.get D f) D s.states.length n m.lines fu (i + 1 + 0) (s1.note ⟨3, n, 0, Ld.giveAt s1.states xi⟩) := hstep
                  replace hmid2 : Ld.Mid D s.states n (s.stack ++ [n]) (s1.note ⟨3, n, 0, Ld.giveAt s1.states xi⟩) _ := hmid2
                  rw [hgvx] at hstep hmid2
                  rw [hkq] at hkn
                  have hk2 : kr2 = 0 := by simpa using hkc
                  subst hk2
                  have hxl : xi < s1.states.length := by
                    rcases Nat.lt_or_ge xi s1.states.length with h | h
                    · exact h
                    · rw [List.getElem?_eq_none h] at hxt; simp at hxt
                  have hxh := map_hid_at hxt
                  rw [hid_other (show xt.now ≠ 1 by rw [hx2]; decide)] at hxh
                  have HST2 := hide hstep
                  have HMD2 := hide hmid2
                  have HKN := hide hkn
                  have HXT := hide hxh
                  clear hstep hmid2 hkn hkc hkq hx hgvx hxa hxt hx2 hxh
                  go_wp2_with fail
                  refine (HKN.out _ hsatA).mono ?_
                  rintro e w5 ⟨rfl, hb5⟩
                  have hs5 := hsatA.below hb5
                  have hkr5 := hkrA.then (Keep.of_below (K := K0) hb5) (fun b hb => hb)
                  have hbA0 : Below wr.heap.size wr (wr.alloc (Obj.cells #[.int .i64 5, .string lname, .int .i64 lnum, .int .i64 lskip] 106)) := by (repeat (first | with_reducible exact Below.refl _ _ | with_reducible assumption | with_reducible refine Below.alloc ?_ (by first | exact Nat.le_refl _ | exact Below.size (by assumption) | exact Nat.le_trans (Below.size (by assumption)) (by simp; done) | (simp; done) | (simp; omega) | omega) _ | with_reducible refine below_drewN ?_ _ | with_reducible refine Below.drew ?_ | with_reducible refine Below.setCell ?_ (by first | exact Nat.le_refl _ | (simp; done) | (simp; omega) | omega) _))
                  have y0 : w5.cell? ⟨w.heap.size, 0, none⟩ = some (.string n) := (hb5.cell (p := ⟨w.heap.size, 0, none⟩) (by simp; omega)).trans ((hbA0.cell (p := ⟨w.heap.size, 0, none⟩) hzr).trans b0)
                  clear hsatA hkrA hb5 hsat hblkA hbA0
                  simp only [kidx]
                  replace hs5 := hs5.below (Below.drew (Below.refl _ _))
                  replace hkr5 := hkr5.then (Keep.of_below (K := K0) (Below.drew (Below.refl _ _))) (fun b hb => hb)
                  obtain ⟨xc, xs, xr, xk, hh, hin⟩ := id hs5
                  obtain ⟨A5, c5, hxs, _, _, _⟩ := hh.states.slV
                  subst hxs
                  have hne : s1.states.map hid ≠ [] := by intro h0; have := congrArg List.length h0; rw [List.length_map] at this; simp at this; rw [this] at hxl; simp at hxl
                  obtain ⟨gb, cb, hxs, _, _, _, _, hob, _⟩ := hh.states.form hne
                  injection hxs with hA5 _ hcb
                  subst hA5 hcb
                  have k7 : w5.cell? ⟨g, 7, none⟩ = some (.slice (some ⟨gb, 0, none⟩) (s1.states.map hid).length c5) := blk_cell hh.blk 7
                  have q2 : w5.cell? ⟨gb, xi * 4 + 2, none⟩ = some (.int .i64 xt.give) := hh.states.cellAt (j := 2) HXT.out rfl
                  have hxI : (xi : Int) < (s1.states.map hid).length := by rw [List.length_map]; omega
                  clear hh hin hob hne
                  go_wp2_with fail
                  go_still_tail 13, (by kernel_rfl)
                  change wpList _ _ _ _ _ (World.drew _)
                  go_wp2_with fail
                  refine (note_calls _ g K1 vR vM vF bm bf D s1 hs5 3 0 xt.give n (by omega)).mono ?_
                  rintro e w7 ⟨rfl, hs7, hk7⟩
                  have hkr7 := hkr5.then hk7 hK1
                  clear hs5 hkr5 hk7
                  go_wp2_with fail
                  go_roundw
                  case rel => exact ⟨i + 1, fu, 0, num, gv, _, K1, by go_num, rfl, rfl, rfl, by omega, by omega, hK1, hs7, hkr7, hide (HST2.out.trans (by simp)), HMD2, HGV, hide (by simp)⟩
                  case measure => simp [intOf]; omega
            · -- throw
              as_aux_lemma =>
                rw [Ld.line_6 rfl] at hstep hmid2
                have HST2 := hide hstep
                have HMD2 := hide hmid2
                have hs5 := (hsatA.below (Below.drew (Below.refl _ _))).thrown lnum
                have hkr5 := hkrA.then (Keep.of_below (K := K0) (Below.drew (Below.refl _ _))) (fun b hb => hb)
                have x2 : (wr.alloc (Obj.cells #[.int .i64 6, .string lname, .int .i64 lnum, .int .i64 lskip] 106)).cell? ⟨wr.heap.size, 2, none⟩ = some (.int .i64 lnum) := blk_cell hblkA 2
                clear hstep hmid2 hblkA hsatA hkrA hsat
                go_wp2_with fail
                go_region
                all_goals
                  go_wp2_with fail
                  go_roundw
                  case rel => exact ⟨i + 1, fu, 6, lnum, gv, _, K1, by go_num, rfl, rfl, rfl, by omega, by omega, hK1, hs5, hkr5, hide HST2.out, HMD2, HGV, hide (fun _ => rfl)⟩
                  case measure => simp [intOf]; omega
            · -- if
              as_aux_lemma =>
                rw [Ld.line_7 rfl] at hstep hmid2
                have hsk := Ld.line_skip HLK.out rfl
                replace hsk : 0 ≤ lskip ∧ lskip ≤ (m.lines.length : Int) - i - 1 := hsk
                have hkc := Ld.known_code D n lname s1
                have hkn := fun (w' : World) (hs : PAt w' g K1 vR vM vF bm bf D s1) => shown_calls w' g K1 vR vM vF bm bf D s1 hs hD.sz n lname (by omega) hlz
                replace hstep : _ = if (0 : Int) ≠ 0 then _ else Ld.lines (Ld.get D f) D s.states.length n m.lines fu (i + 1 + if (Ld.known D n lname s1).1.isSome = true then 0 else lskip.toNat) s1 := hstep
                generalize Ld.known D n lname s1 = kr at hstep hmid2 hkc hkn
                obtain ⟨kr1, kr2⟩ := kr
                replace hkc : (kr1.isSome = true ∧ kr2 = 0) ∨ (kr1 = none ∧ kr2 ≠ 0) := hkc
                replace hstep : _ = if (0 : Int) ≠ 0 then _ else Ld.lines (Ld.get D f) D s.states.length n m.lines fu (i + 1 + if kr1.isSome = true then 0 else lskip.toNat) s1 := hstep
                have HKN := hide hkn
                have HMD2 := hide hmid2
                cases kr1 with
                | some x =>
                  obtain ⟨xn, xi⟩ := x
                  replace hstep : _ = if (0 : Int) ≠ 0 then _ else Ld.lines (Ld.get D f) D s.states.length n m.lines fu (i + 1 + 0) s1 := hstep
                  have HST2 := hide hstep
                  clear hstep hmid2 hkn hkc
                  go_wp2_with fail
                  refine (HKN.out _ hsatA).mono ?_
                  rintro e w5 ⟨rfl, hb5⟩
                  have hs5 := hsatA.below hb5
                  have hkr5 := hkrA.then (Keep.of_below (K := K0) hb5) (fun b hb => hb)
                  clear hsatA hkrA hb5 hsat hblkA
                  simp only [kidx]
                  go_wp2_with fail
                  go_roundw
                  case rel => exact ⟨i + 1, fu, 0, num, gv, s1, K1, by go_num, rfl, rfl, rfl, by omega, by omega, hK1, hs5, hkr5, hide (HST2.out.trans (by simp)), HMD2, HGV, hide (by simp)⟩
                  case measure => simp [intOf]; omega
                | none =>
                  have HST2 := hide hstep
                  obtain ⟨q, rfl⟩ : ∃ q : Nat, lskip = (q : Int) := ⟨lskip.toNat, by omega⟩
                  clear hstep hmid2 hkn hkc
                  have hq : i + 1 + q ≤ m.lines.length := by omega
                  clear hsk
                  go_wp2_with fail
                  refine (HKN.out _ hsatA).mono ?_
                  rintro e w5 ⟨rfl, hb5⟩
                  have hs5 := hsatA.below hb5
                  have hkr5 := hkrA.then (Keep.of_below (K := K0) hb5) (fun b hb => hb)
                  have x3 : w5.cell? ⟨wr.heap.size, 3, none⟩ = some (.int .i64 (q : Int)) := blk_cell ((hb5.block _ hltA).trans hblkA) 3
                  clear hsatA hkrA hb5 hsat hblkA
                  simp only [kidx]
                  go_wp2_with fail
                  go_roundw
                  case rel => exact ⟨i + 1 + q, fu, 0, num, gv, s1, K1, by congr 1; omega, rfl, rfl, rfl, by omega, by omega, hK1, hs5, hkr5, hide (HST2.out.trans (by simp)), HMD2, HGV, hide (by simp)⟩
                  case measure => simp [intOf]; omega
          · have HQ := hide (show Ld.lines (Ld.get D f) D s.states.length n m.lines m.lines.length 0 (s.begin n) = (c, s1) by
              rw [HL.out]
              by_cases hc0 : c = 0
              · rw [if_neg (by simpa using hc0), Ld.lines_end (by omega), hc0]
              · rw [if_pos hc0])
            clear HL
            rcases (show (c = 0 ∧ ¬ i < m.lines.length) ∨ (c ≠ 0 ∧ i < m.lines.length) ∨ (c ≠ 0 ∧ ¬ i < m.lines.length) by
              by_cases h0 : c = 0
              · exact .inl ⟨h0, fun h => hrd ⟨h, h0⟩⟩
              · by_cases h1 : i < m.lines.length
                · exact .inr (.inl ⟨h0, h1⟩)
                · exact .inr (.inr ⟨h0, h1⟩)) with ⟨rfl, hlt⟩ | ⟨hc0, hlt⟩ | ⟨hc0, hlt⟩
            · go_wp2_with fail
              go_meet
              exact ⟨0, num, gv, s1, K1, rfl, rfl, rfl, hK1, hsat, hkr, HQ, hide (HM.out.less (by omega)), HGV, HNUM⟩
            · have hcb : (c == 0) = false := by simpa using hc0
              have HC0 := hide hc0
              clear hc0
              go_wp2_with fail
              go_meet
              exact ⟨c, num, gv, s1, K1, rfl, rfl, rfl, hK1, hsat, hkr, HQ, hide (HM.out.less (by omega)), HGV, HNUM⟩
            · have hcb : (c == 0) = false := by simpa using hc0
              have HC0 := hide hc0
              clear hc0
              go_wp2_with fail
              go_meet
              exact ⟨c, num, gv, s1, K1, rfl, rfl, rfl, hK1, hsat, hkr, HQ, hide (HM.out.less (by omega)), HGV, HNUM⟩
      case rest =>
        obtain ⟨c, num, gv, s1, K1, rfl, rfl, rfl, hK1, hsat, hkr, HQ, HM, HGV, HNUM⟩ := hcut
        have HBQ := hide (show res = (c, Ld.fin s.states.length n c s1) by rw [HBD.out, HQ.out])
        have nbr := (hkr.block _ hbin hzb).trans NB.out
        have HNBR := hide nbr
        have hzr := Nat.lt_of_lt_of_le hzb hkr.size
        have hgood := HM.out.good
        have hrm := hgood.room
        have hstk1 := HM.out.stack
        obtain ⟨g0, more, hsts, _⟩ := HM.out.states
        have hkl : s.states.length < s1.states.length := by rw [hsts]; simp
        have hkI : (s.states.length : Int) < (s1.states.map hid).length := by rw [List.length_map]; omega
        have hsk : s1.states[s.states.length]? = some ⟨n, 1, g0, 0⟩ := by rw [hsts, List.getElem?_append_right (Nat.le_refl _)]; simp
        have hskh : (s1.states.map hid)[s.states.length]? = some ⟨n, 1, 0, 0⟩ := by rw [List.getElem?_map, hsk]; rfl
        have hwr : IntKind.i64.wrap ((s.stack.length : Nat) : Int) = (s.stack.length : Nat) := by rw [IntKind.wrap_i64]; omega
        have hsl1 := hgood.len
        have hne : s1.states.map hid ≠ [] := by intro h0; have := congrArg List.length h0; rw [List.length_map] at this; simp at this; rw [this] at hkl; simp at hkl
        have hslen : s1.stack.length = s.stack.length + 1 := by rw [hstk1]; simp
        obtain ⟨xc, xs, xr, xk, hh, hin⟩ := hsat
        have hsne : s1.stack ≠ [] := by intro h0; rw [h0] at hslen; simp at hslen
        obtain ⟨gk, ck, hxk, _, _, hck, hck2, hokb, _⟩ := hh.stack.form hsne
        subst hxk
        rw [hslen] at hck
        have hckI : ((s.stack.length : Nat) : Int) ≤ ck := by omega
        have k10 : wc.cell? ⟨g, 10, none⟩ = some (.slice (some ⟨gk, 0, none⟩) s1.stack.length ck) := blk_cell hh.blk 10
        have f10 := blk_free hh.blk 10
        rw [hslen] at k10
        have hhd := hh.drew
        rw [hslen] at hhd
        have hpop := (hhd.stack).pop hslen
        have hst1 := hhd.stack_to hpop (World.grownBy.refl _ _) (.inl rfl)
        have hs8 := hst1.1.set 10 (.slice (some ⟨gk, 0, none⟩) s.stack.length ck)
        have hin8 := ((hin.same (w' := wc.drew) (fun b hb => rfl)).same (hst1.2.same (fun b hb => hb) hhd.KS)).same (hs8.2.same (fun b hb => hb) hst1.1.KS)
        have hkr8 := ((hkr.then (Keep.of_below (K := K1) (Below.drew (Below.refl _ _))) hK1).then hst1.2 hK1).then hs8.2 hK1
        obtain ⟨gs, cs, hxs, _, _, _, _, hob, _⟩ := hs8.1.states.form hne
        subst hxs
        have hH := hs8.1
        have hkb2 := hkb.then hkr8 hfold
        clear hs8 hst1 hpop hhd hh hin hokb hkr hkb hp3 HMID HGV0 hslb nbr
        go_upto_region 33 with fail
        go_still_tail 14, (by kernel_rfl)
        change wpList _ _ _ _ _ (World.drew _)
        go_upto_region 34 with fail
        have hdw : wc.drew.setCell ⟨g, 10, none⟩ (.slice (some ⟨gk, 0, none⟩) s.stack.length ck) = (wc.setCell ⟨g, 10, none⟩ (.slice (some ⟨gk, 0, none⟩) s.stack.length ck)).drew := rfl
        rw [hdw] at hH hin8 hkr8 hkb2
        clear hdw
        generalize (wc.setCell ⟨g, 10, none⟩ (.slice (some ⟨gk, 0, none⟩) s.stack.length ck)).drew = W8 at hH hin8 hkr8 hkb2 ⊢
        have k7 : W8.cell? ⟨g, 7, none⟩ = some (.slice (some ⟨gs, 0, none⟩) (s1.states.map hid).length cs) := blk_cell hH.blk 7
        have nb8 := (hkr8.block _ hbin hzb).trans NB.out
        have b0 : W8.cell? ⟨w.heap.size, 0, none⟩ = some (.string n) := blk_cell nb8 0
        have q0 : W8.cell? ⟨gs, s.states.length * 4, none⟩ = some (.string n) := hH.states.cellAt (j := 0) hskh rfl
        have q1 : W8.cell? ⟨gs, s.states.length * 4 + 1, none⟩ = some (.int .i64 1) := hH.states.cellAt (j := 1) hskh rfl
        have q2 : W8.cell? ⟨gs, s.states.length * 4 + 2, none⟩ = some (.int .i64 0) := hH.states.cellAt (j := 2) hskh rfl
        have q3 : W8.cell? ⟨gs, s.states.length * 4 + 3, none⟩ = some (.int .i64 0) := hH.states.cellAt (j := 3) hskh rfl
        have f1 := hH.states.free (s.states.length * 4 + 1)
        have f2 := hH.states.free (s.states.length * 4 + 2)
        have f3 := hH.states.free (s.states.length * 4 + 3)
        have NB8 := hide nb8
        have hbg : w.heap.size ≠ gs := fun e => by
          obtain ⟨cur, hcur⟩ := ownsRow_blk hH.states hob
          rw [← e, NB8.out] at hcur
          injection hcur with hcur
          injection hcur with _ hcur _
          revert hcur
          decide
        have hst1 : ∀ (c : Int), c = 0 → (Ld.fin s.states.length n c s1) = (s1.pop.put s.states.length ⟨n, 2, gv, 0⟩).note ⟨4, n, 0, gv⟩ := fun c h => by unfold Ld.fin; rw [if_pos h, HGV.out]
        have hst2 : ∀ (c : Int), c ≠ 0 → (Ld.fin s.states.length n c s1) = (s1.pop.put s.states.length ⟨n, 3, 0, c⟩).note ⟨5, n, c, if c = 6 then s1.thrown else 0⟩ := fun c h => by unfold Ld.fin; rw [if_neg h]
        have HF1 := hide hst1
        have HF2 := hide hst2
        clear hst1 hst2 k10 f10 nb8
        by_cases hc0 : c = 0
        · subst hc0
          have hown1 := (hH.states).store rfl s.states.length 1 ⟨n, 2, 0, 0⟩ (.int .i64 2) (by show 1 < 4; omega) (fun x hx => by rw [hskh] at hx; obtain rfl := Option.some.inj hx; rfl)
          have hown2 := hown1.store (by rw [List.length_set]) s.states.length 2 ⟨n, 2, gv, 0⟩ (.int .i64 gv) (by show 2 < 4; omega) (fun x hx => by rw [List.getElem?_set_self (by rw [List.length_map]; exact hkl)] at hx; obtain rfl := Option.some.inj hx; rfl)
          simp only [List.set_set] at hown2
          have hto := hH.states_to hown2 (by rw [hob]; exact World.grownBy.trans (grown_set _ gs _ _) (grown_set _ gs _ _)) (.inl rfl)
          have hin5 := hin8.same (hto.2.same (fun b hb => hb) hH.KS)
          have hmp : (s1.states.map hid).set s.states.length ⟨n, 2, gv, 0⟩ = (s1.pop.put s.states.length ⟨n, 2, gv, 0⟩).states.map hid := by
            show _ = (s1.states.set _ _).map hid
            rw [List.map_set]; rfl
          have hs5 : PAt ((W8.setCell ⟨gs, s.states.length * 4 + 1, none⟩ (.int .i64 2)).setCell ⟨gs, s.states.length * 4 + 2, none⟩ (.int .i64 gv)) g K1 vR vM vF bm bf D (s1.pop.put s.states.length ⟨n, 2, gv, 0⟩) := by
            refine PAtV.pat (vc := xc) (vs := .slice (some ⟨gs, 0, none⟩) (s1.states.map hid).length cs) (vr := xr) (vk := .slice (some ⟨gk, 0, none⟩) s.stack.length ck) ⟨?_, hin5⟩
            rw [← hmp]
            exact hto.1
          have hkr5 : Keep K w ((W8.setCell ⟨gs, s.states.length * 4 + 1, none⟩ (.int .i64 2)).setCell ⟨gs, s.states.length * 4 + 2, none⟩ (.int .i64 gv)) := hkb2.then hto.2 (fun b hb => hK1 b (hfold b hb))
          clear hto hin5 hown1 hown2 hsts hsk hskh hob hmp
          go_wp2_with fail
          refine (note_calls _ g K1 vR vM vF bm bf D _ hs5 4 0 gv n (show s1.recs.length ≤ 9000 by omega)).mono ?_
          rintro e w6 ⟨rfl, hs6, hk6⟩
          go_wp2_with fail
          go_ret2
          refine ⟨by rw [HBQ.out]; rfl, K1, fun b hb => hK1 b (hfold b hb), ?_, hkr5.then hk6 (fun b hb => hK1 b (hfold b hb))⟩
          rw [HBQ.out]
          show PAt _ _ _ _ _ _ _ _ _ (Ld.fin s.states.length n 0 s1)
          rw [HF1.out 0 rfl]
          exact hs6
        · have hcb : (c == 0) = false := by simpa using hc0
          have hown1 := (hH.states).store rfl s.states.length 1 ⟨n, 3, 0, 0⟩ (.int .i64 3) (by show 1 < 4; omega) (fun x hx => by rw [hskh] at hx; obtain rfl := Option.some.inj hx; rfl)
          have hown2 := hown1.store (by rw [List.length_set]) s.states.length 3 ⟨n, 3, 0, c⟩ (.int .i64 c) (by show 3 < 4; omega) (fun x hx => by rw [List.getElem?_set_self (by rw [List.length_map]; exact hkl)] at hx; obtain rfl := Option.some.inj hx; rfl)
          simp only [List.set_set] at hown2
          have hto := hH.states_to hown2 (by rw [hob]; exact World.grownBy.trans (grown_set _ gs _ _) (grown_set _ gs _ _)) (.inl rfl)
          have hin5 := hin8.same (hto.2.same (fun b hb => hb) hH.KS)
          have hmp : (s1.states.map hid).set s.states.length ⟨n, 3, 0, c⟩ = (s1.pop.put s.states.length ⟨n, 3, 0, c⟩).states.map hid := by
            show _ = (s1.states.set _ _).map hid
            rw [List.map_set]; rfl
          have hs5 : PAt ((W8.setCell ⟨gs, s.states.length * 4 + 1, none⟩ (.int .i64 3)).setCell ⟨gs, s.states.length * 4 + 3, none⟩ (.int .i64 c)) g K1 vR vM vF bm bf D (s1.pop.put s.states.length ⟨n, 3, 0, c⟩) := by
            refine PAtV.pat (vc := xc) (vs := .slice (some ⟨gs, 0, none⟩) (s1.states.map hid).length cs) (vr := xr) (vk := .slice (some ⟨gk, 0, none⟩) s.stack.length ck) ⟨?_, hin5⟩
            rw [← hmp]
            exact hto.1
          have hkr5 : Keep K w ((W8.setCell ⟨gs, s.states.length * 4 + 1, none⟩ (.int .i64 3)).setCell ⟨gs, s.states.length * 4 + 3, none⟩ (.int .i64 c)) := hkb2.then hto.2 (fun b hb => hK1 b (hfold b hb))
          have HC0 := hide hc0
          clear hto hin5 hown1 hown2 hsts hsk hskh hob hmp hc0
          by_cases h6 : c = 6
          · subst h6
            have hnm := HNUM.out rfl
            subst hnm
            have hcn : ((6 : Int) != 6) = false := by decide
            go_wp2_with fail
            refine (note_calls _ g K1 vR vM vF bm bf D _ hs5 5 6 s1.thrown n (show s1.recs.length ≤ 9000 by omega)).mono ?_
            rintro e w6 ⟨rfl, hs6, hk6⟩
            go_wp2_with fail
            go_ret2
            refine ⟨by rw [HBQ.out, HF2.out 6 HC0.out]; rfl, K1, fun b hb => hK1 b (hfold b hb), ?_, hkr5.then hk6 (fun b hb => hK1 b (hfold b hb))⟩
            rw [HBQ.out]
            show PAt _ _ _ _ _ _ _ _ _ (Ld.fin s.states.length n 6 s1)
            rw [HF2.out 6 HC0.out]
            exact hs6
          · have hcn : (c != 6) = true := by simpa using h6
            have H6 := hide h6
            clear h6
            go_wp2_with fail
            refine (note_calls _ g K1 vR vM vF bm bf D _ hs5 5 c 0 n (show s1.recs.length ≤ 9000 by omega)).mono ?_
            rintro e w6 ⟨rfl, hs6, hk6⟩
            go_wp2_with fail
            go_ret2
            refine ⟨by rw [HBQ.out]; unfold numOf; rw [if_neg H6.out]; rfl, K1, fun b hb => hK1 b (hfold b hb), ?_, hkr5.then hk6 (fun b hb => hK1 b (hfold b hb))⟩
            rw [HBQ.out]
            show PAt _ _ _ _ _ _ _ _ _ (Ld.fin s.states.length n c s1)
            rw [HF2.out c HC0.out, if_neg H6.out]
            exact hs6
end Go.Proofs.YtkhlicmlnjccdaaGreatDoor
