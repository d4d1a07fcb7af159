/-
  Walk: the reference's drawn world, exactly.
-/
import Derived.Test.YtkhlicmlnjccdaaGreatDoorKt32
import Derived.Test.YtkhlicmlnjccdaaGreatDoorKt12
import Derived.Test.YtkhlicmlnjccdaaGreatDoorKt20
import Derived.Deep.DeepCutAuto
import Derived.Deep.RegionLaw
import Derived.Deep.CutBlock
namespace Go.Proofs.YtkhlicmlnjccdaaGreatDoor
open Go.RowKit Mem

/-- what drawing a world hands back, exactly -/
def RetWorldE (w : World) (g : Nat) (A : Option Addr) (n cp : Nat) (c0 : Cur) (K : Nat) (e : Ending) (w' : World) : Prop :=
  ∃ (vR vM vF : Value) (D : WorldD) (c1 : Cur), e = .returned (.agg #[vR, vM, vF]) ∧ WIn w' (fun b => w.heap.size ≤ b) vR vM vF D ∧ WSz D ∧ (∀ m ∈ D.mods, ∀ l ∈ m.lines, 0 ≤ l.num ∧ l.num ≤ 1000) ∧ D.mods.length ≤ 7 ∧ CurIn w' g A n cp c1 K ∧ w.grownBy w' (some g) ∧ Hid (DP.world c0 = (c1, D))
theorem Mem.LBox.eq {W w : World} {g n cp K : Nat} {A : Option Addr} {c1 c2 : Cur} {a b c : Int} {s : Str} (h : LBox W w g A n cp c1 K a s b c) (e : c1 = c2) : LBox W w g A n cp c2 K a s b c := e ▸ h

set_option maxRecDepth 100000 in
set_option maxHeartbeats 4000000 in
theorem world_ex (w : World) (g n cp K0 : Nat) (hK0 : K0 ≤ 100) (A : Option Addr) (c0 : Cur) (hc : CurIn w g A n cp c0 K0) (hcb : CodeBelow A n w.heap.size) :
    Calls Tryz.prog 25 #[.pointer (some ⟨g, 0, none⟩)] w (RetWorldE w g A n cp c0 9000) := by
  have hgl := hc.lt
  go_enter Tryz.func25, Tryz.ntmps25
  go_upto_region 3 with fail
  have hw0 : WAt w ((w.alloc (Obj.cells #[.slice none 0 0, .slice none 0 0, .slice none 0 0] 27)).alloc (Obj.cells #[.slice none 0 0, .slice none 0 0, .slice none 0 0] 27)) g A n cp c0 K0 (.slice none 0 0) (.slice none 0 0) (.slice none 0 0) [] [] [] [] := by
    have hb : Below w.heap.size w ((w.alloc (Obj.cells #[.slice none 0 0, .slice none 0 0, .slice none 0 0] 27)).alloc (Obj.cells #[.slice none 0 0, .slice none 0 0, .slice none 0 0] 27)) := by (repeat (first | with_reducible exact Below.refl _ _ | with_reducible assumption | with_reducible refine Below.alloc ?_ (by first | exact Nat.le_refl _ | exact Below.size (by assumption) | exact Nat.le_trans (Below.size (by assumption)) (by simp; done) | (simp; done) | (simp; omega) | omega) _ | with_reducible refine below_drewN ?_ _ | with_reducible refine Below.drew ?_ | with_reducible refine Below.setCell ?_ (by first | exact Nat.le_refl _ | (simp; done) | (simp; omega) | omega) _))
    refine ⟨⟨⟨hb.os, hb.tape, hb.output, hb.size, fun i hi _ => hb.block i hi⟩, hgl, ?_, ?_, hc.below hb, hcb⟩, Own.nil _ _ _, OwnH.nil _ _, HApart.nil, Own.nil _ _ _, fun x hx => by simp at hx, fun x hx => by simp at hx, fun x hx => by simp at hx⟩
    · rw [alloc_old _ _ (by simp)]
      exact heap_alloc_new w _
    · have := heap_alloc_new (w.alloc (Obj.cells #[.slice none 0 0, .slice none 0 0, .slice none 0 0] 27)) (Obj.cells #[.slice none 0 0, .slice none 0 0, .slice none 0 0] 27)
      simpa using this
  generalize (w.alloc (Obj.cells #[.slice none 0 0, .slice none 0 0, .slice none 0 0] 27)).alloc (Obj.cells #[.slice none 0 0, .slice none 0 0, .slice none 0 0] 27) = W1 at hw0 ⊢
  clear hc hcb
  go_wp2_with fail
  refine (pick_in 7 hw0.base.cur (by omega) (by omega) (by omega)).mono ?_
  rintro e w2 ⟨r1, rfl, hr1, hc2, hg2, he2⟩
  have hw2 := hw0.cur' hc2 hg2
  clear hw0 hc2 hg2
  go_wp2_with fail
  go_loopw [4, 5] (fun vN i wr => ∃ (m : Nat) (names : List Str) (vM : Value) (hs : List HdrD) (ms : List ModD) (cc : Cur), i = .int .i64 m ∧ m + names.length ≤ 7 ∧ m + hs.length ≤ 7 ∧ Own fStr wr (w.heap.size + 2) 9 vN names ∧ Hid (∀ x ∈ names, x.size ≤ 20) ∧ WAt w wr g A n cp cc (200 - 10 * m) (.slice none 0 0) vM (.slice none 0 0) [] hs ms [] ∧ Hid (∀ (j : Nat) (x : ModD), ms[j]? = some x → x.lines = []) ∧ Hid (DP.world c0 = DP.W2 (DP.modsL m cc names ms))) (fun _ i _ => (intOf i).toNat)
  case atStart => exact ⟨1 + r1, [], _, _, _, _, by go_num, by simp; omega, by simp; omega, Own.nil _ _ _, hide (fun x hx => by simp at hx), hw2.more (by omega), hide (fun j x e => by simp at e), hide (by rw [he2.out]; rfl)⟩
  case round =>
    clear hw2
    obtain ⟨m, names, vM, hs, ms, cc, rfl, hmn, hmh, HN, HZ, HW, HE, HX⟩ := hrel
    by_cases h0 : m = 0
    · subst h0
      obtain ⟨nA, nc, hnv, _, _, _⟩ := HN.slV
      subst hnv
      have hl := HW.base.lt
      have q0 : wr.cell? ⟨w.heap.size + 1, 0, none⟩ = some (.slice none 0 0) := blk_cell HW.base.box 0
      have f0 := blk_free HW.base.box 0
      go_upto_region 11 with fail
      have hw5 := (HW.below (Below.alloc (Below.refl _ wr) (Nat.le_refl _) (Obj.cells #[.string ⟨#[]⟩] 9))).setR (v1 := .slice (some ⟨wr.heap.size, 0, none⟩) 1 1) (xs := [⟨#[]⟩]) (World.ownsRow_lit wr #[.string ⟨#[]⟩] 1 (by omega) (by decide) rfl) (World.grownBy.refl _ _) (fun x hx => by rw [List.mem_singleton.1 hx]; decide)
      have hNa := HN.alloc (Obj.cells #[.string ⟨#[]⟩] 9)
      have hN5 := hNa.kept (grown_set (wr.alloc (Obj.cells #[.string ⟨#[]⟩] 9)) (w.heap.size + 1) 0 (.slice (some ⟨wr.heap.size, 0, none⟩) 1 1)) (apart_blk hNa ((alloc_old wr (Obj.cells #[.string ⟨#[]⟩] 9) hl).trans HW.base.box) (by decide))
      have hap : ∀ b, (Value.slice nA names.length nc).ownBlock = some b → b < wr.heap.size := fun b e => HN.lt e
      rw [World.setCell_alloc_past _ _ _ _ hl] at hw5 hN5
      generalize (wr.setCell ⟨w.heap.size + 1, 0, none⟩ (.slice (some ⟨wr.heap.size, 0, none⟩) 1 1)).alloc (Obj.cells #[.string ⟨#[]⟩] 9) = W5 at hw5 hN5 ⊢
      -- (.slice (some ⟨wr.heap.size, 0, none⟩) 1 1) = W5 at hw5 hN5 ⊢
      have hr5 : WRN w W5 g A n cp cc (200 - 10 * 0) (.slice nA names.length nc) (.slice (some ⟨wr.heap.size, 0, none⟩) 1 1) vM (.slice none 0 0) names [⟨#[]⟩] hs ms [] := ⟨hw5, hN5, fun b1 b2 e1 e2 => by have := hap b1 e1; have : wr.heap.size = b2 := Option.some.inj e2; omega⟩
      clear HN HW q0 f0 hl hap hNa hw5 hN5
      go_wp2_with fail
      refine (pick_in 3 hr5.W.base.cur (by omega) (by omega) (by omega)).mono ?_
      rintro e w6 ⟨r2, rfl, hr2, hc6, hg6, he6⟩
      have hr6 := hr5.cur' hc6 hg6
      clear hr5 hc6 hg6
      have hnl : names.length ≤ 7 := by omega
      have hhl : hs.length ≤ 7 := by omega
      clear hmn hmh
      go_wp2_with fail
      go_loopw [7] (fun i wr => ∃ (m : Nat) (vR : Value) (roots : List Str) (c2 : Cur), i = .int .i64 m ∧ m + roots.length ≤ 3 ∧ WRN w wr g A n cp c2 (300 - 10 * m) (.slice nA names.length nc) vR vM (.slice none 0 0) names roots hs ms [] ∧ Hid (DP.world c0 = DP.W4 names ms (DP.rootsL m c2 roots))) (fun i _ => (intOf i).toNat)
      case atStart => exact ⟨r2, _, _, _, rfl, by simp; omega, hr6.more (by omega), hide (by rw [HX.out, he6.out]; rfl)⟩
      case round =>
        clear hr6
        obtain ⟨m, vR, roots, c2, rfl, hmr, HR, HX2⟩ := hrel
        by_cases h0 : m = 0
        · subst h0
          go_wp2_with fail
          refine (pick_in 10 HR.W.base.cur (by omega) (by omega) (by omega)).mono ?_
          rintro e w7 ⟨r3, rfl, hr3, hc7, hg7, he7⟩
          have hr7 := HR.cur' hc7 hg7
          clear HR hc7 hg7
          have q0 := blk_cell hr7.W.base.box 0
          have f0 := blk_free hr7.W.base.box 0
          have hcase : ((r3 : Int) == 0) = true ∨ ((r3 : Int) == 0) = false := by
            by_cases h0 : r3 = 0
            · exact .inl (by simp; omega)
            · exact .inr (by simp; omega)
          go_upto_if 58 with fail
          go_cut [] (fun wx => ∃ (vR : Value) (roots : List Str), roots.length ≤ 4 ∧ WRN w wx g A n cp (c2.pick 10).2 400 (.slice nA names.length nc) vR vM (.slice none 0 0) names roots hs ms [] ∧ Hid (DP.world c0 = DP.W6 roots (DP.bodiesL ms.length 0 names (c2.pick 10).2 ms)))
          case first =>
            rcases hcase with hcb | hcb
            · go_wp2_with fail
              go_meet
              exact ⟨_, _, Nat.zero_le _, hr7.noRoots.more (by omega), hide (by rw [HX2.out]; exact congrArg (DP.W6 · _) (if_pos (show (c2.pick 10).1 = 0 by have h1 : r3 = (c2.pick 10).1 := he7.out; have h2 : r3 = 0 := (by simpa using hcb); omega)))⟩
            · go_wp2_with fail
              go_meet
              exact ⟨_, _, by omega, hr7.more (by omega), hide (by rw [HX2.out]; exact congrArg (DP.W6 · _) (if_neg (show ¬ (c2.pick 10).1 = 0 by have h1 : r3 = (c2.pick 10).1 := he7.out; have h2 : r3 ≠ 0 := (by simpa using hcb); omega)))⟩
          case rest =>
            obtain ⟨vR3, roots3, hr34, HR8, HX3⟩ := hcut
            clear hr7 hcase q0 f0
            obtain ⟨mA, mc, hmv, _, _, _⟩ := HR8.W.M.slV
            subst hmv
            have hlm := HR8.W.M.len
            have hml7 : ms.length ≤ 7 := by omega
            have q1 : wc.cell? ⟨w.heap.size + 1, 1, none⟩ = some (.slice mA ms.length mc) := blk_cell HR8.W.base.box 1
            go_wp2_with fail
            clear q1
            obtain ⟨M, hM⟩ : ∃ M, M = ms.length := ⟨_, rfl⟩
            have hM7 : M ≤ 7 := by omega
            have HXM := hide (show DP.world c0 = DP.W6 roots3 (DP.bodiesL (M - 0) 0 names (c2.pick 10).2 ms) by rw [HX3.out, hM]; rfl)
            rw [← hM] at HR8 ⊢
            go_loopw [63] (fun v wr => ∃ (i : Nat) (hs' : List HdrD) (ms' : List ModD) (c3 : Cur), v = .int .i64 i ∧ i ≤ M ∧ ms'.length = M ∧ WRN w wr g A n cp c3 (400 + 1000 * i) (.slice nA names.length nc) vR3 (.slice mA M mc) (.slice none 0 0) names roots3 hs' ms' [] ∧ Hid (∀ (j : Nat) (x : ModD), i ≤ j → ms'[j]? = some x → x.lines = []) ∧ Hid (DP.world c0 = DP.W6 roots3 (DP.bodiesL (M - i) i names c3 ms'))) (fun v _ => M - (intOf v).toNat)
            case atStart => exact ⟨0, _, _, _, rfl, by omega, hM.symm, HR8, hide (fun j x _ e => HE.out j x e), HXM⟩
            case round =>
              clear HR8 hlm hml7 hM
              obtain ⟨i, hs', ms', c3, rfl, hi, hml, HR, HEi, HX⟩ := hrel
              by_cases hlt : i < M
              · have hlm := HR.W.M.len
                obtain ⟨gM, mc', hmv, _, _, _, _, _, _⟩ := HR.W.M.row.form (fun e => by rw [e] at hlm; simp at hlm; omega)
                injection hmv with hA hA2 hA3
                clear hA2 hA3 hlm
                subst hA
                have q1 : wr.cell? ⟨w.heap.size + 1, 1, none⟩ = some (.slice (some ⟨gM, 0, none⟩) M mc) := blk_cell HR.W.base.box 1
                go_wp2_with fail
                refine (pick_in 6 HR.W.base.cur (by omega) (by omega) (by omega)).mono ?_
                rintro e w9 ⟨r4, rfl, hr4, hc9, hg9, he9⟩
                have hr9 := HR.cur' hc9 hg9
                clear HR hc9 hg9 q1
                go_wp2_with fail
                have HMl := hide hml
                have hil : i < ms'.length := by omega
                clear hml
                go_loopw [10] (fun v wr => ∃ (m : Nat) (hs' : List HdrD) (ms' : List ModD) (nm : Str) (ls : List LineD) (c4 : Cur), v = .int .i64 m ∧ m + ls.length ≤ 5 ∧ Hid (ms'.length = M) ∧ Hid (ms'[i]? = some ⟨nm, ls⟩) ∧ WRN w wr g A n cp c4 (700 + 1000 * i - 30 * m) (.slice nA names.length nc) vR3 (.slice (some ⟨gM, 0, none⟩) M mc) (.slice none 0 0) names roots3 hs' ms' [] ∧ Hid (∀ (j : Nat) (x : ModD), i + 1 ≤ j → ms'[j]? = some x → x.lines = []) ∧ Hid (DP.world c0 = DP.W6 roots3 (DP.bodyK (M - (i + 1)) (i + 1) names i nm ms' (DP.fin (DP.linesL m names c4 ls))))) (fun v _ => (intOf v).toNat)
                case atStart =>
                  have hE0 := HEi.out i _ (Nat.le_refl _) (List.getElem?_eq_getElem hil)
                  exact ⟨r4, hs', ms', ms'[i].name, ms'[i].lines, _, rfl, by rw [hE0]; simp; omega, HMl, hide (List.getElem?_eq_getElem hil), hr9.more (by omega), hide (fun j x hj e => HEi.out j x (by omega) e), hide (by rw [HX.out, show M - i = M - (i + 1) + 1 by omega, DP.bodies_at (nm := ms'[i].name) (ls := ms'[i].lines) (List.getElem?_eq_getElem hil), he9.out])⟩
                case round =>
                  clear hil HMl hr9 HEi HX
                  obtain ⟨m, hs2, ms2, nm, ls, c4, rfl, hmls, HML, HMI, HR, HEj, HX⟩ := hrel
                  obtain ⟨hd, hdi, hdo⟩ := HR.W.hd HMI.out
                  have qd := (HR.W.at_ hdi).1
                  have HDI := hide hdi
                  by_cases h0 : m = 0
                  · subst h0
                    obtain ⟨hdn, hdA, hdl, hdc⟩ := hd
                    obtain rfl : hdl = ls.length := hdo.n
                    obtain rfl : hdn = nm := hdo.name
                    replace qd : wr.cell? ⟨gM, i * 2 + 1, none⟩ = some (.slice hdA ls.length hdc) := qd
                    have hl5 : ls.length ≤ 5 := by omega
                    clear hdo hdi
                    go_wp2_with fail
                    clear qd
                    obtain ⟨L, hL⟩ : ∃ L, L = ls.length := ⟨_, rfl⟩
                    have hL5 : L ≤ 5 := by omega
                    have HXL := hide (show DP.world c0 = DP.W6 roots3 (DP.bodyK (M - (i + 1)) (i + 1) names i hdn ms2 (DP.skipsL (L - 0) 0 c4 ls)) by rw [HX.out, hL]; rfl)
                    rw [← hL] at HDI ⊢
                    have HL0 := hide hL.symm
                    clear hL hl5 hmls
                    obtain ⟨v10, hv10⟩ : ∃ v : Int, v = ((0 : Nat) : Int) := ⟨_, rfl⟩
                    rw [← hv10]
                    clear hv10
                    go_loopw [140] (fun v wr => ∃ (j : Nat) (ms' : List ModD) (ls : List LineD) (c5 : Cur), v = .int .i64 j ∧ j ≤ L ∧ Hid (ls.length = L) ∧ Hid (ms'.length = M) ∧ Hid (ms'[i]? = some ⟨hdn, ls⟩) ∧ WRN w wr g A n cp c5 (700 + 1000 * i + 2 * j) (.slice nA names.length nc) vR3 (.slice (some ⟨gM, 0, none⟩) M mc) (.slice none 0 0) names roots3 hs2 ms' [] ∧ Hid (∀ (j : Nat) (x : ModD), i + 1 ≤ j → ms'[j]? = some x → x.lines = []) ∧ Hid (DP.world c0 = DP.W6 roots3 (DP.bodyK (M - (i + 1)) (i + 1) names i hdn ms' (DP.skipsL (L - j) j c5 ls)))) (fun v _ => L - (intOf v).toNat)
                    case atStart => exact ⟨0, ms2, ls, _, rfl, by omega, HL0, HML, HMI, HR.more (by omega), HEj, HXL⟩
                    case round =>
                      clear HR HML HMI HEj HL0 HX HXL
                      obtain ⟨j, ms3, ls3, c5, rfl, hj, HL3, HML, HMI, HR, HEj, HX⟩ := hrel
                      have qd : wr.cell? ⟨gM, i * 2 + 1, none⟩ = some (.slice hdA L hdc) := (HR.W.at_ HDI.out).1
                      by_cases hjl : j < L
                      · have HOW : Hid (Own fLine wr (w.heap.size + 2) 106 (.slice hdA L hdc) ls3) := hide (HR.W.M.each i _ _ HDI.out HMI.out).own
                        have hjl3 : j < ls3.length := by rw [HL3.out]; exact hjl
                        obtain ⟨gL, lc, hv, _, _, _, _, _, _⟩ := HOW.out.form (fun e => by rw [e] at hjl3; simp at hjl3)
                        injection hv with hA hA2 hA3
                        clear hA2 hA3
                        subst hA
                        have e0 : wr.cell? ⟨gL, j * 4, none⟩ = some (.int .i64 ls3[j].op) := HOW.out.cellAt (j := 0) (List.getElem?_eq_getElem hjl3) rfl
                        have HG := hide (List.getElem?_eq_getElem hjl3)
                        generalize ls3[j] = l at e0 HG
                        obtain ⟨lo, ln, lm, lk⟩ := l
                        replace e0 : wr.cell? ⟨gL, j * 4, none⟩ = some (.int .i64 lo) := e0
                        clear hjl3
                        by_cases h7 : lo = 7
                        · subst h7
                          go_upto_region 51 with fail
                          have hr11 := HR.below (Below.drew (Below.refl wr.heap.size wr))
                          have HR11 := hide hr11
                          have hjl64 : IntKind.i64.wrap ((L : Int) - (j : Int)) = (L : Int) - (j : Int) := by rw [IntKind.wrap_i64]; omega
                          clear hr11 e0
                          refine wp_region_held_drew (S := fun w' => w'.cell? ⟨gM, i * 2 + 1, none⟩ = some (.slice (some ⟨gL, 0, none⟩) L hdc)) (by kernel_rfl) (HR11.out.W.at_ HDI.out).1 (fun hHeld => ?_)
                          (refine wpAnyH_take (i := 0) (oi := ⟨some 152, _, _, _, _, _⟩) (v := .pointer (some ⟨gM, i * 2, none⟩)) rfl (by kernel_rfl) (by kernel_rfl) (by kernel_rfl) (fun _ _ _ h => h) (Or.inl ⟨by rfl, ?_⟩) (by assumption) ?_; (focus (intro w hSw; (try dsimp only at hSw); go_simp; done)); try simp only [Act.put, List.setIfInBounds_toArray, List.set_cons_zero, List.set_cons_succ])
                          (refine wpAnyH_take (i := 1) (oi := ⟨some 153, _, _, _, _, _⟩) (v := .pointer (some ⟨gM, i * 2, none⟩)) rfl (by kernel_rfl) (by kernel_rfl) (by kernel_rfl) (fun _ _ _ h => h) (Or.inl ⟨by rfl, ?_⟩) (by assumption) ?_; (focus (intro w hSw; (try dsimp only at hSw); go_simp; done)); try simp only [Act.put, List.setIfInBounds_toArray, List.set_cons_zero, List.set_cons_succ])
                          (refine wpAnyH_take (i := 2) (oi := ⟨some 154, _, _, _, _, _⟩) (v := .pointer (some ⟨gM, i * 2 + 1, none⟩)) rfl (by kernel_rfl) (by kernel_rfl) (by kernel_rfl) (fun _ _ _ h => h) (Or.inl ⟨by rfl, ?_⟩) (by assumption) ?_; (focus (intro w hSw; (try dsimp only at hSw); go_simp; done)); try simp only [Act.put, List.setIfInBounds_toArray, List.set_cons_zero, List.set_cons_succ])
                          (refine wpAnyH_take (i := 3) (oi := ⟨some 155, _, _, _, _, _⟩) (v := .slice (some ⟨gL, 0, none⟩) L hdc) rfl (by kernel_rfl) (by kernel_rfl) (by kernel_rfl) (fun _ _ _ h => h) (Or.inl ⟨by rfl, ?_⟩) (by assumption) ?_; (focus (intro w hSw; (try dsimp only at hSw); go_simp; done)); try simp only [Act.put, List.setIfInBounds_toArray, List.set_cons_zero, List.set_cons_succ])
                          (refine wpAnyH_take (i := 4) (oi := ⟨some 156, _, _, _, _, _⟩) (v := .int .i64 j) rfl (by kernel_rfl) (by kernel_rfl) (by kernel_rfl) (fun _ _ _ h => h) (Or.inl ⟨by rfl, ?_⟩) (by assumption) ?_; (focus (intro w hSw; (try dsimp only at hSw); go_simp; done)); try simp only [Act.put, List.setIfInBounds_toArray, List.set_cons_zero, List.set_cons_succ])
                          (refine wpAnyH_take (i := 5) (oi := ⟨some 157, _, _, _, _, _⟩) (v := .pointer (some ⟨g, 0, none⟩)) rfl (by kernel_rfl) (by kernel_rfl) (by kernel_rfl) (fun _ _ _ h => h) (Or.inl ⟨by rfl, ?_⟩) (by assumption) ?_; (focus (intro w hSw; (try dsimp only at hSw); go_simp; done)); try simp only [Act.put, List.setIfInBounds_toArray, List.set_cons_zero, List.set_cons_succ])
                          (refine wpAnyH_take (i := 6) (oi := ⟨some 158, _, _, _, _, _⟩) (v := .pointer (some ⟨gM, i * 2, none⟩)) rfl (by kernel_rfl) (by kernel_rfl) (by kernel_rfl) (fun _ _ _ h => h) (Or.inl ⟨by rfl, ?_⟩) (by assumption) ?_; (focus (intro w hSw; (try dsimp only at hSw); go_simp; done)); try simp only [Act.put, List.setIfInBounds_toArray, List.set_cons_zero, List.set_cons_succ])
                          (refine wpAnyH_take (i := 7) (oi := ⟨some 159, _, _, _, _, _⟩) (v := .pointer (some ⟨gM, i * 2, none⟩)) rfl (by kernel_rfl) (by kernel_rfl) (by kernel_rfl) (fun _ _ _ h => h) (Or.inl ⟨by rfl, ?_⟩) (by assumption) ?_; (focus (intro w hSw; (try dsimp only at hSw); go_simp; done)); try simp only [Act.put, List.setIfInBounds_toArray, List.set_cons_zero, List.set_cons_succ])
                          (refine wpAnyH_take (i := 8) (oi := ⟨some 160, _, _, _, _, _⟩) (v := .pointer (some ⟨gM, i * 2 + 1, none⟩)) rfl (by kernel_rfl) (by kernel_rfl) (by kernel_rfl) (fun _ _ _ h => h) (Or.inl ⟨by rfl, ?_⟩) (by assumption) ?_; (focus (intro w hSw; (try dsimp only at hSw); go_simp; done)); try simp only [Act.put, List.setIfInBounds_toArray, List.set_cons_zero, List.set_cons_succ])
                          (refine wpAnyH_take (i := 9) (oi := ⟨some 161, _, _, _, _, _⟩) (v := .slice (some ⟨gL, 0, none⟩) L hdc) rfl (by kernel_rfl) (by kernel_rfl) (by kernel_rfl) (fun _ _ _ h => h) (Or.inl ⟨by rfl, ?_⟩) (by assumption) ?_; (focus (intro w hSw; (try dsimp only at hSw); go_simp; done)); try simp only [Act.put, List.setIfInBounds_toArray, List.set_cons_zero, List.set_cons_succ])
                          (refine wpAnyH_take (i := 10) (oi := ⟨some 162, _, _, _, _, _⟩) (v := .int .i64 L) rfl (by kernel_rfl) (by kernel_rfl) (by kernel_rfl) (fun _ _ _ h => h) (Or.inl ⟨by rfl, ?_⟩) (by assumption) ?_; (focus (intro w hSw; (try dsimp only at hSw); go_simp; done)); try simp only [Act.put, List.setIfInBounds_toArray, List.set_cons_zero, List.set_cons_succ])
                          (refine wpAnyH_take (i := 11) (oi := ⟨some 163, _, _, _, _, _⟩) (v := .int .i64 j) rfl (by kernel_rfl) (by kernel_rfl) (by kernel_rfl) (fun _ _ _ h => h) (Or.inl ⟨by rfl, ?_⟩) (by assumption) ?_; (focus (intro w hSw; (try dsimp only at hSw); go_simp; done)); try simp only [Act.put, List.setIfInBounds_toArray, List.set_cons_zero, List.set_cons_succ])
                          (refine wpAnyH_take (i := 12) (oi := ⟨some 164, _, _, _, _, _⟩) (v := .int .i64 ((L : Int) - j)) rfl (by kernel_rfl) (by kernel_rfl) (by kernel_rfl) (fun _ _ _ h => h) (Or.inl ⟨by rfl, ?_⟩) (by assumption) ?_; (focus (intro w hSw; (try dsimp only at hSw); go_simp; done)); try simp only [Act.put, List.setIfInBounds_toArray, List.set_cons_zero, List.set_cons_succ])
                          refine wpAnyH_ready (rs := [13]) (by kernel_rfl) (by simp) ?_
                          refine AllReadyH.cons (o := ⟨some 165, _, _, _, _, _⟩) rfl (fun K hK => ?_) AllReadyH.nil
                          go_simp
                          refine (pick_inI _ HR11.out.W.base.cur (by omega) (by omega) (by omega)).mono ?_
                          rintro e w12 ⟨r6, rfl, hr6, hc12, hg12, he12⟩
                          have hr12 := WRN.cur' HR11.out hc12 hg12
                          refine hK.out _ _ (hr12.W.at_ HDI.out).1 (fun hHeld => ?_)
                          clear hK K hc12 hg12
                          try simp only [Act.put, List.setIfInBounds_toArray, List.set_cons_zero, List.set_cons_succ]
                          have HOW12 : Hid (Own fLine w12 (w.heap.size + 2) 106 (.slice (some ⟨gL, 0, none⟩) L hdc) ls3) := hide (hr12.W.M.each i _ _ HDI.out HMI.out).own
                          have qs : w12.cell? ⟨gL, j * 4 + 3, none⟩ = some (.int .i64 lk) := HOW12.out.cellAt (j := 3) HG.out rfl
                          have qf : w12.frozen? ⟨gL, j * 4 + 3, none⟩ = false := HOW12.out.free _
                          have hst := HOW12.out.store HL3.out j 3 ⟨7, ln, lm, r6⟩ (.int .i64 r6) (by show 3 < 4; omega) (fun x hx => by rw [HG.out] at hx; obtain rfl := Option.some.inj hx; rfl)
                          have hr13 := hr12.lines_at HDI.out HMI.out hst (grown_set w12 gL (j * 4 + 3) _) (List.length_set ..) (fun l hl => by
                            obtain ⟨q, hq⟩ := List.getElem?_of_mem hl
                            rcases set_get hq with ⟨_, rfl⟩ | ⟨_, hq⟩
                            · have hx := (HR.W.msz _ (List.mem_of_getElem? HMI.out)).2 ⟨7, ln, lm, lk⟩ (List.mem_of_getElem? HG.out)
                              exact hx
                            · exact (HR.W.msz _ (List.mem_of_getElem? HMI.out)).2 _ (List.mem_of_getElem? hq))
                          have HRN := hide hr13
                          clear hst hr13 hr12
                          (refine wpAnyH_take (i := 14) (oi := ⟨some 166, _, _, _, _, _⟩) (v := .pointer (some ⟨gL, j * 4, none⟩)) rfl (by kernel_rfl) (by kernel_rfl) (by kernel_rfl) (fun _ _ _ h => h) (Or.inl ⟨by rfl, ?_⟩) (by assumption) ?_; (focus (intro w hSw; (try dsimp only at hSw); go_simp; done)); try simp only [Act.put, List.setIfInBounds_toArray, List.set_cons_zero, List.set_cons_succ])
                          (refine wpAnyH_take (i := 15) (oi := ⟨some 167, _, _, _, _, _⟩) (v := .pointer (some ⟨gL, j * 4 + 3, none⟩)) rfl (by kernel_rfl) (by kernel_rfl) (by kernel_rfl) (fun _ _ _ h => h) (Or.inl ⟨by rfl, ?_⟩) (by assumption) ?_; (focus (intro w hSw; (try dsimp only at hSw); go_simp; done)); try simp only [Act.put, List.setIfInBounds_toArray, List.set_cons_zero, List.set_cons_succ])
                          refine wpAnyH_ready (rs := [16]) (by kernel_rfl) (by simp) ?_
                          refine AllReadyH.cons (o := ⟨none, _, _, _, _, _⟩) rfl (fun K hK => ?_) AllReadyH.nil
                          go_simp
                          refine hK.out _ _ (HRN.out.W.at_ HDI.out).1 (fun hHeld => ?_)
                          clear hK K
                          refine wpAnyH_done (by kernel_rfl) ?_ _
                          clear qs qf hHeld
                          go_wp2_with fail
                          go_roundw
                          case rel =>
                            refine ⟨j + 1, _, _, _, by go_num, by omega, hide ((List.length_set ..).trans HL3.out), hide ((List.length_set ..).trans HML.out), hide (List.getElem?_set_self (by rw [HML.out]; exact hlt)), HRN.out.more (by omega), hide (fun j' x hj' e => ?_), hide (by rw [DP.body_set, HX.out, show L - j = L - (j + 1) + 1 by omega, DP.skips_yes HG.out, he12.out, show ((L : Int) - (j : Int)).toNat = L - (j + 1) + 1 by omega])⟩
                            rcases set_get e with ⟨e1, _⟩ | ⟨_, e2⟩
                            · omega
                            · exact HEj.out j' x hj' e2
                          case measure => simp [intOf]; omega
                        · have h7b : (lo == 7) = false := by simpa using h7
                          have H7 := hide h7
                          clear h7
                          go_wp2_with fail
                          go_roundw
                          case rel => exact ⟨j + 1, ms3, ls3, _, by go_num, by omega, HL3, HML, HMI, HR.more (by omega), HEj, hide (by rw [HX.out, show L - j = L - (j + 1) + 1 by omega, DP.skips_no HG.out H7.out])⟩
                          case measure => simp [intOf]; omega
                      · obtain rfl : j = L := by omega
                        go_wp2_with fail
                        go_roundw
                        case rel => exact ⟨i + 1, hs2, ms3, _, by go_num, by omega, HML.out, HR.more (by omega), HEj, hide (by rw [HX.out, Nat.sub_self]; exact congrArg (DP.W6 roots3) (DP.body_end HMI.out))⟩
                        case measure => simp [intOf]; omega
                  · obtain ⟨m', rfl⟩ : ∃ m', m = m' + 1 := ⟨m - 1, by omega⟩
                    clear h0 qd
                    have hbx := LBox.start (a := 0) (s := ⟨#[]⟩) (b := 0) (c := 0) HR.W.base.cur (show g < wr.heap.size by have := HR.W.base.lt; omega) (fun hcn ad hA => by have := HR.W.base.code hcn ad hA; have := HR.W.base.lt; omega)
                    go_upto_region 25 with fail
                    generalize wr.alloc (Obj.cells #[.int .i64 0, .string ⟨#[]⟩, .int .i64 0, .int .i64 0] 106) = W10 at hbx ⊢
                    go_wp2_with fail
                    refine (pick_in 12 hbx.cur (by omega) (by omega) (by omega)).mono ?_
                    rintro e w11 ⟨r5, rfl, hr5, hc11, hg11, he11⟩
                    have hb11 := hbx.cur' hc11 hg11
                    clear hbx hc11 hg11
                    go_upto_block 8 with fail
                    have HO := hide (show DP.one c4 names = DP.oneOf r5 (c4.pick 12).2 names by unfold DP.one; rw [he11.out])
                    go_cut [] (fun wx => ∃ (a : Int) (s : Str) (b : Int), s.size ≤ 25 ∧ (0 ≤ b ∧ b ≤ 1000) ∧ LBox wr wx g A n cp (DP.one c4 names).1 (700 + 1000 * i - 30 * m') a s b 0 ∧ Hid ((DP.one c4 names).2 = (a, s, b)))
                    case first =>
                      have hr5c : r5 = 0 ∨ r5 = 1 ∨ r5 = 2 ∨ r5 = 3 ∨ r5 = 4 ∨ r5 = 5 ∨ r5 = 6 ∨ r5 = 7 ∨ r5 = 8 ∨ r5 = 9 ∨ r5 = 10 ∨ r5 = 11 := by omega
                      rcases hr5c with rfl | rfl | rfl | rfl | rfl | rfl | rfl | rfl | rfl | rfl | rfl | rfl
                      all_goals go_wp2_with fail
                      all_goals first
                        | (refine (pick_inI _ hb11.cur (by omega) (by omega) (by omega)).mono ?_
                           rintro e w12 ⟨r6, rfl, hr6, hc12, hg12, he12⟩
                           have hb12 := hb11.cur' hc12 hg12
                           clear hc12 hg12)
                        | (refine (ask_inN hb11.cur (by omega) (B := w.heap.size + 2) (by omega) (HR.cur' hb11.cur hb11.out).N (by omega) HZ.out).mono ?_
                           rintro e w12 ⟨s6, rfl, hs6, hc12, hg12, he12⟩
                           have hb12 := hb11.cur' hc12 hg12
                           clear hc12 hg12)
                      all_goals
                        have k0 := blk_cell hb12.box 0
                        have k1 := blk_cell hb12.box 1
                        have k2 := blk_cell hb12.box 2
                        have k3 := blk_cell hb12.box 3
                        have f0 := blk_free hb12.box 0
                        have f1 := blk_free hb12.box 1
                        have f2 := blk_free hb12.box 2
                        have f3 := blk_free hb12.box 3
                      iterate 11
                        rotate_left
                      · have hcase : r6 = 0 ∨ ((r6 : Int) == 0) = false := by
                          by_cases h0 : r6 = 0
                          · exact .inl h0
                          · exact .inr (by simp; omega)
                        rcases hcase with rfl | hcb
                        · go_wp2_with fail
                          refine (pick_inI _ hb12.cur (by omega) (by omega) (by omega)).mono ?_
                          rintro e w13 ⟨r8, rfl, hr8, hc13, hg13, he13⟩
                          have hb13 := hb12.cur' hc13 hg13
                          clear hc13 hg13 k0 k1 k2 k3 f0 f1 f2 f3 hb12
                          have k0 := blk_cell hb13.box 0
                          have k1 := blk_cell hb13.box 1
                          have k2 := blk_cell hb13.box 2
                          have k3 := blk_cell hb13.box 3
                          have f0 := blk_free hb13.box 0
                          have f1 := blk_free hb13.box 1
                          have f2 := blk_free hb13.box 2
                          have f3 := blk_free hb13.box 3
                          go_wp2_with fail
                          go_meet
                          have HO2 := hide (show DP.one c4 names = (((c4.pick 12).2.pick 2).2.pick 9 |>.2, 6, DP.E0, ((((c4.pick 12).2.pick 2).2.pick 9).1 : Int)) by rw [HO.out]; exact if_pos he12.out.symm)
                          refine ⟨_, _, _, ?_, ?_, ((LBox.all hb13 _ _ _ _).more (by omega)).eq (by rw [HO2.out]; rfl), hide (by rw [HO2.out, he13.out]; rfl)⟩
                          · decide
                          · exact ⟨by omega, by omega⟩
                        · go_wp2_with fail
                          go_meet
                          have HO2 := hide (show DP.one c4 names = (((c4.pick 12).2.pick 2).2, 1, DP.E0, 5) by rw [HO.out]; exact if_neg (by have h1 : r6 = ((c4.pick 12).2.pick 2).1 := he12.out; have h2 : r6 ≠ 0 := (by simpa using hcb); omega))
                          refine ⟨_, _, _, ?_, ?_, ((LBox.all hb12 _ _ _ _).more (by omega)).eq (by rw [HO2.out]; rfl), hide (by rw [HO2.out])⟩
                          · decide
                          · exact ⟨by omega, by omega⟩
                      all_goals go_wp2_with fail
                      all_goals go_meet
                      all_goals
                        refine ⟨_, _, _, ?_, ?_, ((LBox.all hb12 _ _ _ _).more (by omega)).eq (by rw [HO.out]; rfl), hide (by rw [HO.out, he12.out]; rfl)⟩
                        · first | omega | decide
                        · exact ⟨by omega, by omega⟩
                    case rest =>
                      obtain ⟨la, ln, lb, hln, hlb, HB, HOE⟩ := hcut
                      clear hb11
                      obtain ⟨hdn, hdA, hdl, hdc⟩ := hd
                      obtain rfl : hdl = ls.length := hdo.n
                      obtain rfl : hdn = nm := hdo.name
                      have hr := HR.cur' HB.cur HB.out
                      have hk := (hr.W.M.each i _ _ HDI.out HMI.out).own
                      have q1 : wc.cell? ⟨gM, i * 2 + 1, none⟩ = some (.slice hdA ls.length hdc) := (hr.W.at_ HDI.out).1
                      have f1 := (hr.W.at_ HDI.out).2
                      have b0 := blk_cell HB.box 0
                      have b1 := blk_cell HB.box 1
                      have b2 := blk_cell HB.box 2
                      have b3 := blk_cell HB.box 3
                      have hbz := Array.getElem?_eq_some_iff.1 HB.box
                      have hlz := hr.W.base.lt
                      have HLT : Hid (∀ b, (Value.slice hdA ls.length hdc).ownBlock = some b → b < wr.heap.size) := hide (fun b e => Own.lt hdo.own e)
                      have hgM : gM < wr.heap.size := Own.lt HR.W.M.row rfl
                      clear hdo hdi hbz HR
                      have HLB := hide hlb
                      have HBX := hide HB
                      clear HB hlb
                      have hltb : ∀ b, (Value.slice hdA ls.length hdc).ownBlock = some b → b < wr.heap.size := fun b e => HLT.out b e
                      have hra := hr.below (Below.drew (Below.alloc (Below.refl wc.heap.size wc) (Nat.le_refl _) (Obj.cells #[.int .i64 la, .string ln, .int .i64 lb, .int .i64 0] 106)))
                      have hba := HBX.out.below (Below.drew (Below.alloc (Below.refl wc.heap.size wc) (Nat.le_refl _) (Obj.cells #[.int .i64 la, .string ln, .int .i64 lb, .int .i64 0] 106)))
                      have hka := (hra.W.M.each i _ _ HDI.out HMI.out).own
                      have qa := (hra.W.at_ HDI.out).1
                      have hlB : w.heap.size + 2 ≤ (wc.alloc (Obj.cells #[.int .i64 la, .string ln, .int .i64 lb, .int .i64 0] 106)).drew.heap.size := by have := hra.W.base.lt; omega
                      have HRA := hide hra
                      have HKA := hide hka
                      have HBA := hide hba.box
                      have hl5 : ls.length ≤ 5 := by omega
                      clear hra hk hba hka
                      go_upto_region 46 with fail
                      refine wp_region_held_drew (S := fun w' => w'.cell? ⟨wr.heap.size, 0, none⟩ = some (.int .i64 la) ∧ w'.cell? ⟨wr.heap.size, 1, none⟩ = some (.string ln) ∧ w'.cell? ⟨wr.heap.size, 2, none⟩ = some (.int .i64 lb) ∧ w'.cell? ⟨wr.heap.size, 3, none⟩ = some (.int .i64 0)) (by kernel_rfl) ⟨b0, b1, b2, b3⟩ (fun hHeld => ?_)
                      (refine wpAnyH_take (i := 0) (oi := ⟨some 125, _, _, _, _, _⟩) (v := .pointer (some ⟨gM, i * 2, none⟩)) rfl (by kernel_rfl) (by kernel_rfl) (by kernel_rfl) (fun _ _ _ h => h) (Or.inl ⟨by rfl, ?_⟩) (by assumption) ?_; (focus (intro w hSw; (try dsimp only at hSw); go_simp; done)); try simp only [Act.put, List.setIfInBounds_toArray, List.set_cons_zero, List.set_cons_succ])
                      (refine wpAnyH_take (i := 1) (oi := ⟨some 126, _, _, _, _, _⟩) (v := .pointer (some ⟨gM, i * 2, none⟩)) rfl (by kernel_rfl) (by kernel_rfl) (by kernel_rfl) (fun _ _ _ h => h) (Or.inl ⟨by rfl, ?_⟩) (by assumption) ?_; (focus (intro w hSw; (try dsimp only at hSw); go_simp; done)); try simp only [Act.put, List.setIfInBounds_toArray, List.set_cons_zero, List.set_cons_succ])
                      (refine wpAnyH_take (i := 2) (oi := ⟨some 127, _, _, _, _, _⟩) (v := .pointer (some ⟨gM, i * 2, none⟩)) rfl (by kernel_rfl) (by kernel_rfl) (by kernel_rfl) (fun _ _ _ h => h) (Or.inl ⟨by rfl, ?_⟩) (by assumption) ?_; (focus (intro w hSw; (try dsimp only at hSw); go_simp; done)); try simp only [Act.put, List.setIfInBounds_toArray, List.set_cons_zero, List.set_cons_succ])
                      (refine wpAnyH_take (i := 3) (oi := ⟨some 128, _, _, _, _, _⟩) (v := .pointer (some ⟨gM, i * 2 + 1, none⟩)) rfl (by kernel_rfl) (by kernel_rfl) (by kernel_rfl) (fun _ _ _ h => h) (Or.inl ⟨by rfl, ?_⟩) (by assumption) ?_; (focus (intro w hSw; (try dsimp only at hSw); go_simp; done)); try simp only [Act.put, List.setIfInBounds_toArray, List.set_cons_zero, List.set_cons_succ])
                      (refine wpAnyH_take (i := 5) (oi := ⟨some 130, _, _, _, _, _⟩) (v := .agg #[.int .i64 la, .string ln, .int .i64 lb, .int .i64 0]) rfl (by kernel_rfl) (by kernel_rfl) (by kernel_rfl) (fun _ _ _ h => h) (Or.inl ⟨by rfl, ?_⟩) (by assumption) ?_; (focus (intro w hSw; (try dsimp only at hSw); go_simp; done)); try simp only [Act.put, List.setIfInBounds_toArray, List.set_cons_zero, List.set_cons_succ])
                      refine wpAnyH_ready (rs := [4, 6]) (by kernel_rfl) (by simp) ?_
                      refine AllReadyH.cons (o := ⟨some 129, _, _, _, _, _⟩) rfl (fun K hK => ?_) (AllReadyH.cons (o := ⟨some 131, _, _, _, _, _⟩) rfl (fun K hK => ?_) AllReadyH.nil)
                      · go_simp
                        refine hK.out _ _ ⟨b0, b1, b2, b3⟩ (fun hHeld => ?_)
                        clear hK K
                        try simp only [Act.put, List.setIfInBounds_toArray, List.set_cons_zero, List.set_cons_succ]
                        refine wpAnyH_ready (rs := [6]) (by kernel_rfl) (by simp) ?_
                        refine AllReadyH.cons (o := ⟨some 131, _, _, _, _, _⟩) rfl (fun K hK => ?_) AllReadyH.nil
                        go_simp
                        refine hK.out _ _ ⟨blk_cell HBA.out 0, blk_cell HBA.out 1, blk_cell HBA.out 2, blk_cell HBA.out 3⟩ (fun hHeld => ?_)
                        clear hK K
                        try simp only [Act.put, List.setIfInBounds_toArray, List.set_cons_zero, List.set_cons_succ]
                        clear b0 b1 b2 b3 q1 f1
                        refine wpAnyH_ready (rs := [7]) (by kernel_rfl) (by simp) ?_
                        refine AllReadyH.cons (o := ⟨some 132, _, _, _, _, _⟩) rfl (fun K hK => ?_) AllReadyH.nil
                        refine step_own fLine (w.heap.size + 2) (by rfl) _ _ 73 106 (.agg #[.int .i64 0, .string ⟨#[]⟩, .int .i64 0, .int .i64 0]) 40 (by rfl) Tryz.underlying73 info_line' rfl (by omega) (.slice hdA ls.length hdc) ls ⟨la, ln, lb, 0⟩ #[.int .i64 la, .string ln, .int .i64 lb, .int .i64 0] rfl (by rfl) wc.heap.size (by rfl) (by exact heap_alloc_new wc _) HKA.out hlB (by omega) ?_
                        intro v8 w8 hown8 hgr8 hnew8
                        have hM8 := HRA.out.W.M.row.kept hgr8 (apart_ty HRA.out.W.M.row HKA.out (by decide))
                        have q8 : w8.cell? ⟨gM, i * 2 + 1, none⟩ = some (.slice hdA ls.length hdc) := hM8.cellAt (j := 1) HDI.out rfl
                        have f8 : w8.frozen? ⟨gM, i * 2 + 1, none⟩ = false := hM8.free _
                        obtain ⟨yA, yc, hv8, _, _, _⟩ := hown8.slV
                        subst hv8
                        have hbx8 := (hgr8.block wr.heap.size (Array.getElem?_eq_some_iff.1 HBA.out).1 (fun e => by have := hltb _ e.symm; omega)).trans HBA.out
                        have hr9 := HRA.out.lines_up HDI.out HMI.out hown8 hgr8 hnew8 rfl (fun l hl => by
                          rcases List.mem_append.1 hl with hl | hl
                          · exact (HRA.out.W.msz _ (List.mem_of_getElem? HMI.out)).2 _ hl
                          · rw [List.mem_singleton.1 hl]; exact ⟨hln, HLB.out⟩) (by simp; omega)
                        rw [show (ls ++ [(⟨la, ln, lb, 0⟩ : LineD)]).length = ls.length + 1 by simp] at hr9 ⊢
                        have HRN := hide hr9
                        have HB8 := hide hbx8
                        clear hr9 hown8 hgr8 hnew8 hM8 hbx8
                        refine hK.out _ _ ⟨blk_cell HB8.out 0, blk_cell HB8.out 1, blk_cell HB8.out 2, blk_cell HB8.out 3⟩ (fun hHeld => ?_)
                        clear hK K
                        try simp only [Act.put, List.setIfInBounds_toArray, List.set_cons_zero, List.set_cons_succ]
                        (refine wpAnyH_take (i := 8) (oi := ⟨some 133, _, _, _, _, _⟩) (v := .pointer (some ⟨gM, i * 2, none⟩)) rfl (by kernel_rfl) (by kernel_rfl) (by kernel_rfl) (fun _ _ _ h => h) (Or.inl ⟨by rfl, ?_⟩) (by assumption) ?_; (focus (intro w hSw; (try dsimp only at hSw); go_simp; done)); try simp only [Act.put, List.setIfInBounds_toArray, List.set_cons_zero, List.set_cons_succ])
                        (refine wpAnyH_take (i := 9) (oi := ⟨some 134, _, _, _, _, _⟩) (v := .pointer (some ⟨gM, i * 2 + 1, none⟩)) rfl (by kernel_rfl) (by kernel_rfl) (by kernel_rfl) (fun _ _ _ h => h) (Or.inl ⟨by rfl, ?_⟩) (by assumption) ?_; (focus (intro w hSw; (try dsimp only at hSw); go_simp; done)); try simp only [Act.put, List.setIfInBounds_toArray, List.set_cons_zero, List.set_cons_succ])
                        refine wpAnyH_ready (rs := [10]) (by kernel_rfl) (by simp) ?_
                        refine AllReadyH.cons (o := ⟨none, _, _, _, _, _⟩) rfl (fun K hK => ?_) AllReadyH.nil
                        go_simp
                        have HB9 := hide (((grown_set w8 gM (i * 2 + 1) (.slice yA (ls.length + 1) yc)).block wr.heap.size (Array.getElem?_eq_some_iff.1 HB8.out).1 (fun e => by have := Option.some.inj e; omega)).trans HB8.out)
                        refine hK.out _ _ ⟨blk_cell HB9.out 0, blk_cell HB9.out 1, blk_cell HB9.out 2, blk_cell HB9.out 3⟩ (fun hHeld => ?_)
                        clear hK K
                        refine wpAnyH_done (by kernel_rfl) ?_ _
                        clear q8 f8 hHeld qa
                        go_wp2_with fail
                        go_roundw
                        case rel =>
                          refine ⟨m', _, _, hdn, ls ++ [⟨la, ln, lb, 0⟩], _, by go_num, by simp; omega, hide ((List.length_set ..).trans HML.out), hide (List.getElem?_set_self (by rw [HML.out]; exact hlt)), HRN.out.more (by omega), hide (fun j' x hj' e => ?_), hide (by rw [DP.body_set, HX.out]; show DP.W6 roots3 (DP.bodyK _ _ _ _ _ _ (DP.fin (DP.linesL m' names (DP.one c4 names).1 (ls ++ [DP.lineOf (DP.one c4 names)])))) = _; unfold DP.lineOf; rw [HOE.out])⟩
                          rcases set_get e with ⟨e1, _⟩ | ⟨_, e2⟩
                          · omega
                          · exact HEj.out j' x hj' e2
                        case measure => first | (simp [intOf]; done) | (simp [intOf]; omega)
                      · go_simp
                        refine hK.out _ _ ⟨blk_cell HBA.out 0, blk_cell HBA.out 1, blk_cell HBA.out 2, blk_cell HBA.out 3⟩ (fun hHeld => ?_)
                        clear hK K
                        try simp only [Act.put, List.setIfInBounds_toArray, List.set_cons_zero, List.set_cons_succ]
                        refine wpAnyH_ready (rs := [4]) (by kernel_rfl) (by simp) ?_
                        refine AllReadyH.cons (o := ⟨some 129, _, _, _, _, _⟩) rfl (fun K hK => ?_) AllReadyH.nil
                        go_simp
                        refine hK.out _ _ ⟨blk_cell HBA.out 0, blk_cell HBA.out 1, blk_cell HBA.out 2, blk_cell HBA.out 3⟩ (fun hHeld => ?_)
                        clear hK K
                        try simp only [Act.put, List.setIfInBounds_toArray, List.set_cons_zero, List.set_cons_succ]
                        clear b0 b1 b2 b3 q1 f1
                        refine wpAnyH_ready (rs := [7]) (by kernel_rfl) (by simp) ?_
                        refine AllReadyH.cons (o := ⟨some 132, _, _, _, _, _⟩) rfl (fun K hK => ?_) AllReadyH.nil
                        refine step_own fLine (w.heap.size + 2) (by rfl) _ _ 73 106 (.agg #[.int .i64 0, .string ⟨#[]⟩, .int .i64 0, .int .i64 0]) 40 (by rfl) Tryz.underlying73 info_line' rfl (by omega) (.slice hdA ls.length hdc) ls ⟨la, ln, lb, 0⟩ #[.int .i64 la, .string ln, .int .i64 lb, .int .i64 0] rfl (by rfl) wc.heap.size (by rfl) (by exact heap_alloc_new wc _) HKA.out hlB (by omega) ?_
                        intro v8 w8 hown8 hgr8 hnew8
                        have hM8 := HRA.out.W.M.row.kept hgr8 (apart_ty HRA.out.W.M.row HKA.out (by decide))
                        have q8 : w8.cell? ⟨gM, i * 2 + 1, none⟩ = some (.slice hdA ls.length hdc) := hM8.cellAt (j := 1) HDI.out rfl
                        have f8 : w8.frozen? ⟨gM, i * 2 + 1, none⟩ = false := hM8.free _
                        obtain ⟨yA, yc, hv8, _, _, _⟩ := hown8.slV
                        subst hv8
                        have hbx8 := (hgr8.block wr.heap.size (Array.getElem?_eq_some_iff.1 HBA.out).1 (fun e => by have := hltb _ e.symm; omega)).trans HBA.out
                        have hr9 := HRA.out.lines_up HDI.out HMI.out hown8 hgr8 hnew8 rfl (fun l hl => by
                          rcases List.mem_append.1 hl with hl | hl
                          · exact (HRA.out.W.msz _ (List.mem_of_getElem? HMI.out)).2 _ hl
                          · rw [List.mem_singleton.1 hl]; exact ⟨hln, HLB.out⟩) (by simp; omega)
                        rw [show (ls ++ [(⟨la, ln, lb, 0⟩ : LineD)]).length = ls.length + 1 by simp] at hr9 ⊢
                        have HRN := hide hr9
                        have HB8 := hide hbx8
                        clear hr9 hown8 hgr8 hnew8 hM8 hbx8
                        refine hK.out _ _ ⟨blk_cell HB8.out 0, blk_cell HB8.out 1, blk_cell HB8.out 2, blk_cell HB8.out 3⟩ (fun hHeld => ?_)
                        clear hK K
                        try simp only [Act.put, List.setIfInBounds_toArray, List.set_cons_zero, List.set_cons_succ]
                        (refine wpAnyH_take (i := 8) (oi := ⟨some 133, _, _, _, _, _⟩) (v := .pointer (some ⟨gM, i * 2, none⟩)) rfl (by kernel_rfl) (by kernel_rfl) (by kernel_rfl) (fun _ _ _ h => h) (Or.inl ⟨by rfl, ?_⟩) (by assumption) ?_; (focus (intro w hSw; (try dsimp only at hSw); go_simp; done)); try simp only [Act.put, List.setIfInBounds_toArray, List.set_cons_zero, List.set_cons_succ])
                        (refine wpAnyH_take (i := 9) (oi := ⟨some 134, _, _, _, _, _⟩) (v := .pointer (some ⟨gM, i * 2 + 1, none⟩)) rfl (by kernel_rfl) (by kernel_rfl) (by kernel_rfl) (fun _ _ _ h => h) (Or.inl ⟨by rfl, ?_⟩) (by assumption) ?_; (focus (intro w hSw; (try dsimp only at hSw); go_simp; done)); try simp only [Act.put, List.setIfInBounds_toArray, List.set_cons_zero, List.set_cons_succ])
                        refine wpAnyH_ready (rs := [10]) (by kernel_rfl) (by simp) ?_
                        refine AllReadyH.cons (o := ⟨none, _, _, _, _, _⟩) rfl (fun K hK => ?_) AllReadyH.nil
                        go_simp
                        have HB9 := hide (((grown_set w8 gM (i * 2 + 1) (.slice yA (ls.length + 1) yc)).block wr.heap.size (Array.getElem?_eq_some_iff.1 HB8.out).1 (fun e => by have := Option.some.inj e; omega)).trans HB8.out)
                        refine hK.out _ _ ⟨blk_cell HB9.out 0, blk_cell HB9.out 1, blk_cell HB9.out 2, blk_cell HB9.out 3⟩ (fun hHeld => ?_)
                        clear hK K
                        refine wpAnyH_done (by kernel_rfl) ?_ _
                        clear q8 f8 hHeld qa
                        go_wp2_with fail
                        go_roundw
                        case rel =>
                          refine ⟨m', _, _, hdn, ls ++ [⟨la, ln, lb, 0⟩], _, by go_num, by simp; omega, hide ((List.length_set ..).trans HML.out), hide (List.getElem?_set_self (by rw [HML.out]; exact hlt)), HRN.out.more (by omega), hide (fun j' x hj' e => ?_), hide (by rw [DP.body_set, HX.out]; show DP.W6 roots3 (DP.bodyK _ _ _ _ _ _ (DP.fin (DP.linesL m' names (DP.one c4 names).1 (ls ++ [DP.lineOf (DP.one c4 names)])))) = _; unfold DP.lineOf; rw [HOE.out])⟩
                          rcases set_get e with ⟨e1, _⟩ | ⟨_, e2⟩
                          · omega
                          · exact HEj.out j' x hj' e2
                        case measure => first | (simp [intOf]; done) | (simp [intOf]; omega)
              · obtain rfl : i = M := by omega
                go_wp2_with fail
                refine (pick_in 3 HR.W.base.cur (by omega) (by omega) (by omega)).mono ?_
                rintro e w12 ⟨r7, rfl, hr7, hc12, hg12, he12⟩
                have hw12 := (HR.cur' hc12 hg12).W
                clear HR HEi hc12 hg12
                go_wp2_with fail
                have HXF := hide (show DP.world c0 = DP.W7 roots3 ms' (DP.faultsL r7 ((0 : Nat) : Int) (c3.pick 3).2 []) by rw [HX.out, Nat.sub_self, he12.out]; rfl)
                go_loopw [13, 14] (fun a v wr => ∃ (q m : Nat) (vF : Value) (fs : List Int) (c6 : Cur), a = .int .i64 q ∧ v = .int .i64 m ∧ m + fs.length ≤ 3 ∧ q ≤ 10 * fs.length ∧ WAt w wr g A n cp c6 (7500 - 10 * m) vR3 (.slice mA i mc) vF roots3 hs' ms' fs ∧ Hid (DP.world c0 = DP.W7 roots3 ms' (DP.faultsL m q c6 fs))) (fun _ v _ => (intOf v).toNat)
                case atStart => exact ⟨0, r7, _, _, _, by go_num, rfl, by simp; omega, by simp, hw12.more (by omega), HXF⟩
                case round =>
                  clear hw12
                  obtain ⟨q, m, vF, fs, c6, rfl, rfl, hmf, hqf, HW, HX7⟩ := hrel
                  obtain ⟨eA, ec, hev, _, _, _⟩ := HW.R.slV
                  subst hev
                  obtain ⟨fA, fc, hfv, _, _, _⟩ := HW.F.slV
                  subst hfv
                  have x0 := blk_cell HW.base.box 0
                  have x1 := blk_cell HW.base.box 1
                  have x2 := blk_cell HW.base.box 2
                  have y0 := blk_cell HW.base.res 0
                  have y1 := blk_cell HW.base.res 1
                  have y2 := blk_cell HW.base.res 2
                  have z0 := blk_free HW.base.res 0
                  have z1 := blk_free HW.base.res 1
                  have z2 := blk_free HW.base.res 2
                  by_cases h0 : m = 0
                  · subst h0
                    go_wp2_with fail
                    refine bodyPost_ret (v := .agg #[.slice eA roots3.length ec, .slice mA i mc, .slice fA fs.length fc]) (by simp [results, Tryz.results25, go_sem, y0, y1, y2]) rfl ⟨_, _, _, ⟨roots3, ms', fs⟩, _, rfl, (HW.ends _ _ _).1, HW.done.2.1, HW.done.2.2, by show ms'.length ≤ 7; omega, (HW.ends _ _ _).2.1.more (by omega), (HW.ends _ _ _).2.2, hide (HX7.out)⟩
                  · obtain ⟨m', rfl⟩ : ∃ m', m = m' + 1 := ⟨m - 1, by omega⟩
                    clear h0
                    go_wp2_with fail
                    refine (pick_inI _ HW.base.cur (by omega) (by omega) (by omega)).mono ?_
                    rintro e w13 ⟨r8, rfl, hr8, hc13, hg13, he13⟩
                    have hw13 := HW.cur' hc13 hg13
                    clear hc13 hg13 HW x0 x1 x2 y0 y1 y2 z0 z1 z2
                    have x0 := blk_cell hw13.base.box 0
                    have x1 := blk_cell hw13.base.box 1
                    have x2 := blk_cell hw13.base.box 2
                    have y0 := blk_cell hw13.base.res 0
                    have y1 := blk_cell hw13.base.res 1
                    have y2 := blk_cell hw13.base.res 2
                    have z0 := blk_free hw13.base.res 0
                    have z1 := blk_free hw13.base.res 1
                    have z2 := blk_free hw13.base.res 2
                    have hcase : r8 = 0 ∨ ((r8 : Int) == 0) = false := by
                      by_cases h0 : r8 = 0
                      · exact .inl h0
                      · exact .inr (by simp; omega)
                    rcases hcase with rfl | hcb
                    · go_wp2_with fail
                      refine (pick_inI _ hw13.base.cur (by omega) (by omega) (by omega)).mono ?_
                      rintro e w14 ⟨r9, rfl, hr9, hc14, hg14, he14⟩
                      have hw14 := hw13.cur' hc14 hg14
                      clear hc14 hg14 hw13 x0 x1 x2 y0 y1 y2 z0 z1 z2
                      have x2 := blk_cell hw14.base.box 2
                      have hlw := hw14.base.lt
                      go_upto_region 60 with (at_builtin; refine append_own_g fInt (w.heap.size + 2) rfl _ _ 25 3 (.int .i64 0) 8 rfl Tryz.underlying25 info_int rfl (by omega) (.slice fA fs.length fc) fs ((q : Int) + r9) #[.int .i64 ((q : Int) + r9)] rfl rfl w14.heap.size rfl rfl hw14.F (Below.refl _ _) (by omega) (by omega) ?_; intro v15 w15 hown15 hbel15 hgr15 hnew15; have hb15 := (hw14.base.row hw14.F (by decide) hgr15).box; have g2 := blk_cell hb15 2; have gf2 := blk_free hb15 2; obtain ⟨tA, tc, hv15, _, _, _⟩ := hown15.slV; subst hv15)
                      have hw15 := hw14.setF hown15 hgr15
                      rw [show (fs ++ [(q : Int) + r9]).length = fs.length + 1 by simp] at hw15
                      have HW15 := hide hw15
                      clear hw15 hown15 hgr15 hnew15 hbel15 hb15 g2 gf2 x2 hw14 hlw
                      go_wp2_with fail
                      go_roundw
                      case rel => exact ⟨q + r9 + 1, m', _, _, _, by go_num, by go_num, by simp; omega, by simp; omega, HW15.out.more (by omega), hide (by rw [HX7.out, DP.faults_yes he13.out.symm, show ((q + r9 + 1 : Nat) : Int) = (q : Int) + (r9 : Int) + 1 by omega, he14.out]; rfl)⟩
                      case measure => first | (simp [intOf]; done) | (simp [intOf]; omega)
                    · go_wp2_with fail
                      refine bodyPost_ret (v := .agg #[.slice eA roots3.length ec, .slice mA i mc, .slice fA fs.length fc]) (by simp [results, Tryz.results25, go_sem, y0, y1, y2]) rfl ⟨_, _, _, ⟨roots3, ms', fs⟩, _, rfl, (hw13.ends _ _ _).1, hw13.done.2.1, hw13.done.2.2, by show ms'.length ≤ 7; omega, (hw13.ends _ _ _).2.1.more (by omega), (hw13.ends _ _ _).2.2, hide (by rw [HX7.out, DP.faults_no (by have h1 : r8 = (c6.pick 2).1 := he13.out; have h2 : r8 ≠ 0 := (by simpa using hcb); omega)]; rfl)⟩
        · obtain ⟨m', rfl⟩ : ∃ m', m = m' + 1 := ⟨m - 1, by omega⟩
          clear h0
          obtain ⟨rA, rc, hrv, _, _, _⟩ := HR.W.R.slV
          subst hrv
          have q0 : wr.cell? ⟨w.heap.size + 1, 0, none⟩ = some (.slice rA roots.length rc) := blk_cell HR.W.base.box 0
          go_upto_region 14 with fail
          go_region_law (first
            | ((go_simp; refine (part_in (HR.below (by (repeat (first | with_reducible exact Below.refl _ _ | with_reducible assumption | with_reducible refine Below.alloc ?_ (by first | exact Nat.le_refl _ | exact Below.size (by assumption) | exact Nat.le_trans (Below.size (by assumption)) (by simp; done) | (simp; done) | (simp; omega) | omega) _ | with_reducible refine below_drewN ?_ _ | with_reducible refine Below.drew ?_ | with_reducible refine Below.setCell ?_ (by first | exact Nat.le_refl _ | (simp; done) | (simp; omega) | omega) _)))).W.base.cur (by omega)).mono ?_; rintro e w7 ⟨s, rfl, hs7, hc7, hg7, he7⟩; have hr7 := WRN.cur' (HR.below (by (repeat (first | with_reducible exact Below.refl _ _ | with_reducible assumption | with_reducible refine Below.alloc ?_ (by first | exact Nat.le_refl _ | exact Below.size (by assumption) | exact Nat.le_trans (Below.size (by assumption)) (by simp; done) | (simp; done) | (simp; omega) | omega) _ | with_reducible refine below_drewN ?_ _ | with_reducible refine Below.drew ?_ | with_reducible refine Below.setCell ?_ (by first | exact Nat.le_refl _ | (simp; done) | (simp; omega) | omega) _)))) hc7 hg7; have q07 : w7.cell? ⟨w.heap.size + 1, 0, none⟩ = some (.slice rA roots.length rc) := blk_cell hr7.W.base.box 0; have hl7 := hr7.W.base.lt; clear hc7 hg7))
            | ((refine step_own fStr (w.heap.size + 2) (by rfl) _ _ 23 9 (.string ByteArray.empty) 16 (by rfl) Tryz.underlying23 info_str rfl (by omega) (.slice rA roots.length rc) roots s #[.string s] rfl (by rfl) w7.heap.size (by rfl) (by exact heap_alloc_new _ _) (hr7.W.R.alloc _) (by simp; omega) (by omega) ?_; intro v8 w8 hown8 hgr8 hnew8; have hb8 := ((hr7.W.base.below (Below.alloc (Below.refl _ w7) (Nat.le_refl _) (Obj.cells #[.string s] 9))).row (hr7.W.R.alloc _) (by decide) hgr8).box; have q8 := blk_cell hb8 0; have f8 := blk_free hb8 0; obtain ⟨yA, yc, hv8, _, _, _⟩ := hown8.slV; subst hv8)))
          all_goals
            have hr9 := (hr7.below (Below.alloc (Below.refl _ w7) (Nat.le_refl _) (Obj.cells #[.string s] 9))).root hown8 hgr8 hnew8 (by omega)
            rw [show (roots ++ [s]).length = roots.length + 1 by simp] at hr9
            clear HR q0 hown8 hgr8 hnew8 hb8 q8 f8 hr7 q07 hl7
            go_wp2_with fail
            go_roundw
            case rel => exact ⟨m', _, _, _, by go_num, by simp; omega, hr9.more (by omega), hide (by rw [HX2.out, he7.out]; rfl)⟩
            case measure => first | (simp [intOf]; done) | (simp [intOf]; omega)
    · obtain ⟨m', rfl⟩ : ∃ m', m = m' + 1 := ⟨m - 1, by omega⟩
      clear h0
      go_wp2_with fail
      refine (name_in HW.base.cur (by omega)).mono ?_
      rintro e w3 ⟨s, rfl, hs3, hc3, hg3, he3⟩
      have HN3 := HN.kept hg3 (HW.base.cur.ne HN (by decide))
      have HW3 := HW.cur' hc3 hg3
      clear HN HW hc3 hg3
      obtain ⟨mA, mc, hmv, hml, hmm, hmsl⟩ := HW3.M.slV
      subst hmv
      have hlm := HW3.M.len
      have q1 : w3.cell? ⟨w.heap.size + 1, 1, none⟩ = some (.slice mA ms.length mc) := blk_cell HW3.base.box 1
      have hfd := l2find_calls (.slice none 0 0) (.slice none 0 0) mA mc ms.length ms s _ w3 hmsl rfl (by omega)
      have HFD := hide hfd
      clear hfd hmsl
      go_wp2_with fail
      refine HFD.out.mono ?_
      rintro e w4 ⟨rfl, hb4⟩
      have HN4 := HN3.below hb4
      have HW4 := HW3.below hb4
      clear HFD HN3 HW3 q1 hb4
      cases hfm : Ld.modAt ms s with
      | some i =>
        have HFM := hide hfm
        clear hfm
        have hib : ((i : Int) < 0) = False := by simp
        go_wp2_with fail
        go_roundw
        case rel => exact ⟨m', names, _, hs, ms, _, by go_num, by omega, by omega, HN4, HZ, HW4.more (by omega), HE, hide (by rw [HX.out, DP.mods_some (i := i) (by rw [← he3.out]; exact HFM.out)])⟩
        case measure => first | (simp [intOf]; done) | (simp [intOf]; omega)
      | none =>
        have HFM := hide hfm
        clear hfm
        obtain ⟨nA, nc, hnv, _, _, _⟩ := HN4.slV
        subst hnv
        have hl4 := HW4.base.lt
        go_upto_region 9 with (at_builtin; refine append_own fStr (w.heap.size + 2) rfl _ _ 23 9 (.string ByteArray.empty) 16 rfl Tryz.underlying23 info_str rfl (by omega) (.slice nA names.length nc) names s #[.string s] rfl rfl rfl HN4 (Below.refl _ _) (by omega) (by omega) ?_; intro v5 w5 hown hbel hgr _; obtain ⟨xA, xc, hxv, _, _, _⟩ := hown.slV; subst hxv)
        have HW5 := HW4.names HN4 hgr (.inl rfl)
        clear HW4 HN4 hbel hgr hl4
        have q1 : w5.cell? ⟨w.heap.size + 1, 1, none⟩ = some (.slice mA ms.length mc) := blk_cell HW5.base.box 1
        have hl5 := HW5.base.lt
        have HO5 := hide HW5
        have hr5 := HW5.M.row
        clear HW5
        go_upto_region 5 with (at_builtin; refine append_own_g fHdr (w.heap.size + 2) rfl _ _ 24 75 (.agg #[.string ⟨#[]⟩, .slice none 0 0]) 40 rfl Tryz.underlying24 info_mod rfl (by omega) (.slice mA ms.length mc) hs ⟨s, none, 0, 0⟩ #[.string s, .slice none 0 0] rfl rfl w5.heap.size rfl rfl hr5 (Below.refl _ _) (by omega) (by omega) ?_; intro v9 w9 hown9 hbel9 hgr9 hnew9; have hb9 := (HO5.out.base.row hr5 (by decide) hgr9).box; have g19 := blk_cell hb9 1; have gf9 := blk_free hb9 1; obtain ⟨uA, uc, hv9, _, _, _⟩ := hown9.slV; subst hv9)
        have hw9 := HO5.out.snoc hown9 hgr9 (by omega)
        have hn9 := hown.kept hgr9 (apart_ty hown hr5 (by decide))
        have hn10 := hn9.kept (grown_set w9 (w.heap.size + 1) 1 (.slice uA (hs ++ [(⟨s, none, 0, 0⟩ : HdrD)]).length uc)) (apart_blk hn9 hb9 (by decide))
        clear hn9 hown9 hgr9 hnew9 hbel9 hb9 g19 gf9 HO5 hr5 hown q1 hl5
        rw [show (hs ++ [(⟨s, none, 0, 0⟩ : HdrD)]).length = ms.length + 1 by simp [hlm]] at hw9 hn10
        rw [show (names ++ [s]).length = names.length + 1 by simp] at hn10
        generalize w9.setCell ⟨w.heap.size + 1, 1, none⟩ (.slice uA (ms.length + 1) uc) = W10 at hw9 hn10 ⊢
        go_wp2_with fail
        go_roundw
        case rel => exact ⟨m', names ++ [s], _, _, _, _, by go_num, by simp; omega, by simp; omega, hn10, hide (fun x hx => by
          rcases List.mem_append.1 hx with hx | hx
          · exact HZ.out x hx
          · rw [List.mem_singleton.1 hx]; omega), hw9.more (by omega), hide (fun j x e => by
          rcases List.mem_append.1 (List.mem_of_getElem? e) with hx | hx
          · obtain ⟨j, hj⟩ := List.getElem?_of_mem hx
            exact HE.out j x hj
          · rw [List.mem_singleton.1 hx]), hide (by rw [HX.out, DP.mods_none (by rw [← he3.out]; exact HFM.out), ← he3.out])⟩
        case measure => first | (simp [intOf]; done) | (simp [intOf]; omega)
end Go.Proofs.YtkhlicmlnjccdaaGreatDoor
