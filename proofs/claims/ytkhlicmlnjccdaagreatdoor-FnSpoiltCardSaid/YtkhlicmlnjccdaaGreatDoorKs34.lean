/-
  Walk: the reference's large.
-/
import Derived.Test.YtkhlicmlnjccdaaGreatDoorKs32
import Derived.Test.YtkhlicmlnjccdaaGreatDoorKs33
namespace Go.Proofs.YtkhlicmlnjccdaaGreatDoor
open Go.RowKit Mem
/-- what a great world hands back -/
def RetLarge (w : World) (B : Nat) (e : Ending) (w' : World) : Prop :=
  ∃ (vR vM vF : Value) (D : WorldD), e = .returned (.agg #[vR, vM, vF]) ∧ WIn w' (fun b => B ≤ b) vR vM vF D ∧ WSz D ∧ Below B w w'
theorem dec_small {k : Nat} (h : k < 100) (s : Str) : (s ++ decT (k : Int)).size ≤ s.size + 2 := by
  have := dec_size h
  rw [ByteArray.size_append]; omega
theorem rep_names (q : Nat) : ∀ l ∈ List.replicate q (⟨0, ⟨#[]⟩, 0, 0⟩ : LineD), l.name.size ≤ 200 := fun l hl => by rw [(List.mem_replicate.1 hl).2]; decide

set_option maxRecDepth 100000 in
set_option maxHeartbeats 4000000 in
theorem large_in (w : World) (B g n cp K : Nat) (A : Option Addr) (code : List Int) (hc : CurIn w g A n cp code K) (hk : K ≤ 1000000) (hBg : B ≤ g) (hcb : CodeBelow A code B) :
    Calls Tryz.prog 55 #[.pointer (some ⟨g, 0, none⟩)] w (RetLarge w B) := by
  have hgl := hc.lt
  go_enter Tryz.func55, Tryz.ntmps55
  go_upto_region 2 with fail
  have hw0 : SpAt w (((w.alloc (Obj.cells #[.slice none 0 0, .slice none 0 0, .slice none 0 0] 27)).alloc (Obj.cells #[.string ⟨#[]⟩] 9)).alloc (Obj.cells #[.slice (some ⟨w.heap.size + 1, 0, none⟩) 1 1, .slice none 0 0, .slice none 0 0] 27)) B (w.heap.size + 2) w.heap.size g A n cp code K 61 (.slice (some ⟨w.heap.size + 1, 0, none⟩) 1 1) (.slice none 0 0) (.slice none 0 0) [⟨#[]⟩] [] [] [] := by
    have hb : Below w.heap.size w (((w.alloc (Obj.cells #[.slice none 0 0, .slice none 0 0, .slice none 0 0] 27)).alloc (Obj.cells #[.string ⟨#[]⟩] 9)).alloc (Obj.cells #[.slice (some ⟨w.heap.size + 1, 0, none⟩) 1 1, .slice none 0 0, .slice none 0 0] 27)) := by (repeat (first | with_reducible exact Below.refl _ _ | with_reducible assumption | with_reducible refine Below.alloc ?_ (by first | exact Nat.le_refl _ | exact Below.size (by assumption) | exact Nat.le_trans (Below.size (by assumption)) (by simp; done) | (simp; done) | (simp; omega) | omega) _ | with_reducible refine below_drewN ?_ _ | with_reducible refine Below.drew ?_ | with_reducible refine Below.setCell ?_ (by first | exact Nat.le_refl _ | (simp; done) | (simp; omega) | omega) _))
    have a1 := heap_alloc_new w (Obj.cells #[.slice none 0 0, .slice none 0 0, .slice none 0 0] 27)
    have a3 := heap_alloc_new ((w.alloc (Obj.cells #[.slice none 0 0, .slice none 0 0, .slice none 0 0] 27)).alloc (Obj.cells #[.string ⟨#[]⟩] 9)) (Obj.cells #[.slice (some ⟨w.heap.size + 1, 0, none⟩) 1 1, .slice none 0 0, .slice none 0 0] 27)
    have hr : Own fStr ((w.alloc (Obj.cells #[.slice none 0 0, .slice none 0 0, .slice none 0 0] 27)).alloc (Obj.cells #[.string ⟨#[]⟩] 9)) B 9 (.slice (some ⟨(w.alloc (Obj.cells #[.slice none 0 0, .slice none 0 0, .slice none 0 0] 27)).heap.size, 0, none⟩) 1 1) [⟨#[]⟩] := World.ownsRow_lit _ #[.string ⟨#[]⟩] 1 (by simp; omega) (by decide) rfl
    rw [show (w.alloc (Obj.cells #[.slice none 0 0, .slice none 0 0, .slice none 0 0] 27)).heap.size = w.heap.size + 1 by simp] at hr
    refine ⟨by simpa using a3, ?_, by omega, by omega, by omega, hc.below hb, hBg, by omega, by omega, hcb, ⟨hr.alloc _, OwnH.nil _ _, HApart.nil, Own.nil _ _ _, ⟨by decide, fun x hx => by rw [List.mem_singleton.1 hx]; decide⟩, ⟨by decide, fun m hm => by simp at hm⟩, by decide⟩, hb.mono (by omega), (KeepW.refl w).below hb, by omega, by omega⟩
    rw [alloc_old _ _ (by simp; omega), alloc_old _ _ (by simp)]
    exact a1
  generalize ((w.alloc (Obj.cells #[.slice none 0 0, .slice none 0 0, .slice none 0 0] 27)).alloc (Obj.cells #[.string ⟨#[]⟩] 9)).alloc (Obj.cells #[.slice (some ⟨w.heap.size + 1, 0, none⟩) 1 1, .slice none 0 0, .slice none 0 0] 27) = W1 at hw0 ⊢
  clear hc
  generalize hbx : w.heap.size + 1 + 1 = bx
  have hbx2 : w.heap.size + 2 = bx := hbx
  rw [hbx2] at hw0
  have hbx3 : w.heap.size < bx := by omega
  clear hbx hbx2
  go_wp2_with fail
  refine (pick_in 5 hw0.cur (by omega) (by omega) (by omega)).mono ?_
  rintro e w1 ⟨r1, rfl, hr1, hc1, hg1⟩
  have hw1 := hw0.cur' hc1 hg1
  clear hw0 hc1 hg1
  have hcase : r1 = 0 ∨ r1 = 1 ∨ r1 = 2 ∨ r1 = 3 ∨ (((r1 : Int) == 0) = false ∧ ((r1 : Int) == 1) = false ∧ ((r1 : Int) == 2) = false ∧ ((r1 : Int) == 3) = false) := by
    by_cases h0 : r1 = 0
    · exact .inl h0
    by_cases h1 : r1 = 1
    · exact .inr (.inl h1)
    by_cases h2 : r1 = 2
    · exact .inr (.inr (.inl h2))
    by_cases h3 : r1 = 3
    · exact .inr (.inr (.inr (.inl h3)))
    exact .inr (.inr (.inr (.inr ⟨by simp; omega, by simp; omega, by simp; omega, by simp; omega⟩)))
  rcases hcase with rfl | rfl | rfl | rfl | ⟨hn0, hn1, hn2, hn3⟩
  · go_wp2_with fail
    refine (pick_in 3 hw1.cur (by omega) (by omega) (by omega)).mono ?_
    rintro e w2 ⟨r2, rfl, hr2, hc2, hg2⟩
    have hw2 := hw1.cur' hc2 hg2
    clear hw1 hc2 hg2
    go_wp2_with fail
    go_loopw [4] (fun v wr => ∃ (m : Nat) (vM : Value) (hs : List HdrD) (ms : List ModD), v = .int .i64 m ∧ m ≤ 61 ∧ m + ms.length ≤ 61 ∧ SpAt w wr B bx w.heap.size g A n cp code (K + 10) (100 + ms.length) (.slice (some ⟨w.heap.size + 1, 0, none⟩) 1 1) vM (.slice none 0 0) [⟨#[]⟩] hs ms []) (fun v _ => (intOf v).toNat)
    case atStart => exact ⟨59 + r2, _, _, _, by go_num, by omega, by simp; omega, hw2.more (by omega) (by simp)⟩
    case round =>
      clear hw2
      obtain ⟨m, vM, hs, ms, rfl, hm61, hmm, HR⟩ := hrel
      obtain ⟨mA, mc, hmv, _, _, _⟩ := HR.ow.M.slV
      subst hmv
      have hlm := HR.ow.M.len
      by_cases h0 : m = 0
      · subst h0
        have x0 := blk_cell HR.box 0
        have x1 := blk_cell HR.box 1
        have x2 := blk_cell HR.box 2
        have y0 := blk_cell HR.res 0
        have y1 := blk_cell HR.res 1
        have y2 := blk_cell HR.res 2
        have z0 := blk_free HR.res 0
        have z1 := blk_free HR.res 1
        have z2 := blk_free HR.res 2
        go_wp2_with fail
        refine bodyPost_ret (v := .agg #[.slice (some ⟨w.heap.size + 1, 0, none⟩) 1 1, .slice mA ms.length mc, .slice none 0 0]) (by simp [results, Tryz.results55, go_sem, y0, y1, y2]) rfl ⟨_, _, _, _, rfl, (HR.ends _ _ _).1.wIn, HR.ow.wSz, (HR.ends _ _ _).2.2.1⟩
      · obtain ⟨m', rfl⟩ : ∃ m', m = m' + 1 := ⟨m - 1, by omega⟩
        clear h0
        have q1 : wr.cell? ⟨bx, 1, none⟩ = some (.slice mA ms.length mc) := blk_cell HR.box 1
        have hltb := HR.ltb
        have hltB := HR.ltB
        have hcm : ((m' + 1 : Nat) : Int) = (m' : Int) + 1 := by omega
        have hd2 := dec_size (k := m' + 1) (by omega)
        rw [hcm] at hd2
        obtain ⟨s, hs'⟩ : ∃ s : Str, (⟨#[109]⟩ : Str) ++ decT ((m' : Int) + 1) = s := ⟨_, rfl⟩
        have hsz : s.size ≤ 3 := by rw [← hs', ByteArray.size_append]; show 1 + _ ≤ 3; omega
        have hka := fun W : World => run_string_add_sum (P := Tryz.prog) (w := W) ⟨#[109]⟩ (decT ((m' : Int) + 1)) (by show 1 + _ ≤ _; omega)
        rw [hs'] at hka
        clear hs' hcm hd2
        have hdc := fun (W : World) => l4decimal_calls ((m' : Int) + 1) W (by omega) (by omega)
        have HDC := hide hdc
        have HRH := hide HR
        clear hdc HR
        go_upto_region 17 with fail
        go_region_law (first
          | ((go_simp; refine (HDC.out _).mono ?_; rintro e w7 ⟨rfl, hb7⟩; have hr7 := SpAt.below (SpAt.below HRH.out (by (repeat (first | with_reducible exact Below.refl _ _ | with_reducible assumption | with_reducible refine Below.alloc ?_ (by first | exact Nat.le_refl _ | exact Below.size (by assumption) | exact Nat.le_trans (Below.size (by assumption)) (by simp; done) | (simp; done) | (simp; omega) | omega) _ | with_reducible refine below_drewN ?_ _ | with_reducible refine Below.drew ?_ | with_reducible refine Below.setCell ?_ (by first | exact Nat.le_refl _ | (simp; done) | (simp; omega) | omega) _)))) hb7; have q07 : w7.cell? ⟨bx, 1, none⟩ = some (.slice mA ms.length mc) := blk_cell hr7.box 1; have hl7 := hr7.ltb; have hlB7 := hr7.ltB; clear hb7))
          | ((refine step_own fHdr B (by rfl) _ _ 24 75 (.agg #[.string ⟨#[]⟩, .slice none 0 0]) 40 (by rfl) Tryz.underlying24 info_mod rfl (by omega) (.slice mA ms.length mc) hs ⟨s, none, 0, 0⟩ #[.string s, .slice none 0 0] rfl (by rfl) w7.heap.size (by rfl) (by exact heap_alloc_new _ _) (hr7.ow.M.row.alloc _) (by simp; omega) (by omega) ?_; intro v8 w8 hown8 hgr8 hnew8; have hb8 := ((hr7.below (Below.alloc (Below.refl _ w7) (Nat.le_refl _) (Obj.cells #[.string s, .slice none 0 0] 75))).turn (hr7.ow.M.row.alloc _) (by decide) (by decide) hgr8).1; have q8 := blk_cell hb8 1; have f8 := blk_free hb8 1; obtain ⟨yA, yc, hv8, _, _, _⟩ := hown8.slV; subst hv8)))
        all_goals
          have hr9 := (hr7.below (Below.alloc (Below.refl _ w7) (Nat.le_refl _) (Obj.cells #[.string s, .slice none 0 0] 75))).snoc hown8 hgr8 (by omega)
          rw [show (hs ++ [(⟨s, none, 0, 0⟩ : HdrD)]).length = ms.length + 1 by simp [hlm]] at hr9
          have HR9 := hide hr9
          clear q1 hown8 hgr8 hnew8 hb8 q8 f8 hr7 q07 hl7 hr9
          go_wp2_with fail
          go_roundw
          case rel => exact ⟨m', _, _, ms ++ [⟨s, []⟩], by go_num, by omega, by simp; omega, HR9.out.more (by omega) (by simp; omega)⟩
          case measure => first | (simp [intOf]; done) | (simp [intOf]; omega)
  · go_wp2_with fail
    refine (pick_in 3 hw1.cur (by omega) (by omega) (by omega)).mono ?_
    rintro e w2 ⟨r2, rfl, hr2, hc2, hg2⟩
    have hw2 := hw1.cur' hc2 hg2
    clear hw1 hc2 hg2
    obtain ⟨q, hq⟩ : ∃ q : Nat, q = 59 + r2 := ⟨_, rfl⟩
    have hq61 : q ≤ 61 := by omega
    have hqp : 0 < q := by omega
    have hcast : ((q : Nat) : Int) = 59 + (r2 : Int) := by omega
    have hmk := fun W : World => run_make_st (P := Tryz.prog) 73 106 (.agg #[.int .i64 0, .string ⟨#[]⟩, .int .i64 0, .int .i64 0]) 4 40 Tryz.underlying73 info_line11 q (by omega) (by omega) W
    have hl2 := own_made fLine w2 B 106 #[.int .i64 0, .string ⟨#[]⟩, .int .i64 0, .int .i64 0] ⟨0, ⟨#[]⟩, 0, 0⟩ rfl q hw2.ltB (by simp only [maxLen]; omega)
    have hb2 : Below w2.heap.size w2 (w2.alloc (.cells (madeCells #[.int .i64 0, .string ⟨#[]⟩, .int .i64 0, .int .i64 0] (q * 4)) 106)) := by (repeat (first | with_reducible exact Below.refl _ _ | with_reducible assumption | with_reducible refine Below.alloc ?_ (by first | exact Nat.le_refl _ | exact Below.size (by assumption) | exact Nat.le_trans (Below.size (by assumption)) (by simp; done) | (simp; done) | (simp; omega) | omega) _ | with_reducible refine below_drewN ?_ _ | with_reducible refine Below.drew ?_ | with_reducible refine Below.setCell ?_ (by first | exact Nat.le_refl _ | (simp; done) | (simp; omega) | omega) _))
    have hw3 := hw2.oneMod (nm := ⟨#[97]⟩) hb2 hl2 (by rw [List.length_replicate]) hq61 (by omega) (by decide) (rep_names q)
    rw [hcast] at hmk
    generalize hcs : madeCells (Value.agg #[.int .i64 0, .string ⟨#[]⟩, .int .i64 0, .int .i64 0]).cells (q * 4) = cs0 at hmk
    rw [show (#[.int .i64 0, .string ⟨#[]⟩, .int .i64 0, .int .i64 0] : Array Value) = (Value.agg #[.int .i64 0, .string ⟨#[]⟩, .int .i64 0, .int .i64 0]).cells by rfl, hcs] at hw3
    have hlb2 := hw2.ltb
    have q1 : w2.cell? ⟨bx, 1, none⟩ = some (.slice none 0 0) := blk_cell hw2.box 1
    have f1 := blk_free hw2.box 1
    rw [show (w2.alloc (.cells cs0 106)).heap.size = w2.heap.size + 1 by simp] at hw3
    rw [World.setCell_alloc_past _ _ _ _ (by show bx < (w2.alloc _).heap.size; simp; omega), World.setCell_alloc_past _ _ _ _ hlb2] at hw3
    have HW3 := hide hw3
    clear hw3 hw2 hl2 hb2 hcs hcast hq
    go_upto_region 20 with fail
    have hw4 := HW3.out
    clear HW3 hmk q1 f1
    obtain ⟨gL, hgL⟩ : ∃ x, x = w2.heap.size := ⟨_, rfl⟩
    obtain ⟨gM, hgM⟩ : ∃ x, x = w2.heap.size + 1 := ⟨_, rfl⟩
    rw [← hgM, ← hgL] at hw4 ⊢
    generalize ((w2.setCell ⟨bx, 1, none⟩ (.slice (some ⟨gM, 0, none⟩) 1 1)).alloc (Obj.cells cs0 106)).alloc (Obj.cells #[.string ⟨#[97]⟩, .slice (some ⟨gL, 0, none⟩) q q] 75) = W4 at hw4 ⊢
    clear hgL hgM hlb2
    have q1 : W4.cell? ⟨bx, 1, none⟩ = some (.slice (some ⟨gM, 0, none⟩) 1 1) := blk_cell hw4.box 1
    have q2 : W4.cell? ⟨gM, 1, none⟩ = some (.slice (some ⟨gL, 0, none⟩) q q) := hw4.ow.M.row.cellAt (i := 0) (j := 1) rfl rfl
    go_wp2_with fail
    clear q1 q2
    obtain ⟨v10, hv10⟩ : ∃ v : Int, v = ((0 : Nat) : Int) := ⟨_, rfl⟩
    go_loopw [5, 75] (fun _ v wr => ∃ (k : Nat) (ls : List LineD), v = .int .i64 k ∧ k ≤ q ∧ Hid (ls.length = q) ∧ SpAt w wr B bx w.heap.size g A n cp code (K + 2 + 2) 61 (.slice (some ⟨w.heap.size + 1, 0, none⟩) 1 1) (.slice (some ⟨gM, 0, none⟩) 1 1) (.slice none 0 0) [⟨#[]⟩] [⟨⟨#[97]⟩, some ⟨gL, 0, none⟩, q, q⟩] [⟨⟨#[97]⟩, ls⟩] []) (fun _ v _ => q - (intOf v).toNat)
    case atStart => exact ⟨0, _, rfl, by omega, hide (by rw [List.length_replicate]), hw4⟩
    case round =>
      clear hw4
      obtain ⟨k, ls, rfl, hkq, HL, HR⟩ := hrel
      by_cases hlt : k < q
      · have hkl : k < ls.length := by rw [HL.out]; exact hlt
        have q1 : wr.cell? ⟨bx, 1, none⟩ = some (.slice (some ⟨gM, 0, none⟩) 1 1) := blk_cell HR.box 1
        have q2 : wr.cell? ⟨gM, 1, none⟩ = some (.slice (some ⟨gL, 0, none⟩) q q) := HR.ow.M.row.cellAt (i := 0) (j := 1) rfl rfl
        have hol : Own fLine wr B 106 (.slice (some ⟨gL, 0, none⟩) q q) ls := (HR.ow.M.each 0 _ _ rfl rfl).own
        have hln : ls[k].name.size ≤ 200 := (HR.ow.mz.2 _ (List.mem_singleton.2 rfl)).2.2 _ (List.getElem_mem hkl)
        have hgt := List.getElem?_eq_getElem hkl
        generalize ls[k] = l at hgt hln
        have c4 : wr.cell? ⟨gL, k * 4, none⟩ = some (.int .i64 l.op) := hol.cellAt (j := 0) hgt rfl
        have f4 : wr.frozen? ⟨gL, k * 4, none⟩ = false := hol.free _
        have hr9 : SpAt w (wr.setCell ⟨gL, k * 4, none⟩ (.int .i64 1)) B bx w.heap.size g A n cp code (K + 2 + 2) 61 (.slice (some ⟨w.heap.size + 1, 0, none⟩) 1 1) (.slice (some ⟨gM, 0, none⟩) 1 1) (.slice none 0 0) [⟨#[]⟩] [⟨⟨#[97]⟩, some ⟨gL, 0, none⟩, q, q⟩] ([⟨⟨#[97]⟩, ls⟩].set 0 ⟨⟨#[97]⟩, ls.set k ⟨1, l.name, l.num, l.skip⟩⟩) [] := HR.line (i := 0) (f := 0) (c := q) rfl (by rw [HL.out]; rfl) rfl (by omega) (fun x hx => by
          rw [hgt] at hx
          obtain rfl := Option.some.inj hx
          rfl) hln
        have HR9 := hide hr9
        clear hr9 hol hgt HR
        go_wp2_with fail
        go_roundw
        case rel => exact ⟨k + 1, ls.set k ⟨1, l.name, l.num, l.skip⟩, by go_num, by omega, hide ((List.length_set ..).trans HL.out), HR9.out⟩
        case measure => first | (simp [intOf]; done) | (simp [intOf]; omega)
      · obtain rfl : k = q := by omega
        clear hlt hkq
        have x0 := blk_cell HR.box 0
        have x1 := blk_cell HR.box 1
        have x2 := blk_cell HR.box 2
        have y0 := blk_cell HR.res 0
        have y1 := blk_cell HR.res 1
        have y2 := blk_cell HR.res 2
        have z0 := blk_free HR.res 0
        have z1 := blk_free HR.res 1
        have z2 := blk_free HR.res 2
        go_wp2_with fail
        refine bodyPost_ret (v := .agg #[.slice (some ⟨w.heap.size + 1, 0, none⟩) 1 1, .slice (some ⟨gM, 0, none⟩) 1 1, .slice none 0 0]) (by simp [results, Tryz.results55, go_sem, y0, y1, y2]) rfl ⟨_, _, _, _, rfl, (HR.ends _ _ _).1.wIn, HR.ow.wSz, (HR.ends _ _ _).2.2.1⟩
  · go_wp2_with fail
    refine (pick_in 3 hw1.cur (by omega) (by omega) (by omega)).mono ?_
    rintro e w2 ⟨r2, rfl, hr2, hc2, hg2⟩
    have hw2 := hw1.cur' hc2 hg2
    clear hw1 hc2 hg2
    obtain ⟨q, hq⟩ : ∃ q : Nat, q = 7 + r2 := ⟨_, rfl⟩
    have hq9 : q ≤ 9 := by omega
    have hcast : ((q : Nat) : Int) = 7 + (r2 : Int) := by omega
    have hmk := fun W : World => run_make_st (P := Tryz.prog) 23 9 (.string ByteArray.empty) 1 16 Tryz.underlying23 info_str11 q (by omega) (by omega) W
    have hl2 : Own fStr (w2.alloc (.cells (madeCells #[.string ByteArray.empty] (q * 1)) 9)) B 9 (.slice (some ⟨w2.heap.size, 0, none⟩) q q) (List.replicate q ⟨#[]⟩) := own_made fStr w2 B 9 #[.string ByteArray.empty] ⟨#[]⟩ rfl q hw2.ltB (by simp only [maxLen]; omega)
    have hw3 := hw2.root (N' := 61) hl2 (World.grownBy_alloc w2 _ _) (Nat.le_refl _) ⟨by rw [List.length_replicate]; omega, fun x hx => by rw [(List.mem_replicate.1 hx).2]; decide⟩
    rw [hcast] at hmk
    generalize hcs : madeCells (Value.string ByteArray.empty).cells (q * 1) = cs0 at hmk
    rw [show (#[.string ByteArray.empty] : Array Value) = (Value.string ByteArray.empty).cells by rfl, hcs] at hw3
    have hlb2 := hw2.ltb
    have q0 : w2.cell? ⟨bx, 0, none⟩ = some (.slice (some ⟨w.heap.size + 1, 0, none⟩) 1 1) := blk_cell hw2.box 0
    have f0 := blk_free hw2.box 0
    rw [World.setCell_alloc_past _ _ _ _ hlb2] at hw3
    have HW3 := hide hw3
    clear hw3 hw2 hl2 hcs hcast hq
    go_upto_region 27 with fail
    have hw3 := HW3.out
    clear HW3 hmk q0 f0
    obtain ⟨gR, hgR⟩ : ∃ x, x = w2.heap.size := ⟨_, rfl⟩
    rw [← hgR] at hw3 ⊢
    generalize (w2.setCell ⟨bx, 0, none⟩ (.slice (some ⟨gR, 0, none⟩) q q)).alloc (Obj.cells cs0 9) = W3 at hw3 ⊢
    clear hgR hlb2
    have hw4 := hw3.oneMod (nm := ⟨#[97]⟩) (Below.refl _ _) (Own.nil W3 B 106) rfl (Nat.zero_le _) (by omega) (by decide) (fun l hl => by simp at hl)
    have hlb3 := hw3.ltb
    rw [World.setCell_alloc_past _ _ _ _ hlb3] at hw4
    have q1 : W3.cell? ⟨bx, 1, none⟩ = some (.slice none 0 0) := blk_cell hw3.box 1
    have f1 := blk_free hw3.box 1
    have HW4 := hide hw4
    clear hw4 hw3
    go_upto_region 30 with fail
    have hw4 := HW4.out
    clear HW4 q1 f1
    obtain ⟨gM, hgM⟩ : ∃ x, x = W3.heap.size := ⟨_, rfl⟩
    rw [← hgM] at hw4 ⊢
    generalize (W3.setCell ⟨bx, 1, none⟩ (.slice (some ⟨gM, 0, none⟩) 1 1)).alloc (Obj.cells #[.string ⟨#[97]⟩, .slice none 0 0] 75) = W4 at hw4 ⊢
    clear hgM hlb3
    have x0 := blk_cell hw4.box 0
    have x1 := blk_cell hw4.box 1
    have x2 := blk_cell hw4.box 2
    have y0 := blk_cell hw4.res 0
    have y1 := blk_cell hw4.res 1
    have y2 := blk_cell hw4.res 2
    have z0 := blk_free hw4.res 0
    have z1 := blk_free hw4.res 1
    have z2 := blk_free hw4.res 2
    go_wp2_with fail
    refine bodyPost_ret (v := .agg #[.slice (some ⟨gR, 0, none⟩) q q, .slice (some ⟨gM, 0, none⟩) 1 1, .slice none 0 0]) (by simp [results, Tryz.results55, go_sem, y0, y1, y2]) rfl ⟨_, _, _, _, rfl, (hw4.ends _ _ _).1.wIn, hw4.ow.wSz, (hw4.ends _ _ _).2.2.1⟩
  · go_wp2_with fail
    refine (pick_in 3 hw1.cur (by omega) (by omega) (by omega)).mono ?_
    rintro e w2 ⟨r2, rfl, hr2, hc2, hg2⟩
    have hw2 := hw1.cur' hc2 hg2
    clear hw1 hc2 hg2
    obtain ⟨q, hq⟩ : ∃ q : Nat, q = 39 + r2 := ⟨_, rfl⟩
    have hcast : ((q : Nat) : Int) = 39 + (r2 : Int) := by omega
    have hmc := madeChain_calls q (-1) w2 (by omega) (by omega) (by omega)
    have hsz := chain_szZ (n := q) (back := -1) (by omega) (by omega)
    rw [hcast] at hmc
    generalize Ch.chain q (-1) = D at hmc hsz
    have HMC := hide hmc
    clear hmc hcast hq
    go_wp2_with fail
    refine HMC.out.mono ?_
    rintro e w3 ⟨vR, vM, vF, rfl, hin, hb3⟩
    have hw3 := hw2.below hb3
    have hin0 := hin
    obtain ⟨⟨eA, ec, hev, _, _, _⟩, ⟨kA, kc, hkv, _, _, _⟩, ⟨jA, jc, hjv, _, _, _⟩⟩ := hin0
    subst hev hkv hjv
    have hlr := hw2.ltr
    have hlB := hw2.ltB
    have y0 := blk_cell hw3.res 0
    have y1 := blk_cell hw3.res 1
    have y2 := blk_cell hw3.res 2
    have z0 := blk_free hw3.res 0
    have z1 := blk_free hw3.res 1
    have z2 := blk_free hw3.res 2
    have hin3 : ∀ u0 u1 u2 : Value, WIn (((w3.setCell ⟨w.heap.size, 0, none⟩ u0).setCell ⟨w.heap.size, 1, none⟩ u1).setCell ⟨w.heap.size, 2, none⟩ u2) (fun b => B ≤ b) (.slice eA D.roots.length ec) (.slice kA D.mods.length kc) (.slice jA D.faults.length jc) D := fun u0 u1 u2 => (hin.same (fun b hb => by
      simp only [World.setCell]
      repeat rw [Array.getElem?_modify, if_neg (by omega)])).more (fun b hb => by omega)
    have hend := hw3.ends
    have HIN := hide hin3
    have HEND := hide hend
    clear hin hin3 hend hw3 hw2 hb3
    go_wp2_with fail
    refine bodyPost_ret (v := .agg #[.slice eA D.roots.length ec, .slice kA D.mods.length kc, .slice jA D.faults.length jc]) (by simp [results, Tryz.results55, go_sem, y0, y1, y2]) rfl ⟨_, _, _, D, rfl, HIN.out _ _ _, hsz, (HEND.out _ _ _).2.2.1⟩
  · have hl1 := hw1.ltb
    have hl2 := hw1.ltr
    have hlg := hw1.cur.lt
    have hlB1 := hw1.ltB
    have hb1 : Below w1.heap.size w1 (w1.alloc (Obj.cells #[.string ⟨#[97]⟩, .slice none 0 0] 75)) := by (repeat (first | with_reducible exact Below.refl _ _ | with_reducible assumption | with_reducible refine Below.alloc ?_ (by first | exact Nat.le_refl _ | exact Below.size (by assumption) | exact Nat.le_trans (Below.size (by assumption)) (by simp; done) | (simp; done) | (simp; omega) | omega) _ | with_reducible refine below_drewN ?_ _ | with_reducible refine Below.drew ?_ | with_reducible refine Below.setCell ?_ (by first | exact Nat.le_refl _ | (simp; done) | (simp; omega) | omega) _))
    have hw2 := hw1.below hb1
    have hbm := heap_alloc_new w1 (Obj.cells #[.string ⟨#[97]⟩, .slice none 0 0] 75)
    clear hw1 hb1
    go_upto_region 4 with fail
    obtain ⟨bm, hbmd⟩ : ∃ x, x = w1.heap.size := ⟨_, rfl⟩
    rw [← hbmd] at hl1 hl2 hlg hlB1 hbm ⊢
    generalize w1.alloc (Obj.cells #[.string ⟨#[97]⟩, .slice none 0 0] 75) = W2 at hw2 hbm ⊢
    clear hbmd
    go_wp2_with fail
    go_loopw [7] (fun v wr => ∃ (k : Nat) (vL : Value) (ls : List LineD), v = .int .i64 k ∧ k ≤ 60 ∧ ls.length = k ∧ Hid (∀ l ∈ ls, l.name.size ≤ 200) ∧ Own fLine wr B 106 vL ls ∧ wr.heap[bm]? = some (Obj.cells #[.string ⟨#[97]⟩, vL] 75 (0, 0)) ∧ SpAt w wr B bx w.heap.size g A n cp code (K + 2) 61 (.slice (some ⟨w.heap.size + 1, 0, none⟩) 1 1) (.slice none 0 0) (.slice none 0 0) [⟨#[]⟩] [] [] []) (fun v _ => 60 - (intOf v).toNat)
    case atStart => exact ⟨0, _, [], rfl, by omega, rfl, hide (fun l hl => by simp at hl), Own.nil _ _ _, hbm, hw2⟩
    case round =>
      clear hw2 hbm
      obtain ⟨k, vL, ls, rfl, hk60, hlk, HZ, HO, HBM, HR⟩ := hrel
      obtain ⟨lA, lc, hlv, _, _, _⟩ := HO.slV
      subst hlv
      rw [hlk] at HO HBM
      have HLK := hide hlk
      clear hlk
      have q1 : wr.cell? ⟨bm, 1, none⟩ = some (.slice lA k lc) := blk_cell HBM 1
      have hltm : bm < wr.heap.size := (Array.getElem?_eq_some_iff.1 HBM).1
      by_cases hlt : k < 60
      · have hltI : (k : Int) < 60 := by omega
        have hd2 := dec_size (k := k) (by omega)
        obtain ⟨s, hs'⟩ : ∃ s : Str, (⟨#[122, 122]⟩ : Str) ++ decT (k : Int) = s := ⟨_, rfl⟩
        have hsz : s.size ≤ 4 := by rw [← hs', ByteArray.size_append]; show 2 + _ ≤ 4; omega
        have hka := fun W : World => run_string_add_sum (P := Tryz.prog) (w := W) ⟨#[122, 122]⟩ (decT (k : Int)) (by show 2 + _ ≤ _; omega)
        rw [hs'] at hka
        clear hs' hd2
        have hdc := fun (W : World) => l4decimal_calls (k : Int) W (by omega) (by omega)
        have HDC := hide hdc
        have HRH := hide HR
        have HOH := hide HO
        have HBMH := hide HBM
        have hltB := HR.ltB
        clear hdc HR HO HBM
        go_upto_region 7 with fail
        go_region_law (first
          | ((go_simp; refine (HDC.out _).mono ?_; rintro e w7 ⟨rfl, hb7⟩; have hr7 := SpAt.below (SpAt.below HRH.out (by (repeat (first | with_reducible exact Below.refl _ _ | with_reducible assumption | with_reducible refine Below.alloc ?_ (by first | exact Nat.le_refl _ | exact Below.size (by assumption) | exact Nat.le_trans (Below.size (by assumption)) (by simp; done) | (simp; done) | (simp; omega) | omega) _ | with_reducible refine below_drewN ?_ _ | with_reducible refine Below.drew ?_ | with_reducible refine Below.setCell ?_ (by first | exact Nat.le_refl _ | (simp; done) | (simp; omega) | omega) _)))) hb7; have ho7 := Own.below (Own.below HOH.out (by (repeat (first | with_reducible exact Below.refl _ _ | with_reducible assumption | with_reducible refine Below.alloc ?_ (by first | exact Nat.le_refl _ | exact Below.size (by assumption) | exact Nat.le_trans (Below.size (by assumption)) (by simp; done) | (simp; done) | (simp; omega) | omega) _ | with_reducible refine below_drewN ?_ _ | with_reducible refine Below.drew ?_ | with_reducible refine Below.setCell ?_ (by first | exact Nat.le_refl _ | (simp; done) | (simp; omega) | omega) _)))) hb7; have hbm7 : w7.heap[bm]? = some (Obj.cells #[.string ⟨#[97]⟩, .slice lA k lc] 75 (0, 0)) := (hb7.block _ (by exact hltm)).trans HBMH.out; have q07 : w7.cell? ⟨bm, 1, none⟩ = some (.slice lA k lc) := blk_cell hbm7 1; have hl7 : bm < w7.heap.size := (Array.getElem?_eq_some_iff.1 hbm7).1; have hlB7 := hr7.ltB; clear hb7))
          | ((refine step_own fLine B (by rfl) _ _ 73 106 (.agg #[.int .i64 0, .string ⟨#[]⟩, .int .i64 0, .int .i64 0]) 40 (by rfl) Tryz.underlying73 info_line11 rfl (by omega) (.slice lA k lc) ls ⟨4, s, 0, 0⟩ #[.int .i64 4, .string s, .int .i64 0, .int .i64 0] rfl (by rfl) w7.heap.size (by rfl) (by exact heap_alloc_new _ _) (ho7.alloc _) (by simp; omega) (by rw [HLK.out]; omega) ?_; intro v8 w8 hown8 hgr8 hnew8; have hbm8 : w8.heap[bm]? = some (Obj.cells #[.string ⟨#[97]⟩, .slice lA k lc] 75 (0, 0)) := (hgr8.block _ (by simp; omega) (not_row (apart_blk ho7 hbm7 (by decide)))).trans ((alloc_old w7 _ hl7).trans hbm7); have q8 := blk_cell hbm8 1; have f8 := blk_free hbm8 1; obtain ⟨yA, yc, hv8, _, _, _⟩ := hown8.slV; subst hv8)))
        all_goals
          have hr8 := (hr7.below (Below.alloc (Below.refl _ w7) (Nat.le_refl _) (Obj.cells #[.int .i64 4, .string s, .int .i64 0, .int .i64 0] 106))).beside (ho7.alloc _) hgr8
          have hr9 := hr8.boxed hbm8 hl1 hl2 hlg 1 (.slice yA (ls ++ [(⟨4, s, 0, 0⟩ : LineD)]).length yc)
          have ho9 := hown8.kept (grown_set w8 bm 1 (.slice yA (ls ++ [(⟨4, s, 0, 0⟩ : LineD)]).length yc)) (apart_blk hown8 hbm8 (by decide))
          have hbm9 : (w8.setCell ⟨bm, 1, none⟩ (.slice yA (ls ++ [(⟨4, s, 0, 0⟩ : LineD)]).length yc)).heap[bm]? = some (Obj.cells #[.string ⟨#[97]⟩, .slice yA (ls ++ [(⟨4, s, 0, 0⟩ : LineD)]).length yc] 75 (0, 0)) := blk_set hbm8 1 (.slice yA (ls ++ [(⟨4, s, 0, 0⟩ : LineD)]).length yc)
          have hll : (ls ++ [(⟨4, s, 0, 0⟩ : LineD)]).length = ls.length + 1 := by simp
          rw [hll] at hr9 ho9 hbm9
          have HR9 := hide hr9
          have HO9 := hide ho9
          have HB9 := hide hbm9
          clear q1 hown8 hgr8 hnew8 hbm8 q8 f8 hr7 hr8 q07 hl7 hr9 ho9 hbm9 ho7 hbm7 hll
          go_wp2_with fail
          go_roundw
          case rel =>
            refine ⟨k + 1, _, ls ++ [⟨4, s, 0, 0⟩], by go_num, by omega, by simp [HLK.out], hide (fun l hl => ?_), HO9.out, HB9.out, HR9.out⟩
            rcases List.mem_append.1 hl with hl | hl
            · exact HZ.out l hl
            · rw [List.mem_singleton.1 hl]; show s.size ≤ 200; omega
          case measure => first | (simp [intOf]; done) | (simp [intOf]; omega)
      · have hltI : ¬ (k : Int) < 60 := by omega
        have hke : k ≤ 60 := hk60
        have x0 : wr.cell? ⟨bm, 0, none⟩ = some (.string ⟨#[97]⟩) := blk_cell HBM 0
        have hw4 := HR.oneMod (nm := ⟨#[97]⟩) (Below.refl _ _) HO HLK.out (by omega) (by omega) (by decide) HZ.out
        have hlbr := HR.ltb
        rw [World.setCell_alloc_past _ _ _ _ hlbr] at hw4
        have p1 : wr.cell? ⟨bx, 1, none⟩ = some (.slice none 0 0) := blk_cell HR.box 1
        have pf := blk_free HR.box 1
        have HW4 := hide hw4
        clear hw4 HR HO HBM hltm
        go_upto_region 9 with fail
        have hw4 := HW4.out
        clear HW4 p1 pf x0 q1 hlbr
        obtain ⟨gM, hgM⟩ : ∃ x, x = wr.heap.size := ⟨_, rfl⟩
        rw [← hgM] at hw4 ⊢
        generalize (wr.setCell ⟨bx, 1, none⟩ (.slice (some ⟨gM, 0, none⟩) 1 1)).alloc (Obj.cells #[.string ⟨#[97]⟩, .slice lA k lc] 75) = W4 at hw4 ⊢
        clear hgM
        go_wp2_with fail
        go_loopw [8] (fun v wx => ∃ (j : Nat) (vR : Value) (roots : List Str), v = .int .i64 j ∧ 1 ≤ j ∧ j ≤ 8 ∧ Hid (roots.length = j) ∧ SpAt w wx B bx w.heap.size g A n cp code (K + 2) 61 vR (.slice (some ⟨gM, 0, none⟩) 1 1) (.slice none 0 0) roots [⟨⟨#[97]⟩, lA, k, lc⟩] [⟨⟨#[97]⟩, ls⟩] []) (fun v _ => 8 - (intOf v).toNat)
        case atStart => exact ⟨1, _, _, rfl, by omega, by omega, hide rfl, hw4⟩
        case round =>
          clear hw4
          obtain ⟨j, vR, roots, rfl, hj1, hj8, HRL, HR⟩ := hrel
          obtain ⟨rA, rc, hrv, _, _, _⟩ := HR.ow.R.slV
          subst hrv
          by_cases hjl : j < 8
          · have hjI : (j : Int) < 8 := by omega
            have hrl8 : roots.length ≤ 8 := by rw [HRL.out]; exact hj8
            have q0 : wr.cell? ⟨bx, 0, none⟩ = some (.slice rA roots.length rc) := blk_cell HR.box 0
            have hltb := HR.ltb
            have hltB := HR.ltB
            have hd2 := dec_size (k := j) (by omega)
            obtain ⟨s, hs'⟩ : ∃ s : Str, (⟨#[114]⟩ : Str) ++ decT (j : Int) = s := ⟨_, rfl⟩
            have hsz : s.size ≤ 3 := by rw [← hs', ByteArray.size_append]; show 1 + _ ≤ 3; omega
            have hka := fun W : World => run_string_add_sum (P := Tryz.prog) (w := W) ⟨#[114]⟩ (decT (j : Int)) (by show 1 + _ ≤ _; omega)
            rw [hs'] at hka
            clear hs' hd2
            have hdc := fun (W : World) => l4decimal_calls (j : Int) W (by omega) (by omega)
            have HDC := hide hdc
            have HRH := hide HR
            clear hdc HR
            go_upto_region 12 with fail
            go_region_law (first
              | ((go_simp; refine (HDC.out _).mono ?_; rintro e w7 ⟨rfl, hb7⟩; have hr7 := SpAt.below (SpAt.below HRH.out (by (repeat (first | with_reducible exact Below.refl _ _ | with_reducible assumption | with_reducible refine Below.alloc ?_ (by first | exact Nat.le_refl _ | exact Below.size (by assumption) | exact Nat.le_trans (Below.size (by assumption)) (by simp; done) | (simp; done) | (simp; omega) | omega) _ | with_reducible refine below_drewN ?_ _ | with_reducible refine Below.drew ?_ | with_reducible refine Below.setCell ?_ (by first | exact Nat.le_refl _ | (simp; done) | (simp; omega) | omega) _)))) hb7; have q07 : w7.cell? ⟨bx, 0, none⟩ = some (.slice rA roots.length rc) := blk_cell hr7.box 0; have hl7 := hr7.ltb; have hlB7 := hr7.ltB; clear hb7))
              | ((refine step_own fStr B (by rfl) _ _ 23 9 (.string ByteArray.empty) 16 (by rfl) Tryz.underlying23 info_str11 rfl (by omega) (.slice rA roots.length rc) roots s #[.string s] rfl (by rfl) w7.heap.size (by rfl) (by exact heap_alloc_new _ _) (hr7.ow.R.alloc _) (by simp; omega) (by omega) ?_; intro v8 w8 hown8 hgr8 hnew8; have hb8 := ((hr7.below (Below.alloc (Below.refl _ w7) (Nat.le_refl _) (Obj.cells #[.string s] 9))).turn (hr7.ow.R.alloc _) (by decide) (by decide) hgr8).1; have q8 := blk_cell hb8 0; have f8 := blk_free hb8 0; obtain ⟨yA, yc, hv8, _, _, _⟩ := hown8.slV; subst hv8)))
            all_goals
              have hr9 := (hr7.below (Below.alloc (Below.refl _ w7) (Nat.le_refl _) (Obj.cells #[.string s] 9))).root (N' := 61) hown8 hgr8 (Nat.le_refl _) ⟨by simp; omega, fun x hx => by
                rcases List.mem_append.1 hx with hx | hx
                · exact hr7.ow.rz.2 x hx
                · rw [List.mem_singleton.1 hx]; omega⟩
              rw [show (roots ++ [s]).length = roots.length + 1 by simp] at hr9
              have HR9 := hide hr9
              clear q0 hown8 hgr8 hnew8 hb8 q8 f8 hr7 q07 hl7 hr9
              go_wp2_with fail
              go_roundw
              case rel => exact ⟨j + 1, _, roots ++ [s], by go_num, by omega, by omega, hide (by simp [HRL.out]), HR9.out⟩
              case measure => first | (simp [intOf]; done) | (simp [intOf]; omega)
          · have hjI : ¬ (j : Int) < 8 := by omega
            have x0 := blk_cell HR.box 0
            have x1 := blk_cell HR.box 1
            have x2 := blk_cell HR.box 2
            have y0 := blk_cell HR.res 0
            have y1 := blk_cell HR.res 1
            have y2 := blk_cell HR.res 2
            have z0 := blk_free HR.res 0
            have z1 := blk_free HR.res 1
            have z2 := blk_free HR.res 2
            go_wp2_with fail
            refine bodyPost_ret (v := .agg #[.slice rA roots.length rc, .slice (some ⟨gM, 0, none⟩) 1 1, .slice none 0 0]) (by simp [results, Tryz.results55, go_sem, y0, y1, y2]) rfl ⟨_, _, _, _, rfl, (HR.ends _ _ _).1.wIn, HR.ow.wSz, (HR.ends _ _ _).2.2.1⟩
end Go.Proofs.YtkhlicmlnjccdaaGreatDoor
