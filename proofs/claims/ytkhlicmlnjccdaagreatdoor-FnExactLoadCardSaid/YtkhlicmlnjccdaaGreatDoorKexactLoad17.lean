/-
  Walks: the laws' helpers on rows of records and states: compared, marked, held.
-/
import Derived.Test.YtkhlicmlnjccdaaGreatDoorKexactLoad16
namespace Go.Proofs.YtkhlicmlnjccdaaGreatDoor
open Go.RowKit Mem

def mrec (K : Nat) : RecD := ⟨K, mtx (K + 1), K + 2, K + 3⟩
def mstate (K : Nat) : StateD := ⟨mtx K, K + 1, K + 2, K + 3⟩

set_option maxHeartbeats 400000 in
theorem eqRec_same (x : RecD) (w : World) :
    Calls Tryz.prog 81 #[.agg #[.int .i64 x.kind, .string x.name, .int .i64 x.code, .int .i64 x.num], .agg #[.int .i64 x.kind, .string x.name, .int .i64 x.code, .int .i64 x.num]] w fun e w' => e = .returned (.bool true) ∧ Below w.heap.size w w' := by
  go_enter Tryz.func81, Tryz.ntmps81
  go_wp2_with fail
  go_ret
  exact ⟨rfl, by (repeat (first | with_reducible exact Below.refl _ _ | with_reducible assumption | with_reducible refine Below.alloc ?_ (by first | exact Nat.le_refl _ | exact Below.size (by assumption) | exact Nat.le_trans (Below.size (by assumption)) (by simp; done) | (simp; done) | (simp; omega) | omega) _ | with_reducible refine below_drewN ?_ _ | with_reducible refine Below.drew ?_ | with_reducible refine Below.setCell ?_ (by first | exact Nat.le_refl _ | (simp; done) | (simp; omega) | omega) _))⟩

set_option maxRecDepth 100000 in
set_option maxHeartbeats 1000000 in
theorem eqRecS_same (A B : Option Addr) (c d n : Nat) (xs : List RecD) (w : World) (S T : Nat → Prop) (h1 : Sl kRec w S A xs) (h2 : Sl kRec w T B xs) (hn : xs.length = n) (hl : n ≤ maxLen) :
    Calls Tryz.prog 39 #[.slice A n c, .slice B n d] w fun e w' => e = .returned (.bool true) ∧ Below w.heap.size w w' := by
  subst hn
  replace hl := mem_maxLen _ hl
  go_enter Tryz.func39, Tryz.ntmps39
  go_wp2_with fail
  go_loopw [5] (fun i wr => ∃ k : Nat, i = .int .i64 k ∧ k ≤ xs.length ∧ Below w.heap.size w wr) (fun i _ => xs.length - (intOf i).toNat)
  case atStart => exact ⟨0, rfl, by omega, Below.refl _ _⟩
  case round =>
    obtain ⟨k, rfl, hk, HB⟩ := hrel
    by_cases hlt : k < xs.length
    · obtain ⟨ad, hA, l0, l1, l2, l3⟩ := (h1.below HB).get hlt
      subst hA
      obtain ⟨bd, hA, m0, m1, m2, m3⟩ := (h2.below HB).get hlt
      subst hA
      have e0 : wr.cell? (ad.add (k * 4)) = some (.int .i64 xs[k].kind) := l0.2
      have e1 : wr.cell? ⟨(ad.add (k * 4)).block, (ad.add (k * 4)).off + 1, none⟩ = some (.string xs[k].name) := by have := l1.2; rwa [add_pos _ _ (by omega)] at this
      have e2 : wr.cell? ⟨(ad.add (k * 4)).block, (ad.add (k * 4)).off + 2, none⟩ = some (.int .i64 xs[k].code) := by have := l2.2; rwa [add_pos _ _ (by omega)] at this
      have e3 : wr.cell? ⟨(ad.add (k * 4)).block, (ad.add (k * 4)).off + 3, none⟩ = some (.int .i64 xs[k].num) := by have := l3.2; rwa [add_pos _ _ (by omega)] at this
      have d0 : wr.cell? (bd.add (k * 4)) = some (.int .i64 xs[k].kind) := m0.2
      have d1 : wr.cell? ⟨(bd.add (k * 4)).block, (bd.add (k * 4)).off + 1, none⟩ = some (.string xs[k].name) := by have := m1.2; rwa [add_pos _ _ (by omega)] at this
      have d2 : wr.cell? ⟨(bd.add (k * 4)).block, (bd.add (k * 4)).off + 2, none⟩ = some (.int .i64 xs[k].code) := by have := m2.2; rwa [add_pos _ _ (by omega)] at this
      have d3 : wr.cell? ⟨(bd.add (k * 4)).block, (bd.add (k * 4)).off + 3, none⟩ = some (.int .i64 xs[k].num) := by have := m3.2; rwa [add_pos _ _ (by omega)] at this
      clear l0 l1 l2 l3 m0 m1 m2 m3 h1 h2
      generalize xs[k] = x at e0 e1 e2 e3 d0 d1 d2 d3
      go_wp2_with fail
      go_still_tail 8, (by kernel_rfl)
      change wpList _ _ _ _ _ wr.drew
      go_wp2_with fail
      refine (eqRec_same x _).mono ?_
      rintro e w1 ⟨rfl, hb1⟩
      have HB1 := below_then (Below.drew HB) (show w.heap.size ≤ wr.drew.heap.size from HB.size) hb1
      clear e0 e1 e2 e3 d0 d1 d2 d3 hb1
      go_wp2_with fail
      go_roundw
      case rel => exact ⟨k + 1, by go_num, by omega, HB1⟩
      case measure => simp [intOf]; omega
    · obtain rfl : k = xs.length := by omega
      go_wp2_with fail
      go_ret
      exact ⟨rfl, HB⟩

set_option maxRecDepth 100000 in
set_option maxHeartbeats 1000000 in
theorem markRecS_calls (A : Option Addr) (c n base k : Nat) (xs : List RecD) (w : World) (h : Own fRec w base 39 (.slice A n c) xs) (hn : xs.length = n) (hk : k + 4 * n ≤ 1099511627776) :
    Calls Tryz.prog 48 #[.slice A n c, .int .i64 k] w fun e w' => (∃ k' : Nat, k' = k + 4 * n ∧ e = .returned (.int .i64 k')) ∧ Own fRec w' base 39 (.slice A n c) (mks mrec 4 k n) ∧ w.grownBy w' (Value.slice A n c).ownBlock := by
  rcases Nat.eq_zero_or_pos n with h0 | hpos
  · subst h0
    obtain rfl : xs = [] := List.eq_nil_of_length_eq_zero hn
    go_enter Tryz.func48, Tryz.ntmps48
    go_wp2_with fail
    go_loopw [1, 5] (fun j i wr => j = .int .i64 k ∧ i = .int .i64 0 ∧ w = wr) (fun _ _ _ => 0)
    case atStart => exact ⟨rfl, rfl, rfl⟩
    case round =>
      obtain ⟨rfl, rfl, rfl⟩ := hrel
      go_wp2_with fail
      go_ret
      exact ⟨⟨k, by omega, rfl⟩, h, World.grownBy.refl _ _⟩
  · have hx : xs ≠ [] := fun e => by rw [e] at hn; simp at hn; omega
    obtain ⟨g, c', hv, _, hgl, hnc, hcm, hob, _⟩ := h.form hx
    injection hv with hA hll hcc
    subst hA hcc
    clear hll
    obtain ⟨cs0, hcs0, hbg, hsz0, _, hnc0, hcm0, _⟩ := Own.block_of h
    have hB : (Value.slice (some ⟨g, 0, none⟩) n c).ownBlock = some g := rfl
    rw [hB]
    have HC0 := hide hcs0
    have HS0 := hide hsz0
    have hcm1 := hcm0
    unfold maxLen at hcm1
    clear hB hob hx hn hnc hcm h hcs0 hsz0
    go_enter Tryz.func48, Tryz.ntmps48
    go_wp2_with fail
    go_loopw [1, 5] (fun j i wr => ∃ (m K : Nat) (cs : Array Value), i = .int .i64 m ∧ j = .int .i64 K ∧ m ≤ n ∧ Hid (K = k + 4 * m) ∧ Hid (wr.heap[g]? = some (.cells cs 39 (0, 0))) ∧ Hid (cs.size = c * 4 ∧ ∀ q, q < m → Part cs 4 q (fRec.enc (mrec (k + 4 * q)))) ∧ w.grownBy wr (some g)) (fun _ i _ => n - (intOf i).toNat)
    case atStart => exact ⟨0, k, cs0, rfl, rfl, by omega, hide (by omega), HC0, hide ⟨HS0.out, fun q hq => by omega⟩, World.grownBy.refl _ _⟩
    case round =>
      obtain ⟨m, K, cs, rfl, rfl, hm, HK, HC, HP, HG⟩ := hrel
      have hsz2 : cs.size = c * 4 := HP.out.1
      have hKb : K ≤ k + 4 * m := by have := HK.out; omega
      by_cases hlt : m < n
      · have hcs := HC.out
        have hPN : (set4 cs m (.int .i64 K) (.string (mtx (K + 1))) (.int .i64 ((K + 2 : Nat) : Int)) (.int .i64 ((K + 3 : Nat) : Int))).size = c * 4 ∧ ∀ q, q < m + 1 → Part (set4 cs m (.int .i64 K) (.string (mtx (K + 1))) (.int .i64 ((K + 2 : Nat) : Int)) (.int .i64 ((K + 3 : Nat) : Int))) 4 q (fRec.enc (mrec (k + 4 * q))) :=
          ⟨set4_size.trans hsz2, fun q hq => by
            have h4 := fun l (hl : l.length ≤ 4) => set4_at (cs := cs) (q := m) (m := q) (a := (.int .i64 K)) (b := (.string (mtx (K + 1)))) (c := (.int .i64 ((K + 2 : Nat) : Int))) (d := (.int .i64 ((K + 3 : Nat) : Int))) (by omega) (l := l) hl
            by_cases he : q = m
            · subst he
              rw [← HK.out]
              exact (h4 [] (by simp)).1
            · exact (h4 _ (by simp [fRec])).2 he (HP.out.2 q (by omega))⟩
        have HPN := hide hPN
        clear hPN
        have o0 : wr.cell? ⟨g, m * 4, none⟩ = some _ := (blk_cell hcs (m * 4)).trans (Array.getElem?_eq_getElem (show m * 4 < _ by rw [hsz2]; omega))
        have f0 := blk_free hcs (m * 4)
        have o1 : wr.cell? ⟨g, m * 4 + 1, none⟩ = some _ := (blk_cell hcs (m * 4 + 1)).trans (Array.getElem?_eq_getElem (show m * 4 + 1 < _ by rw [hsz2]; omega))
        have f1 := blk_free hcs (m * 4 + 1)
        have o2 : wr.cell? ⟨g, m * 4 + 2, none⟩ = some _ := (blk_cell hcs (m * 4 + 2)).trans (Array.getElem?_eq_getElem (show m * 4 + 2 < _ by rw [hsz2]; omega))
        have f2 := blk_free hcs (m * 4 + 2)
        have o3 : wr.cell? ⟨g, m * 4 + 3, none⟩ = some _ := (blk_cell hcs (m * 4 + 3)).trans (Array.getElem?_eq_getElem (show m * 4 + 3 < _ by rw [hsz2]; omega))
        have f3 := blk_free hcs (m * 4 + 3)
        have hmt := fun (W : World) => markText_calls (K + 1) W (by omega)
        have HCC := hide (blk_set hcs (m * 4) (.int .i64 K))
        have HGC : w.grownBy (wr.setCell ⟨g, m * 4, none⟩ (.int .i64 K)) (some g) := (World.grownBy.trans HG (grown_set _ g _ _))
        have HMT := hide hmt
        clear hmt
        go_wp2_with fail
        refine (HMT.out _).mono ?_
        rintro e w5 ⟨rfl, hb5⟩
        have hc5 := (hb5.block g (by have := (Array.getElem?_eq_some_iff.1 HCC.out).1; exact this)).trans HCC.out
        have HG5 : w.grownBy w5 (some g) := World.grownBy.trans HGC ⟨hb5.os, hb5.tape, hb5.output, hb5.size, fun i hi _ => hb5.block i hi⟩
        clear o0 f0 o1 f1 o2 f2 o3 f3 HGC hb5
        have o0 : w5.cell? ⟨g, m * 4, none⟩ = some _ := (blk_cell hc5 (m * 4)).trans (Array.getElem?_eq_getElem (show m * 4 < _ by (try simp only [Array.size_setIfInBounds]); rw [hsz2]; omega))
        have f0 := blk_free hc5 (m * 4)
        have o1 : w5.cell? ⟨g, m * 4 + 1, none⟩ = some _ := (blk_cell hc5 (m * 4 + 1)).trans (Array.getElem?_eq_getElem (show m * 4 + 1 < _ by (try simp only [Array.size_setIfInBounds]); rw [hsz2]; omega))
        have f1 := blk_free hc5 (m * 4 + 1)
        have o2 : w5.cell? ⟨g, m * 4 + 2, none⟩ = some _ := (blk_cell hc5 (m * 4 + 2)).trans (Array.getElem?_eq_getElem (show m * 4 + 2 < _ by (try simp only [Array.size_setIfInBounds]); rw [hsz2]; omega))
        have f2 := blk_free hc5 (m * 4 + 2)
        have o3 : w5.cell? ⟨g, m * 4 + 3, none⟩ = some _ := (blk_cell hc5 (m * 4 + 3)).trans (Array.getElem?_eq_getElem (show m * 4 + 3 < _ by (try simp only [Array.size_setIfInBounds]); rw [hsz2]; omega))
        have f3 := blk_free hc5 (m * 4 + 3)
        have HBL := hide (blk_set (blk_set (blk_set hc5 (m * 4 + 1) (.string (mtx (K + 1)))) (m * 4 + 2) (.int .i64 ((K + 2 : Nat) : Int))) (m * 4 + 3) (.int .i64 ((K + 3 : Nat) : Int)))
        go_wp2_with fail
        go_roundw
        case rel => exact ⟨m + 1, K + 4, _, by go_num, by first | rfl | go_num, by omega, hide (by rw [HK.out]; omega), HBL, HPN, (World.grownBy.trans (World.grownBy.trans (World.grownBy.trans HG5 (grown_set _ g _ _)) (grown_set _ g _ _)) (grown_set _ g _ _))⟩
        case measure => simp [intOf]; omega
      · obtain rfl : m = n := by omega
        have HO := Own.of_block fRec (xs := mks mrec 4 k m) HC.out hbg HP.out.1 (mks_len _ _ _ _) hnc0 hcm0 (fun q x hq => by
          rcases Nat.lt_or_ge q m with h1 | h1
          · rw [mks_get _ _ _ _ _ h1] at hq
            obtain rfl := Option.some.inj hq
            exact HP.out.2 q h1
          · rw [List.getElem?_eq_none (by rw [mks_len]; exact h1)] at hq; simp at hq)
        go_wp2_with fail
        go_ret
        exact ⟨⟨K, HK.out, rfl⟩, HO, HG⟩

set_option maxRecDepth 100000 in
set_option maxHeartbeats 1000000 in
theorem heldRecS_calls (A : Option Addr) (c n k : Nat) (S : Nat → Prop) (w : World) (h : Sl kRec w S A (mks mrec 4 k n)) (hk : k + 4 * n ≤ 1099511627776) :
    Calls Tryz.prog 51 #[.slice A n c, .int .i64 k] w fun e w' => (∃ k' : Nat, k' = k + 4 * n ∧ e = .returned (.int .i64 k')) ∧ Below w.heap.size w w' := by
  go_enter Tryz.func51, Tryz.ntmps51
  go_wp2_with fail
  go_loopw [1, 5] (fun j i wr => ∃ m K : Nat, i = .int .i64 m ∧ j = .int .i64 K ∧ m ≤ n ∧ Hid (K = k + 4 * m) ∧ Below w.heap.size w wr) (fun _ i _ => n - (intOf i).toNat)
  case atStart => exact ⟨0, k, rfl, rfl, by omega, hide (by omega), by (repeat (first | with_reducible exact Below.refl _ _ | with_reducible assumption | with_reducible refine Below.alloc ?_ (by first | exact Nat.le_refl _ | exact Below.size (by assumption) | exact Nat.le_trans (Below.size (by assumption)) (by simp; done) | (simp; done) | (simp; omega) | omega) _ | with_reducible refine below_drewN ?_ _ | with_reducible refine Below.drew ?_ | with_reducible refine Below.setCell ?_ (by first | exact Nat.le_refl _ | (simp; done) | (simp; omega) | omega) _))⟩
  case round =>
    obtain ⟨m, K, rfl, rfl, hm, HK, HB⟩ := hrel
    have hKb : K ≤ k + 4 * m := by have := HK.out; omega
    by_cases hlt : m < n
    · obtain ⟨ad, rfl, hc⟩ := (h.below HB).get (i := m) (by rw [mks_len]; exact hlt)
      have hg := mks_get mrec 4 k n m hlt
      rw [List.getElem?_eq_getElem (by rw [mks_len]; exact hlt)] at hg
      rw [Option.some.inj hg, ← HK.out] at hc
      obtain ⟨l0, l1, l2, l3⟩ := hc
      have e0 : wr.cell? (ad.add (m * 4)) = some (.int .i64 K) := l0.2
      have e1 : wr.cell? ⟨(ad.add (m * 4)).block, (ad.add (m * 4)).off + 1, none⟩ = some (.string (mtx (K + 1))) := by have := l1.2; rwa [add_pos _ _ (by omega)] at this
      have e2 : wr.cell? ⟨(ad.add (m * 4)).block, (ad.add (m * 4)).off + 2, none⟩ = some (.int .i64 (K + 2)) := by have := l2.2; rwa [add_pos _ _ (by omega)] at this
      have e3 : wr.cell? ⟨(ad.add (m * 4)).block, (ad.add (m * 4)).off + 3, none⟩ = some (.int .i64 (K + 3)) := by have := l3.2; rwa [add_pos _ _ (by omega)] at this
      clear l0 l1 l2 l3 hg h
      have hmt := fun (W : World) => markText_calls (K + 1) W (by omega)
      have HMT := hide hmt
      have hadb : ad.block < wr.heap.size := by have := World.block_lt_of_cell? wr _ e0; rwa [block_add] at this
      clear hmt
      go_wp2_with fail
      go_region_held3 (fun w' => Below wr.heap.size wr w' ∧ w'.cell? ⟨(ad.add (m * 4)).block, (ad.add (m * 4)).off + 1, none⟩ = some (.string (mtx (K + 1))) ∧ w'.cell? ⟨(ad.add (m * 4)).block, (ad.add (m * 4)).off + 2, none⟩ = some (.int .i64 (K + 2)) ∧ w'.cell? ⟨(ad.add (m * 4)).block, (ad.add (m * 4)).off + 3, none⟩ = some (.int .i64 (K + 3))) (first | exact ⟨Below.drew (Below.refl _ _), e1, e2, e3⟩ | exact held_step3 (by assumption) (by assumption)) (first | (go_at_call 84; refine (HMT.out _).mono ?_; rintro e w1 ⟨rfl, hb1⟩))
      have hH := @id (Below wr.heap.size wr _ ∧ _) (by assumption)
      have HBN := below_then HB HB.size hH.1
      obtain ⟨_, _, _, _⟩ := hH
      go_wp2_with fail
      go_roundw
      case rel => exact ⟨m + 1, K + 4, by go_num, by first | rfl | go_num, by omega, hide (by rw [HK.out]; omega), HBN⟩
      case measure => simp [intOf]; omega
    · obtain rfl : m = n := by omega
      go_wp2_with fail
      go_ret
      exact ⟨⟨K, HK.out, rfl⟩, HB⟩

set_option maxHeartbeats 400000 in
theorem eqState_same (x : StateD) (w : World) :
    Calls Tryz.prog 82 #[.agg #[.string x.name, .int .i64 x.now, .int .i64 x.give, .int .i64 x.code], .agg #[.string x.name, .int .i64 x.now, .int .i64 x.give, .int .i64 x.code]] w fun e w' => e = .returned (.bool true) ∧ Below w.heap.size w w' := by
  go_enter Tryz.func82, Tryz.ntmps82
  go_wp2_with fail
  go_ret
  exact ⟨rfl, by (repeat (first | with_reducible exact Below.refl _ _ | with_reducible assumption | with_reducible refine Below.alloc ?_ (by first | exact Nat.le_refl _ | exact Below.size (by assumption) | exact Nat.le_trans (Below.size (by assumption)) (by simp; done) | (simp; done) | (simp; omega) | omega) _ | with_reducible refine below_drewN ?_ _ | with_reducible refine Below.drew ?_ | with_reducible refine Below.setCell ?_ (by first | exact Nat.le_refl _ | (simp; done) | (simp; omega) | omega) _))⟩

set_option maxRecDepth 100000 in
set_option maxHeartbeats 1000000 in
theorem eqStateS_same (A B : Option Addr) (c d n : Nat) (xs : List StateD) (w : World) (S T : Nat → Prop) (h1 : Sl kState w S A xs) (h2 : Sl kState w T B xs) (hn : xs.length = n) (hl : n ≤ maxLen) :
    Calls Tryz.prog 40 #[.slice A n c, .slice B n d] w fun e w' => e = .returned (.bool true) ∧ Below w.heap.size w w' := by
  subst hn
  replace hl := mem_maxLen _ hl
  go_enter Tryz.func40, Tryz.ntmps40
  go_wp2_with fail
  go_loopw [5] (fun i wr => ∃ k : Nat, i = .int .i64 k ∧ k ≤ xs.length ∧ Below w.heap.size w wr) (fun i _ => xs.length - (intOf i).toNat)
  case atStart => exact ⟨0, rfl, by omega, Below.refl _ _⟩
  case round =>
    obtain ⟨k, rfl, hk, HB⟩ := hrel
    by_cases hlt : k < xs.length
    · obtain ⟨ad, hA, l0, l1, l2, l3⟩ := (h1.below HB).get hlt
      subst hA
      obtain ⟨bd, hA, m0, m1, m2, m3⟩ := (h2.below HB).get hlt
      subst hA
      have e0 : wr.cell? (ad.add (k * 4)) = some (.string xs[k].name) := l0.2
      have e1 : wr.cell? ⟨(ad.add (k * 4)).block, (ad.add (k * 4)).off + 1, none⟩ = some (.int .i64 xs[k].now) := by have := l1.2; rwa [add_pos _ _ (by omega)] at this
      have e2 : wr.cell? ⟨(ad.add (k * 4)).block, (ad.add (k * 4)).off + 2, none⟩ = some (.int .i64 xs[k].give) := by have := l2.2; rwa [add_pos _ _ (by omega)] at this
      have e3 : wr.cell? ⟨(ad.add (k * 4)).block, (ad.add (k * 4)).off + 3, none⟩ = some (.int .i64 xs[k].code) := by have := l3.2; rwa [add_pos _ _ (by omega)] at this
      have d0 : wr.cell? (bd.add (k * 4)) = some (.string xs[k].name) := m0.2
      have d1 : wr.cell? ⟨(bd.add (k * 4)).block, (bd.add (k * 4)).off + 1, none⟩ = some (.int .i64 xs[k].now) := by have := m1.2; rwa [add_pos _ _ (by omega)] at this
      have d2 : wr.cell? ⟨(bd.add (k * 4)).block, (bd.add (k * 4)).off + 2, none⟩ = some (.int .i64 xs[k].give) := by have := m2.2; rwa [add_pos _ _ (by omega)] at this
      have d3 : wr.cell? ⟨(bd.add (k * 4)).block, (bd.add (k * 4)).off + 3, none⟩ = some (.int .i64 xs[k].code) := by have := m3.2; rwa [add_pos _ _ (by omega)] at this
      clear l0 l1 l2 l3 m0 m1 m2 m3 h1 h2
      generalize xs[k] = x at e0 e1 e2 e3 d0 d1 d2 d3
      go_wp2_with fail
      go_still_tail 8, (by kernel_rfl)
      change wpList _ _ _ _ _ wr.drew
      go_wp2_with fail
      refine (eqState_same x _).mono ?_
      rintro e w1 ⟨rfl, hb1⟩
      have HB1 := below_then (Below.drew HB) (show w.heap.size ≤ wr.drew.heap.size from HB.size) hb1
      clear e0 e1 e2 e3 d0 d1 d2 d3 hb1
      go_wp2_with fail
      go_roundw
      case rel => exact ⟨k + 1, by go_num, by omega, HB1⟩
      case measure => simp [intOf]; omega
    · obtain rfl : k = xs.length := by omega
      go_wp2_with fail
      go_ret
      exact ⟨rfl, HB⟩

set_option maxRecDepth 100000 in
set_option maxHeartbeats 1000000 in
theorem markStateS_calls (A : Option Addr) (c n base k : Nat) (xs : List StateD) (w : World) (h : Own fState w base 79 (.slice A n c) xs) (hn : xs.length = n) (hk : k + 4 * n ≤ 1099511627776) :
    Calls Tryz.prog 49 #[.slice A n c, .int .i64 k] w fun e w' => (∃ k' : Nat, k' = k + 4 * n ∧ e = .returned (.int .i64 k')) ∧ Own fState w' base 79 (.slice A n c) (mks mstate 4 k n) ∧ w.grownBy w' (Value.slice A n c).ownBlock := by
  rcases Nat.eq_zero_or_pos n with h0 | hpos
  · subst h0
    obtain rfl : xs = [] := List.eq_nil_of_length_eq_zero hn
    go_enter Tryz.func49, Tryz.ntmps49
    go_wp2_with fail
    go_loopw [1, 5] (fun j i wr => j = .int .i64 k ∧ i = .int .i64 0 ∧ w = wr) (fun _ _ _ => 0)
    case atStart => exact ⟨rfl, rfl, rfl⟩
    case round =>
      obtain ⟨rfl, rfl, rfl⟩ := hrel
      go_wp2_with fail
      go_ret
      exact ⟨⟨k, by omega, rfl⟩, h, World.grownBy.refl _ _⟩
  · have hx : xs ≠ [] := fun e => by rw [e] at hn; simp at hn; omega
    obtain ⟨g, c', hv, _, hgl, hnc, hcm, hob, _⟩ := h.form hx
    injection hv with hA hll hcc
    subst hA hcc
    clear hll
    obtain ⟨cs0, hcs0, hbg, hsz0, _, hnc0, hcm0, _⟩ := Own.block_of h
    have hB : (Value.slice (some ⟨g, 0, none⟩) n c).ownBlock = some g := rfl
    rw [hB]
    have HC0 := hide hcs0
    have HS0 := hide hsz0
    have hcm1 := hcm0
    unfold maxLen at hcm1
    clear hB hob hx hn hnc hcm h hcs0 hsz0
    go_enter Tryz.func49, Tryz.ntmps49
    go_wp2_with fail
    go_loopw [1, 5] (fun j i wr => ∃ (m K : Nat) (cs : Array Value), i = .int .i64 m ∧ j = .int .i64 K ∧ m ≤ n ∧ Hid (K = k + 4 * m) ∧ Hid (wr.heap[g]? = some (.cells cs 79 (0, 0))) ∧ Hid (cs.size = c * 4 ∧ ∀ q, q < m → Part cs 4 q (fState.enc (mstate (k + 4 * q)))) ∧ w.grownBy wr (some g)) (fun _ i _ => n - (intOf i).toNat)
    case atStart => exact ⟨0, k, cs0, rfl, rfl, by omega, hide (by omega), HC0, hide ⟨HS0.out, fun q hq => by omega⟩, World.grownBy.refl _ _⟩
    case round =>
      obtain ⟨m, K, cs, rfl, rfl, hm, HK, HC, HP, HG⟩ := hrel
      have hsz2 : cs.size = c * 4 := HP.out.1
      have hKb : K ≤ k + 4 * m := by have := HK.out; omega
      by_cases hlt : m < n
      · have hcs := HC.out
        have hPN : (set4 cs m (.string (mtx (K))) (.int .i64 ((K + 1 : Nat) : Int)) (.int .i64 ((K + 2 : Nat) : Int)) (.int .i64 ((K + 3 : Nat) : Int))).size = c * 4 ∧ ∀ q, q < m + 1 → Part (set4 cs m (.string (mtx (K))) (.int .i64 ((K + 1 : Nat) : Int)) (.int .i64 ((K + 2 : Nat) : Int)) (.int .i64 ((K + 3 : Nat) : Int))) 4 q (fState.enc (mstate (k + 4 * q))) :=
          ⟨set4_size.trans hsz2, fun q hq => by
            have h4 := fun l (hl : l.length ≤ 4) => set4_at (cs := cs) (q := m) (m := q) (a := (.string (mtx (K)))) (b := (.int .i64 ((K + 1 : Nat) : Int))) (c := (.int .i64 ((K + 2 : Nat) : Int))) (d := (.int .i64 ((K + 3 : Nat) : Int))) (by omega) (l := l) hl
            by_cases he : q = m
            · subst he
              rw [← HK.out]
              exact (h4 [] (by simp)).1
            · exact (h4 _ (by simp [fState])).2 he (HP.out.2 q (by omega))⟩
        have HPN := hide hPN
        clear hPN
        have hmt := fun (W : World) => markText_calls K W (by omega)
        have HCC := hide hcs
        have HGC : w.grownBy (wr) (some g) := HG
        have HMT := hide hmt
        clear hmt
        go_wp2_with fail
        refine (HMT.out _).mono ?_
        rintro e w5 ⟨rfl, hb5⟩
        have hc5 := (hb5.block g (by have := (Array.getElem?_eq_some_iff.1 HCC.out).1; exact this)).trans HCC.out
        have HG5 : w.grownBy w5 (some g) := World.grownBy.trans HGC ⟨hb5.os, hb5.tape, hb5.output, hb5.size, fun i hi _ => hb5.block i hi⟩
        clear  HGC hb5
        have o0 : w5.cell? ⟨g, m * 4, none⟩ = some _ := (blk_cell hc5 (m * 4)).trans (Array.getElem?_eq_getElem (show m * 4 < _ by (try simp only [Array.size_setIfInBounds]); rw [hsz2]; omega))
        have f0 := blk_free hc5 (m * 4)
        have o1 : w5.cell? ⟨g, m * 4 + 1, none⟩ = some _ := (blk_cell hc5 (m * 4 + 1)).trans (Array.getElem?_eq_getElem (show m * 4 + 1 < _ by (try simp only [Array.size_setIfInBounds]); rw [hsz2]; omega))
        have f1 := blk_free hc5 (m * 4 + 1)
        have o2 : w5.cell? ⟨g, m * 4 + 2, none⟩ = some _ := (blk_cell hc5 (m * 4 + 2)).trans (Array.getElem?_eq_getElem (show m * 4 + 2 < _ by (try simp only [Array.size_setIfInBounds]); rw [hsz2]; omega))
        have f2 := blk_free hc5 (m * 4 + 2)
        have o3 : w5.cell? ⟨g, m * 4 + 3, none⟩ = some _ := (blk_cell hc5 (m * 4 + 3)).trans (Array.getElem?_eq_getElem (show m * 4 + 3 < _ by (try simp only [Array.size_setIfInBounds]); rw [hsz2]; omega))
        have f3 := blk_free hc5 (m * 4 + 3)
        have HBL := hide (blk_set (blk_set (blk_set (blk_set hc5 (m * 4) (.string (mtx (K)))) (m * 4 + 1) (.int .i64 ((K + 1 : Nat) : Int))) (m * 4 + 2) (.int .i64 ((K + 2 : Nat) : Int))) (m * 4 + 3) (.int .i64 ((K + 3 : Nat) : Int)))
        go_wp2_with fail
        go_roundw
        case rel => exact ⟨m + 1, K + 4, _, by go_num, by first | rfl | go_num, by omega, hide (by rw [HK.out]; omega), HBL, HPN, (World.grownBy.trans (World.grownBy.trans (World.grownBy.trans (World.grownBy.trans HG5 (grown_set _ g _ _)) (grown_set _ g _ _)) (grown_set _ g _ _)) (grown_set _ g _ _))⟩
        case measure => simp [intOf]; omega
      · obtain rfl : m = n := by omega
        have HO := Own.of_block fState (xs := mks mstate 4 k m) HC.out hbg HP.out.1 (mks_len _ _ _ _) hnc0 hcm0 (fun q x hq => by
          rcases Nat.lt_or_ge q m with h1 | h1
          · rw [mks_get _ _ _ _ _ h1] at hq
            obtain rfl := Option.some.inj hq
            exact HP.out.2 q h1
          · rw [List.getElem?_eq_none (by rw [mks_len]; exact h1)] at hq; simp at hq)
        go_wp2_with fail
        go_ret
        exact ⟨⟨K, HK.out, rfl⟩, HO, HG⟩

set_option maxRecDepth 100000 in
set_option maxHeartbeats 1000000 in
theorem heldStateS_calls (A : Option Addr) (c n k : Nat) (S : Nat → Prop) (w : World) (h : Sl kState w S A (mks mstate 4 k n)) (hk : k + 4 * n ≤ 1099511627776) :
    Calls Tryz.prog 52 #[.slice A n c, .int .i64 k] w fun e w' => (∃ k' : Nat, k' = k + 4 * n ∧ e = .returned (.int .i64 k')) ∧ Below w.heap.size w w' := by
  go_enter Tryz.func52, Tryz.ntmps52
  go_wp2_with fail
  go_loopw [1, 5] (fun j i wr => ∃ m K : Nat, i = .int .i64 m ∧ j = .int .i64 K ∧ m ≤ n ∧ Hid (K = k + 4 * m) ∧ Below w.heap.size w wr) (fun _ i _ => n - (intOf i).toNat)
  case atStart => exact ⟨0, k, rfl, rfl, by omega, hide (by omega), by (repeat (first | with_reducible exact Below.refl _ _ | with_reducible assumption | with_reducible refine Below.alloc ?_ (by first | exact Nat.le_refl _ | exact Below.size (by assumption) | exact Nat.le_trans (Below.size (by assumption)) (by simp; done) | (simp; done) | (simp; omega) | omega) _ | with_reducible refine below_drewN ?_ _ | with_reducible refine Below.drew ?_ | with_reducible refine Below.setCell ?_ (by first | exact Nat.le_refl _ | (simp; done) | (simp; omega) | omega) _))⟩
  case round =>
    obtain ⟨m, K, rfl, rfl, hm, HK, HB⟩ := hrel
    have hKb : K ≤ k + 4 * m := by have := HK.out; omega
    by_cases hlt : m < n
    · obtain ⟨ad, rfl, hc⟩ := (h.below HB).get (i := m) (by rw [mks_len]; exact hlt)
      have hg := mks_get mstate 4 k n m hlt
      rw [List.getElem?_eq_getElem (by rw [mks_len]; exact hlt)] at hg
      rw [Option.some.inj hg, ← HK.out] at hc
      obtain ⟨l0, l1, l2, l3⟩ := hc
      have e0 : wr.cell? (ad.add (m * 4)) = some (.string (mtx (K))) := l0.2
      have e1 : wr.cell? ⟨(ad.add (m * 4)).block, (ad.add (m * 4)).off + 1, none⟩ = some (.int .i64 (K + 1)) := by have := l1.2; rwa [add_pos _ _ (by omega)] at this
      have e2 : wr.cell? ⟨(ad.add (m * 4)).block, (ad.add (m * 4)).off + 2, none⟩ = some (.int .i64 (K + 2)) := by have := l2.2; rwa [add_pos _ _ (by omega)] at this
      have e3 : wr.cell? ⟨(ad.add (m * 4)).block, (ad.add (m * 4)).off + 3, none⟩ = some (.int .i64 (K + 3)) := by have := l3.2; rwa [add_pos _ _ (by omega)] at this
      clear l0 l1 l2 l3 hg h
      have hmt := fun (W : World) => markText_calls (K) W (by omega)
      have HMT := hide hmt
      have hadb : ad.block < wr.heap.size := by have := World.block_lt_of_cell? wr _ e0; rwa [block_add] at this
      clear hmt
      go_wp2_with fail
      go_region_held3 (fun w' => Below wr.heap.size wr w' ∧ w'.cell? (ad.add (m * 4)) = some (.string (mtx (K))) ∧ w'.cell? ⟨(ad.add (m * 4)).block, (ad.add (m * 4)).off + 1, none⟩ = some (.int .i64 (K + 1)) ∧ w'.cell? ⟨(ad.add (m * 4)).block, (ad.add (m * 4)).off + 2, none⟩ = some (.int .i64 (K + 2)) ∧ w'.cell? ⟨(ad.add (m * 4)).block, (ad.add (m * 4)).off + 3, none⟩ = some (.int .i64 (K + 3))) (first | exact ⟨Below.drew (Below.refl _ _), e0, e1, e2, e3⟩ | exact held_step4 (by assumption) (by assumption)) (first | (go_at_call 84; refine (HMT.out _).mono ?_; rintro e w1 ⟨rfl, hb1⟩))
      have hH := @id (Below wr.heap.size wr _ ∧ _) (by assumption)
      have HBN := below_then HB HB.size hH.1
      obtain ⟨_, _, _, _, _⟩ := hH
      go_wp2_with fail
      go_roundw
      case rel => exact ⟨m + 1, K + 4, by go_num, by first | rfl | go_num, by omega, hide (by rw [HK.out]; omega), HBN⟩
      case measure => simp [intOf]; omega
    · obtain rfl : m = n := by omega
      go_wp2_with fail
      go_ret
      exact ⟨⟨K, HK.out, rfl⟩, HB⟩
end Go.Proofs.YtkhlicmlnjccdaaGreatDoor
