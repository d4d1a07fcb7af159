/-
  Walk: the reference's decimal text of a number.
-/
import Derived.Test.YtkhlicmlnjccdaaDoorKd6
import Derived.Test.YtkhlicmlnjccdaaDoorKd4
import Derived.Deep.CutBlock
import Derived.Deep.DeepCutAuto
namespace Go.Proofs.YtkhlicmlnjccdaaDoor
open Go.RowKit Mem

namespace Mem
def fU8 : Flat Int := { kind := kU8, enc := fun s => [.int .u8 s], pos := Nat.one_pos, len := fun _ => rfl, one := fun _ u hu => by simp at hu; subst hu; rfl, of := fun hS h => ⟨hS, h 0 _ rfl⟩ }
end Mem
def decB (n : Nat) : List UInt8 := if n = 0 then [48] else digits n
def decT (n : Int) : Str := Nm.mk ((if n < 0 then [45] else []) ++ decB n.natAbs)
theorem info_u8 : (Tryd.prog.info? 5).map (fun i => (i.zero, i.size, i.bytes)) = some (some (.int .u8 0), 1, 1) := by kernel_rfl
def numB (xs : List Int) : List UInt8 := xs.map fun x => UInt8.ofNat x.toNat

theorem digits_lt : ∀ (k n : Nat), n < 10 ^ k → (digits n).length ≤ k
  | 0, n, h => by
    obtain rfl : n = 0 := by simpa using h
    rw [digits_zero]; simp
  | k + 1, n, h => by
    by_cases hz : n = 0
    · subst hz; rw [digits_zero]; simp
    · rw [digits_pos hz, List.length_append]
      have := digits_lt k (n / 10) (by rw [Nat.pow_succ] at h; omega)
      simp; omega
theorem tdiv_abs (x : Int) : (x.tdiv 10).natAbs = x.natAbs / 10 := by rw [Int.natAbs_tdiv]; rfl
theorem tmod_abs (x : Int) : (x.tmod 10).natAbs = x.natAbs % 10 := by rw [Int.natAbs_tmod]; rfl
theorem digits_step {x : Int} (h : x ≠ 0) : digits x.natAbs = digits (x.tdiv 10).natAbs ++ [UInt8.ofNat (48 + (x.tmod 10).natAbs)] := by
  rw [tdiv_abs, tmod_abs, digits_pos (by omega)]
theorem numB_cons (x : Int) (xs : List Int) : numB (x :: xs) = UInt8.ofNat x.toNat :: numB xs := rfl
theorem numB_append (xs ys : List Int) : numB (xs ++ ys) = numB xs ++ numB ys := by simp [numB]
theorem numB_len (xs : List Int) : (numB xs).length = xs.length := by simp [numB]
def sgn (n : Int) : List UInt8 := if n < 0 then [45] else []
theorem decT_eq {n : Int} (hz : n ≠ 0) : decT n = Nm.mk (sgn n ++ digits n.natAbs) := by
  unfold decT decB sgn
  rw [if_neg (show ¬ n.natAbs = 0 by omega)]

set_option maxRecDepth 100000 in
set_option maxHeartbeats 1000000 in
theorem l4decimal_calls (n : Int) (w : World) (h0 : -9223372036854775808 ≤ n) (h1 : n ≤ 9223372036854775807) : Calls Tryd.prog 64 #[.int .i64 n] w fun e w' => e = .returned (.string (decT n)) ∧ Below w.heap.size w w' := by
  by_cases hz : n = 0
  · subst hz
    go_enter Tryd.func64, Tryd.ntmps64
    go_wp2_with fail
    go_ret
    exact ⟨rfl, by (repeat (first | with_reducible exact Below.refl _ _ | with_reducible assumption | with_reducible refine Below.alloc ?_ (by first | exact Nat.le_refl _ | exact Below.size (by assumption) | exact Nat.le_trans (Below.size (by assumption)) (by simp; done) | (simp; done) | (simp; omega) | omega) _ | with_reducible refine below_drewN ?_ _ | with_reducible refine Below.drew ?_ | with_reducible refine Below.setCell ?_ (by first | exact Nat.le_refl _ | (simp; done) | (simp; omega) | omega) _))⟩
  have hzb : (n == 0) = false := by simpa using hz
  have HQ := hide (decT_eq hz)
  have hlen := digits_lt 19 n.natAbs (by omega)
  have HLEN := hide hlen
  clear hz hlen
  go_enter Tryd.func64, Tryd.ntmps64
  go_upto_block 0 with fail
  go_cut [4] (fun v wx => ∃ ds : List Int, Hid (digits n.natAbs = (numB ds).reverse) ∧ Own fU8 wx w.heap.size 5 v ds ∧ ds.length ≤ 19 ∧ Below w.heap.size w wx)
  case first =>
    go_wp2_with fail
    go_loopw [0, 4, 5] (fun t v _ wr => ∃ (x : Int) (ds : List Int), t = .int .i64 x ∧ -9223372036854775808 ≤ x ∧ x ≤ 9223372036854775807 ∧ Hid (digits n.natAbs = digits x.natAbs ++ (numB ds).reverse) ∧ Own fU8 wr w.heap.size 5 v ds ∧ Below w.heap.size w wr) (fun t _ _ _ => (intOf t).natAbs)
    case atStart => exact ⟨n, [], rfl, h0, h1, hide (by simp [numB]), Own.nil _ _ _, by (repeat (first | with_reducible exact Below.refl _ _ | with_reducible assumption | with_reducible refine Below.alloc ?_ (by first | exact Nat.le_refl _ | exact Below.size (by assumption) | exact Nat.le_trans (Below.size (by assumption)) (by simp; done) | (simp; done) | (simp; omega) | omega) _ | with_reducible refine below_drewN ?_ _ | with_reducible refine Below.drew ?_ | with_reducible refine Below.setCell ?_ (by first | exact Nat.le_refl _ | (simp; done) | (simp; omega) | omega) _))⟩
    case round =>
      obtain ⟨x, ds, rfl, hx0, hx1, HD, HO, HB⟩ := hrel
      have hdl : ds.length ≤ 19 := by
        have h2 := HLEN.out
        rw [HD.out, List.length_append, List.length_reverse, numB_len] at h2
        omega
      by_cases hxz : x = 0
      · subst hxz
        have HD2 := hide (show digits n.natAbs = (numB ds).reverse by rw [HD.out]; show digits 0 ++ _ = _; rw [digits_zero]; rfl)
        go_wp2_with fail
        go_meet
        exact ⟨ds, HD2, HO, hdl, HB⟩
      · have hxb : (x != 0) = true := by simpa using hxz
        have hds := digits_step hxz
        have hza := tdiv_abs x
        have hea := tmod_abs x
        obtain ⟨e, he⟩ : ∃ e, x.tmod 10 = e := ⟨_, rfl⟩
        obtain ⟨z, hzz⟩ : ∃ z, x.tdiv 10 = z := ⟨_, rfl⟩
        rw [he] at hds hea
        rw [hzz] at hds hza
        have he0 : -9 ≤ e := by omega
        have he1 : e ≤ 9 := by omega
        have hz0 : -9223372036854775808 ≤ z := by omega
        have hz1 : z ≤ 9223372036854775807 := by omega
        have hzx : z.natAbs < x.natAbs := by omega
        have HDS := hide hds
        have hxp : x ≠ 0 := hxz
        obtain ⟨A, c, hv, hc, hcm, _⟩ := HO.slV
        subst hv
        clear hds hza hea hxz hxp
        by_cases hen : e < 0
        · go_wp2_with (at_builtin; refine append_own_g fU8 w.heap.size rfl _ _ 35 5 (.int .u8 0) 1 rfl Tryd.underlying35 info_u8 rfl (by omega) (.slice A ds.length c) ds (48 + -e) #[.int .u8 (48 + -e)] rfl rfl wr.heap.size rfl rfl HO HB HB.size (by omega) ?_; intro v1 w5 hown hbel _ _)
          exact ⟨⟨z, _, rfl, hz0, hz1, hide (by rw [HD.out, HDS.out, numB_append, List.reverse_append, List.append_assoc]; congr 2; show [_] = [UInt8.ofNat (48 + -e).toNat]; rw [show (48 + -e).toNat = 48 + e.natAbs by omega]), hown, hbel⟩, hzx⟩
        · go_wp2_with (at_builtin; refine append_own_g fU8 w.heap.size rfl _ _ 35 5 (.int .u8 0) 1 rfl Tryd.underlying35 info_u8 rfl (by omega) (.slice A ds.length c) ds (48 + e) #[.int .u8 (48 + e)] rfl rfl wr.heap.size rfl rfl HO HB HB.size (by omega) ?_; intro v1 w5 hown hbel _ _)
          exact ⟨⟨z, _, rfl, hz0, hz1, hide (by rw [HD.out, HDS.out, numB_append, List.reverse_append, List.append_assoc]; congr 2; show [_] = [UInt8.ofNat (48 + e).toNat]; rw [show (48 + e).toNat = 48 + e.natAbs by omega]), hown, hbel⟩, hzx⟩
  case rest =>
    obtain ⟨ds, HD, HO, hdl, HB⟩ := hcut
    obtain ⟨A, c, hv, hc, hcm, hsl⟩ := HO.slV
    subst hv
    have hpos : 0 < ds.length := by
      rcases Nat.eq_zero_or_pos ds.length with h | h
      · have h2 := HD.out
        rw [List.eq_nil_of_length_eq_zero h] at h2
        have h3 := HQ.out
        have h4 : n.natAbs ≠ 0 := by
          intro e
          have : n = 0 := by omega
          rw [this] at hzb
          simp at hzb
        rw [digits_pos h4] at h2
        simp [numB] at h2
      · exact h
    have hstart : n < 0 → (⟨#[45]⟩ : Str) = Nm.mk (sgn n ++ (numB (ds.drop ds.length)).reverse) := fun h => by unfold sgn; rw [if_pos h, List.drop_length]; rfl
    have hstart2 : ¬ n < 0 → (⟨#[]⟩ : Str) = Nm.mk (sgn n ++ (numB (ds.drop ds.length)).reverse) := fun h => by unfold sgn; rw [if_neg h, List.drop_length]; rfl
    have HS1 := hide hstart
    have HS2 := hide hstart2
    have hposI : (1 : Int) ≤ ds.length := by omega
    clear hstart hstart2
    have hAne : ∃ ad, A = some ad := by
      obtain ⟨ad, hA, _⟩ := hsl.get hpos
      exact ⟨ad, hA⟩
    obtain ⟨ad, rfl⟩ := hAne
    have go : ∀ (k : Nat), k < ds.length → wc.cell? (ad.add k) = some (.int .u8 ds[k]!) := fun k hk => by
      obtain ⟨ad', hA, hc0⟩ := hsl.get hk
      injection hA with hA
      subst hA
      have h2 : wc.cell? (ad.add (k * 1)) = some (.int .u8 ds[k]) := hc0.2
      rw [Nat.mul_one] at h2
      rw [h2, getElem!_pos ds k hk]
    have hadb : ad.block < wc.heap.size := by
      have := World.block_lt_of_cell? _ _ (go 0 hpos)
      rwa [block_add] at this
    have GO := hide go
    clear go hsl
    by_cases hneg : n < 0
    all_goals
      go_wp2_with fail
      go_loopw [6, 7] (fun s i wx => ∃ (k : Nat) (t : Str), i = .int .i64 ((k : Int) - 1) ∧ k ≤ ds.length ∧ s = .string t ∧ Hid (t = Nm.mk (sgn n ++ (numB (ds.drop k)).reverse)) ∧ t.size ≤ 1 + (ds.length - k) ∧ Below wc.heap.size wc wx) (fun _ i _ => (intOf i + 1).toNat)
      case atStart => exact ⟨ds.length, _, rfl, by omega, rfl, (by first | exact hide (HS1.out hneg) | exact hide (HS2.out hneg)), by show _ ≤ 1 + (ds.length - ds.length); first | (show (1 : Nat) ≤ _; omega) | (show (0 : Nat) ≤ _; omega), Below.refl _ _⟩
      case round =>
        obtain ⟨k, t, rfl, hk, rfl, HT, hts, HB2⟩ := hrel
        rcases k with _ | j
        · have HQ2 := hide (show decT n = t by rw [HQ.out, HT.out, HD.out]; rfl)
          go_wp2_with fail
          go_ret
          exact ⟨ret_str HQ2.out.symm, below_then HB HB.size HB2⟩
        · have hj : j < ds.length := by omega
          have hcast : (((j + 1 : Nat) : Int) - 1) = (j : Int) := by omega
          have hjI : (j : Int) < ds.length := by omega
          have hcell := (HB2.cell (World.block_lt_of_cell? _ _ (GO.out j hj))).trans (GO.out j hj)
          have hdr : numB (ds.drop j) = UInt8.ofNat (ds[j]!).toNat :: numB (ds.drop (j + 1)) := by rw [List.drop_eq_getElem_cons hj, numB_cons, getElem!_pos ds j hj]
          have HDR := hide hdr
          generalize ds[j]! = x at hcell HDR
          have hkc := fun W : World => run_convert_bytes_arg (P := Tryd.prog) (W.alloc (Obj.cells #[.int .u8 x] 5)) 35 5 Tryd.underlying35 Tryd.underlying5 W.heap.size 0 1 1 [x] rfl (fun i hi => by
            obtain rfl : i = 0 := by omega
            exact blk_cell (heap_alloc_new W _) 0) 9 Tryd.underlying9
          have hk2 := fun W : World => run_string_add_sum (P := Tryd.prog) (w := W) t (strOfNums [x]) (by rw [strOfNums_size]; simp; omega)
          have HN := hide (show t ++ strOfNums [x] = Nm.mk (sgn n ++ (numB (ds.drop j)).reverse) by
            rw [HT.out, HDR.out]
            refine Nm.bs_inj ?_
            rw [Nm.bs_mk]
            simp [Nm.bs, Nm.mk, strOfNums])
          have hts2 : (t ++ strOfNums [x]).size ≤ 1 + (ds.length - j) := by rw [ByteArray.size_append, strOfNums_size]; simp; omega
          clear hdr
          simp only [hcast]
          go_wp2_with fail
          go_roundw
          case rel => exact ⟨j, _, rfl, by omega, rfl, HN, hts2, by (repeat (first | with_reducible exact Below.refl _ _ | with_reducible assumption | with_reducible refine Below.alloc ?_ (by first | exact Nat.le_refl _ | exact Below.size (by assumption) | exact Nat.le_trans (Below.size (by assumption)) (by simp; done) | (simp; done) | (simp; omega) | omega) _ | with_reducible refine below_drewN ?_ _ | with_reducible refine Below.drew ?_ | with_reducible refine Below.setCell ?_ (by first | exact Nat.le_refl _ | (simp; done) | (simp; omega) | omega) _))⟩
          case measure => simp [intOf]
end Go.Proofs.YtkhlicmlnjccdaaDoor
