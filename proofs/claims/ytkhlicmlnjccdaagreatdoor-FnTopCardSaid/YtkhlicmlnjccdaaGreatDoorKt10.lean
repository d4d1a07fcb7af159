/-
Walk: the reference's decimal text of a number.
Plain words on an answer: a report told in lines. No program in sight.
The tables that an answer is told by: the program's words, the library's powers of ten; decimal texts.
What the rows with two variables share: the tables out of what is laid, the world of the witness, the post.
A law's argument that is a slice of bytes, opened.
The reference's drawing: part, name, long, deep.
A row of bytes of one's own, as a text: append of a text, the text back. No program in sight.
-/
import Derived.Test.YtkhlicmlnjccdaaGreatDoorKt8
import Derived.Test.YtkhlicmlnjccdaaGreatDoorKt9
import Derived.Deep.CutBlock
import Derived.Deep.DeepCutAuto
import Derived.Test.YtkhlicmlnjccdaaGreatDoorKt7
import Derived.Below
import Derived.ChangeVars
import Derived.Lib.LaidTab
import Derived.Lib.ItoaNum
import Derived.SliceStrings
import Derived.Test.YtkhlicmlnjccdaaGreatDoorKt3
import Derived.OpenVars
import Derived.OpenShut
import Derived.Deep.DeepWitnessRowRef
import Derived.Test.YtkhlicmlnjccdaaGreatDoorKt1
import Derived.Lib.AppendStr
import Derived.Laws.BytesArg
namespace Go.Proofs.YtkhlicmlnjccdaaGreatDoor
open Go.RowKit Mem

namespace Mem
def fU8 : Flat Int := { kind := kU8, enc := fun s => [.int .u8 s], pos := Nat.one_pos, len := fun _ => rfl, one := fun _ u hu => by simp at hu; subst hu; rfl, of := fun hS h => ⟨hS, h 0 _ rfl⟩ }
end Mem
def decB (n : Nat) : List UInt8 := if n = 0 then [48] else digits n
def decT (n : Int) : Str := Nm.mk ((if n < 0 then [45] else []) ++ decB n.natAbs)
theorem info_u8 : (Tryz.prog.info? 5).map (fun i => (i.zero, i.size, i.bytes)) = some (some (.int .u8 0), 1, 1) := by kernel_rfl
def numB (xs : List Int) : List UInt8 := xs.map fun x => UInt8.ofNat x.toNat

theorem digits_lt : ∀ (k n : Nat), n < 10 ^ k → (digits n).length ≤ k
  | 0, n, h => by
    obtain rfl : n = 0 := by simpa using h
    rw [digits_zero]; simp
  | k + 1, n, h => by
    by_cases hz : n = 0
    · subst hz; rw [digits_zero]; simp
    · rw [digits_pos hz, List.length_append]
      have := digits_lt k (n / 10) (by rw [Nat.pow_succ] at h; omega)
      simp; omega
theorem tdiv_abs (x : Int) : (x.tdiv 10).natAbs = x.natAbs / 10 := by rw [Int.natAbs_tdiv]; rfl
theorem tmod_abs (x : Int) : (x.tmod 10).natAbs = x.natAbs % 10 := by rw [Int.natAbs_tmod]; rfl
theorem digits_step {x : Int} (h : x ≠ 0) : digits x.natAbs = digits (x.tdiv 10).natAbs ++ [UInt8.ofNat (48 + (x.tmod 10).natAbs)] := by
  rw [tdiv_abs, tmod_abs, digits_pos (by omega)]
theorem numB_cons (x : Int) (xs : List Int) : numB (x :: xs) = UInt8.ofNat x.toNat :: numB xs := rfl
theorem numB_append (xs ys : List Int) : numB (xs ++ ys) = numB xs ++ numB ys := by simp [numB]
theorem numB_len (xs : List Int) : (numB xs).length = xs.length := by simp [numB]
def sgn (n : Int) : List UInt8 := if n < 0 then [45] else []
theorem decT_eq {n : Int} (hz : n ≠ 0) : decT n = Nm.mk (sgn n ++ digits n.natAbs) := by
  unfold decT decB sgn
  rw [if_neg (show ¬ n.natAbs = 0 by omega)]

set_option maxRecDepth 100000 in
set_option maxHeartbeats 1000000 in
theorem l4decimal_calls (n : Int) (w : World) (h0 : -9223372036854775808 ≤ n) (h1 : n ≤ 9223372036854775807) : Calls Tryz.prog 32 #[.int .i64 n] w fun e w' => e = .returned (.string (decT n)) ∧ Below w.heap.size w w' := by
  by_cases hz : n = 0
  · subst hz
    go_enter Tryz.func32, Tryz.ntmps32
    go_wp2_with fail
    go_ret
    exact ⟨rfl, by (repeat (first | with_reducible exact Below.refl _ _ | with_reducible assumption | with_reducible refine Below.alloc ?_ (by first | exact Nat.le_refl _ | exact Below.size (by assumption) | exact Nat.le_trans (Below.size (by assumption)) (by simp; done) | (simp; done) | (simp; omega) | omega) _ | with_reducible refine below_drewN ?_ _ | with_reducible refine Below.drew ?_ | with_reducible refine Below.setCell ?_ (by first | exact Nat.le_refl _ | (simp; done) | (simp; omega) | omega) _))⟩
  have hzb : (n == 0) = false := by simpa using hz
  have HQ := hide (decT_eq hz)
  have hlen := digits_lt 19 n.natAbs (by omega)
  have HLEN := hide hlen
  clear hz hlen
  go_enter Tryz.func32, Tryz.ntmps32
  go_upto_block 0 with fail
  go_cut [4] (fun v wx => ∃ ds : List Int, Hid (digits n.natAbs = (numB ds).reverse) ∧ Own fU8 wx w.heap.size 5 v ds ∧ ds.length ≤ 19 ∧ Below w.heap.size w wx)
  case first =>
    go_wp2_with fail
    go_loopw [0, 4, 5] (fun t v _ wr => ∃ (x : Int) (ds : List Int), t = .int .i64 x ∧ -9223372036854775808 ≤ x ∧ x ≤ 9223372036854775807 ∧ Hid (digits n.natAbs = digits x.natAbs ++ (numB ds).reverse) ∧ Own fU8 wr w.heap.size 5 v ds ∧ Below w.heap.size w wr) (fun t _ _ _ => (intOf t).natAbs)
    case atStart => exact ⟨n, [], rfl, h0, h1, hide (by simp [numB]), Own.nil _ _ _, by (repeat (first | with_reducible exact Below.refl _ _ | with_reducible assumption | with_reducible refine Below.alloc ?_ (by first | exact Nat.le_refl _ | exact Below.size (by assumption) | exact Nat.le_trans (Below.size (by assumption)) (by simp; done) | (simp; done) | (simp; omega) | omega) _ | with_reducible refine below_drewN ?_ _ | with_reducible refine Below.drew ?_ | with_reducible refine Below.setCell ?_ (by first | exact Nat.le_refl _ | (simp; done) | (simp; omega) | omega) _))⟩
    case round =>
      obtain ⟨x, ds, rfl, hx0, hx1, HD, HO, HB⟩ := hrel
      have hdl : ds.length ≤ 19 := by
        have h2 := HLEN.out
        rw [HD.out, List.length_append, List.length_reverse, numB_len] at h2
        omega
      by_cases hxz : x = 0
      · subst hxz
        have HD2 := hide (show digits n.natAbs = (numB ds).reverse by rw [HD.out]; show digits 0 ++ _ = _; rw [digits_zero]; rfl)
        go_wp2_with fail
        go_meet
        exact ⟨ds, HD2, HO, hdl, HB⟩
      · have hxb : (x != 0) = true := by simpa using hxz
        have hds := digits_step hxz
        have hza := tdiv_abs x
        have hea := tmod_abs x
        obtain ⟨e, he⟩ : ∃ e, x.tmod 10 = e := ⟨_, rfl⟩
        obtain ⟨z, hzz⟩ : ∃ z, x.tdiv 10 = z := ⟨_, rfl⟩
        rw [he] at hds hea
        rw [hzz] at hds hza
        have he0 : -9 ≤ e := by omega
        have he1 : e ≤ 9 := by omega
        have hz0 : -9223372036854775808 ≤ z := by omega
        have hz1 : z ≤ 9223372036854775807 := by omega
        have hzx : z.natAbs < x.natAbs := by omega
        have HDS := hide hds
        have hxp : x ≠ 0 := hxz
        obtain ⟨A, c, hv, hc, hcm, _⟩ := HO.slV
        subst hv
        clear hds hza hea hxz hxp
        by_cases hen : e < 0
        · go_wp2_with (at_builtin; refine append_own_g fU8 w.heap.size rfl _ _ 22 5 (.int .u8 0) 1 rfl Tryz.underlying22 info_u8 rfl (by omega) (.slice A ds.length c) ds (48 + -e) #[.int .u8 (48 + -e)] rfl rfl wr.heap.size rfl rfl HO HB HB.size (by omega) ?_; intro v1 w5 hown hbel _ _)
          exact ⟨⟨z, _, rfl, hz0, hz1, hide (by rw [HD.out, HDS.out, numB_append, List.reverse_append, List.append_assoc]; congr 2; show [_] = [UInt8.ofNat (48 + -e).toNat]; rw [show (48 + -e).toNat = 48 + e.natAbs by omega]), hown, hbel⟩, hzx⟩
        · go_wp2_with (at_builtin; refine append_own_g fU8 w.heap.size rfl _ _ 22 5 (.int .u8 0) 1 rfl Tryz.underlying22 info_u8 rfl (by omega) (.slice A ds.length c) ds (48 + e) #[.int .u8 (48 + e)] rfl rfl wr.heap.size rfl rfl HO HB HB.size (by omega) ?_; intro v1 w5 hown hbel _ _)
          exact ⟨⟨z, _, rfl, hz0, hz1, hide (by rw [HD.out, HDS.out, numB_append, List.reverse_append, List.append_assoc]; congr 2; show [_] = [UInt8.ofNat (48 + e).toNat]; rw [show (48 + e).toNat = 48 + e.natAbs by omega]), hown, hbel⟩, hzx⟩
  case rest =>
    obtain ⟨ds, HD, HO, hdl, HB⟩ := hcut
    obtain ⟨A, c, hv, hc, hcm, hsl⟩ := HO.slV
    subst hv
    have hpos : 0 < ds.length := by
      rcases Nat.eq_zero_or_pos ds.length with h | h
      · have h2 := HD.out
        rw [List.eq_nil_of_length_eq_zero h] at h2
        have h3 := HQ.out
        have h4 : n.natAbs ≠ 0 := by
          intro e
          have : n = 0 := by omega
          rw [this] at hzb
          simp at hzb
        rw [digits_pos h4] at h2
        simp [numB] at h2
      · exact h
    have hstart : n < 0 → (⟨#[45]⟩ : Str) = Nm.mk (sgn n ++ (numB (ds.drop ds.length)).reverse) := fun h => by unfold sgn; rw [if_pos h, List.drop_length]; rfl
    have hstart2 : ¬ n < 0 → (⟨#[]⟩ : Str) = Nm.mk (sgn n ++ (numB (ds.drop ds.length)).reverse) := fun h => by unfold sgn; rw [if_neg h, List.drop_length]; rfl
    have HS1 := hide hstart
    have HS2 := hide hstart2
    have hposI : (1 : Int) ≤ ds.length := by omega
    clear hstart hstart2
    have hAne : ∃ ad, A = some ad := by
      obtain ⟨ad, hA, _⟩ := hsl.get hpos
      exact ⟨ad, hA⟩
    obtain ⟨ad, rfl⟩ := hAne
    have go : ∀ (k : Nat), k < ds.length → wc.cell? (ad.add k) = some (.int .u8 ds[k]!) := fun k hk => by
      obtain ⟨ad', hA, hc0⟩ := hsl.get hk
      injection hA with hA
      subst hA
      have h2 : wc.cell? (ad.add (k * 1)) = some (.int .u8 ds[k]) := hc0.2
      rw [Nat.mul_one] at h2
      rw [h2, getElem!_pos ds k hk]
    have hadb : ad.block < wc.heap.size := by
      have := World.block_lt_of_cell? _ _ (go 0 hpos)
      rwa [block_add] at this
    have GO := hide go
    clear go hsl
    by_cases hneg : n < 0
    all_goals
      go_wp2_with fail
      go_loopw [6, 7] (fun s i wx => ∃ (k : Nat) (t : Str), i = .int .i64 ((k : Int) - 1) ∧ k ≤ ds.length ∧ s = .string t ∧ Hid (t = Nm.mk (sgn n ++ (numB (ds.drop k)).reverse)) ∧ t.size ≤ 1 + (ds.length - k) ∧ Below wc.heap.size wc wx) (fun _ i _ => (intOf i + 1).toNat)
      case atStart => exact ⟨ds.length, _, rfl, by omega, rfl, (by first | exact hide (HS1.out hneg) | exact hide (HS2.out hneg)), by show _ ≤ 1 + (ds.length - ds.length); first | (show (1 : Nat) ≤ _; omega) | (show (0 : Nat) ≤ _; omega), Below.refl _ _⟩
      case round =>
        obtain ⟨k, t, rfl, hk, rfl, HT, hts, HB2⟩ := hrel
        rcases k with _ | j
        · have HQ2 := hide (show decT n = t by rw [HQ.out, HT.out, HD.out]; rfl)
          go_wp2_with fail
          go_ret
          exact ⟨ret_str HQ2.out.symm, below_then HB HB.size HB2⟩
        · have hj : j < ds.length := by omega
          have hcast : (((j + 1 : Nat) : Int) - 1) = (j : Int) := by omega
          have hjI : (j : Int) < ds.length := by omega
          have hcell := (HB2.cell (World.block_lt_of_cell? _ _ (GO.out j hj))).trans (GO.out j hj)
          have hdr : numB (ds.drop j) = UInt8.ofNat (ds[j]!).toNat :: numB (ds.drop (j + 1)) := by rw [List.drop_eq_getElem_cons hj, numB_cons, getElem!_pos ds j hj]
          have HDR := hide hdr
          generalize ds[j]! = x at hcell HDR
          have hkc := fun W : World => run_convert_bytes_arg (P := Tryz.prog) (W.alloc (Obj.cells #[.int .u8 x] 5)) 22 5 Tryz.underlying22 Tryz.underlying5 W.heap.size 0 1 1 [x] rfl (fun i hi => by
            obtain rfl : i = 0 := by omega
            exact blk_cell (heap_alloc_new W _) 0) 9 Tryz.underlying9
          have hk2 := fun W : World => run_string_add_sum (P := Tryz.prog) (w := W) t (strOfNums [x]) (by rw [strOfNums_size]; simp; omega)
          have HN := hide (show t ++ strOfNums [x] = Nm.mk (sgn n ++ (numB (ds.drop j)).reverse) by
            rw [HT.out, HDR.out]
            refine Nm.bs_inj ?_
            rw [Nm.bs_mk]
            simp [Nm.bs, Nm.mk, strOfNums])
          have hts2 : (t ++ strOfNums [x]).size ≤ 1 + (ds.length - j) := by rw [ByteArray.size_append, strOfNums_size]; simp; omega
          clear hdr
          simp only [hcast]
          go_wp2_with fail
          go_roundw
          case rel => exact ⟨j, _, rfl, by omega, rfl, HN, hts2, by (repeat (first | with_reducible exact Below.refl _ _ | with_reducible assumption | with_reducible refine Below.alloc ?_ (by first | exact Nat.le_refl _ | exact Below.size (by assumption) | exact Nat.le_trans (Below.size (by assumption)) (by simp; done) | (simp; done) | (simp; omega) | omega) _ | with_reducible refine below_drewN ?_ _ | with_reducible refine Below.drew ?_ | with_reducible refine Below.setCell ?_ (by first | exact Nat.le_refl _ | (simp; done) | (simp; omega) | omega) _))⟩
          case measure => simp [intOf]
end Go.Proofs.YtkhlicmlnjccdaaGreatDoor

namespace Go.Proofs.YtkhlicmlnjccdaaGreatDoor
namespace Ans
abbrev Bs := List UInt8
def kindW (k : Int) : Bs := ([[], [114, 101, 97, 100], [98, 101, 103, 105, 110], [115, 97, 121], [101, 110, 100], [102, 97, 105, 108], [99, 97, 116, 99, 104]] : List Bs).getD k.toNat []
def codeW (c : Int) : Bs := ([[], [110, 97, 109, 101], [97, 98, 115, 101, 110, 116], [98, 114, 111, 107, 101, 110], [114, 105, 110, 103], [102, 97, 105, 108, 101, 100], [116, 104, 114, 111, 119, 110], [100, 101, 101, 112]] : List Bs).getD c.toNat []
/-- whether a record's number is told -/
def tells (x : RecD) : Bool := decide (x.kind = 3) || decide (x.kind = 4) || (decide (x.code = 6) && decide (x.kind = 5))
/-- a record's words -/
def wordsOf (x : RecD) : List Bs := [kindW x.kind] ++ (if x.name = ⟨#[]⟩ then [] else [Nm.bs x.name]) ++ (if x.code = 0 then [] else [codeW x.code]) ++ (if tells x = true then [Nm.bs (decT x.num)] else [])
def line (x : RecD) : Bs := kindW x.kind ++ (if x.name = ⟨#[]⟩ then [] else 32 :: Nm.bs x.name) ++ (if x.code = 0 then [] else 32 :: codeW x.code) ++ (if tells x = true then 32 :: Nm.bs (decT x.num) else [])
def ringW : Bs := [114, 105, 110, 103]
def ringLine (r : List Str) : Bs := ringW ++ r.flatMap fun s => 32 :: Nm.bs s
def noWorld : Bs := [110, 111, 32, 119, 111, 114, 108, 100, 10]
def loadedW : Bs := [108, 111, 97, 100, 101, 100]
def notLoadedW : Bs := [110, 111, 116, 32, 108, 111, 97, 100, 101, 100, 58, 32]
def lastW (c : Int) : Bs := if c = 0 then loadedW else notLoadedW ++ codeW c
def recsText (l : List RecD) : Bs := l.flatMap fun x => line x ++ [10]
def ringsText (l : List (List Str)) : Bs := l.flatMap fun r => ringLine r ++ [10]
def text (r : Int × Ld.St) : Bs := if r.1 = -1 then noWorld else recsText r.2.recs ++ ringsText r.2.rings ++ (lastW r.1 ++ [10])
def answer (D : WorldD) (name : Str) : Str := Nm.mk (text (Ld.load D name))
theorem recsText_at {l : List RecD} {k : Nat} {x : RecD} (h : l[k]? = some x) : recsText (l.take (k + 1)) = recsText (l.take k) ++ (line x ++ [10]) := by
  have hl : k < l.length := by
    rcases Nat.lt_or_ge k l.length with h1 | h1
    · exact h1
    · rw [List.getElem?_eq_none h1] at h; cases h
  have hx : l[k] = x := by rw [List.getElem?_eq_getElem hl] at h; exact Option.some.inj h
  unfold recsText
  rw [List.take_succ_eq_append_getElem hl, hx, List.flatMap_append]
  simp
theorem ringsText_at {l : List (List Str)} {k : Nat} {x : List Str} (h : l[k]? = some x) : ringsText (l.take (k + 1)) = ringsText (l.take k) ++ (ringLine x ++ [10]) := by
  have hl : k < l.length := by
    rcases Nat.lt_or_ge k l.length with h1 | h1
    · exact h1
    · rw [List.getElem?_eq_none h1] at h; cases h
  have hx : l[k] = x := by rw [List.getElem?_eq_getElem hl] at h; exact Option.some.inj h
  unfold ringsText
  rw [List.take_succ_eq_append_getElem hl, hx, List.flatMap_append]
  simp
/-- words with a blank between -/
theorem join_snoc (ps : List Bs) (p : Bs) (h : ps ≠ []) : Lib.join (ps ++ [p]) [32] = Lib.join ps [32] ++ 32 :: p := by
  unfold Lib.join
  induction ps with
  | nil => exact absurd rfl h
  | cons a r ih =>
    cases r with
    | nil => simp [List.intercalate, List.intersperse]
    | cons b t =>
      have := ih (by simp)
      simp only [List.intercalate, List.cons_append, List.intersperse_cons_cons, List.flatten_cons] at this ⊢
      rw [this]; simp
theorem join_line (x : RecD) : Lib.join (wordsOf x) [32] = line x := by
  have step : ∀ (ps : List Bs) (c : Prop) [Decidable c] (p : Bs), ps ≠ [] → Lib.join (ps ++ if c then [] else [p]) [32] = Lib.join ps [32] ++ (if c then [] else 32 :: p) ∧ (ps ++ if c then [] else [p]) ≠ [] := fun ps c _ p h => by
    by_cases hc : c
    · simp [hc, h]
    · simp only [if_neg hc]; exact ⟨join_snoc ps p h, by simp⟩
  have h1 := step [kindW x.kind] (x.name = ⟨#[]⟩) (Nm.bs x.name) (by simp)
  have h2 := step _ (x.code = 0) (codeW x.code) h1.2
  have h3 : ∀ (ps : List Bs), ps ≠ [] → Lib.join (ps ++ if tells x = true then [Nm.bs (decT x.num)] else []) [32] = Lib.join ps [32] ++ (if tells x = true then 32 :: Nm.bs (decT x.num) else []) := fun ps h => by
    by_cases hc : tells x = true
    · rw [if_pos hc, if_pos hc]; exact join_snoc ps _ h
    · rw [if_neg hc, if_neg hc]; simp
  unfold wordsOf line
  rw [h3 _ h2.2, h2.1, h1.1, Lib.join_one]
theorem kindW_len (k : Int) : (kindW k).length ≤ 5 := by
  unfold kindW
  rcases k.toNat with _ | _ | _ | _ | _ | _ | _ | i <;> simp
theorem codeW_len (c : Int) : (codeW c).length ≤ 6 := by
  unfold codeW
  rcases c.toNat with _ | _ | _ | _ | _ | _ | _ | _ | i <;> simp
/-- a number of 64 bits -/
def In64 (n : Int) : Prop := -9223372036854775808 ≤ n ∧ n ≤ 9223372036854775807
theorem decT_len {n : Int} (h : In64 n) : (Nm.bs (decT n)).length ≤ 20 := by
  unfold In64 at h
  unfold decT
  rw [Nm.bs_mk, List.length_append]
  have h1 : (decB n.natAbs).length ≤ 19 := by
    unfold decB
    split
    · simp
    · exact digits_lt 19 _ (by omega)
  split <;> simp <;> omega
theorem line_len {x : RecD} (hn : x.name.size ≤ 60) (hm : In64 x.num) : (line x).length ≤ 100 := by
  have h1 := kindW_len x.kind
  have h2 := codeW_len x.code
  have h3 := decT_len hm
  have h4 := Nm.bs_length x.name
  unfold line
  simp only [List.length_append]
  split <;> split <;> split <;> simp only [List.length_nil, List.length_cons] <;> omega
theorem recsText_len : ∀ {l : List RecD}, (∀ x ∈ l, x.name.size ≤ 60 ∧ In64 x.num) → (recsText l).length ≤ 101 * l.length
  | [], _ => by simp [recsText]
  | x :: r, h => by
    have h1 := line_len (h x (by simp)).1 (h x (by simp)).2
    have h2 := recsText_len (l := r) (fun y hy => h y (List.mem_cons_of_mem _ hy))
    unfold recsText at h2 ⊢
    rw [List.flatMap_cons, List.length_append, List.length_append, List.length_cons]
    simp only [List.length_cons, List.length_nil]
    omega
theorem flat_len : ∀ {r : List Str}, (∀ x ∈ r, x.size ≤ 60) → (r.flatMap fun s => 32 :: Nm.bs s).length ≤ 61 * r.length
  | [], _ => by simp
  | x :: r, h => by
    have h1 := h x (by simp)
    have h2 := flat_len (r := r) (fun y hy => h y (List.mem_cons_of_mem _ hy))
    rw [List.flatMap_cons, List.length_append, List.length_cons, Nm.bs_length, List.length_cons]
    omega
theorem ringsText_len : ∀ {l : List (List Str)}, (∀ r ∈ l, r.length ≤ 40 ∧ ∀ x ∈ r, x.size ≤ 60) → (ringsText l).length ≤ 2445 * l.length
  | [], _ => by simp [ringsText]
  | r :: l, h => by
    have h0 := (h r (by simp)).1
    have h1 := flat_len (h r (by simp)).2
    have h2 := ringsText_len (l := l) (fun y hy => h y (List.mem_cons_of_mem _ hy))
    have h3 : (ringLine r).length = 4 + (r.flatMap fun s => 32 :: Nm.bs s).length := by unfold ringLine ringW; simp; omega
    unfold ringsText at h2 ⊢
    rw [List.flatMap_cons, List.length_append, List.length_append, List.length_cons]
    simp only [List.length_cons, List.length_nil]
    omega
end Ans
end Go.Proofs.YtkhlicmlnjccdaaGreatDoor

namespace Go.Proofs.YtkhlicmlnjccdaaGreatDoor
open Go.RowKit Mem Go.ChangeShapes
theorem decB_eq : ∀ n : Nat, decB n = Lib.decDigits n := by
  intro n
  induction n using Nat.strongRecOn with
  | _ n ih =>
    unfold Lib.decDigits
    by_cases hz : n = 0
    · subst hz; rfl
    · by_cases h : n < 10
      · rw [dif_pos h]
        unfold decB
        rw [if_neg hz, digits_pos hz, show n / 10 = 0 by omega, digits_zero, show n % 10 = n by omega]; rfl
      · rw [dif_neg h, ← ih (n / 10) (by omega)]
        unfold decB
        rw [if_neg hz, if_neg (show ¬ n / 10 = 0 by omega), digits_pos hz]
theorem decT_itoa (n : Int) : decT n = ⟨(Lib.itoa n).toArray⟩ := by
  unfold decT Lib.itoa Nm.mk
  by_cases h : n < 0
  · rw [if_pos h, if_pos h, decB_eq]; rfl
  · rw [if_neg h, if_neg h, decB_eq, show n.toNat = n.natAbs by omega]; rfl
namespace Ans
def kindWs : List Bs := [[], [114, 101, 97, 100], [98, 101, 103, 105, 110], [115, 97, 121], [101, 110, 100], [102, 97, 105, 108], [99, 97, 116, 99, 104]]
def codeWs : List Bs := [[], [110, 97, 109, 101], [97, 98, 115, 101, 110, 116], [98, 114, 111, 107, 101, 110], [114, 105, 110, 103], [102, 97, 105, 108, 101, 100], [116, 104, 114, 111, 119, 110], [100, 101, 101, 112]]
theorem kindWs_at {k : Nat} (h : k < 7) : kindWs[k]? = some (kindW k) := by
  rcases k with _ | _ | _ | _ | _ | _ | _ | k <;> first | rfl | omega
theorem codeWs_at {k : Nat} (h : k < 8) : codeWs[k]? = some (codeW k) := by
  rcases k with _ | _ | _ | _ | _ | _ | _ | _ | k <;> first | rfl | omega
end Ans
/-- a row of words in the cell of a variable -/
def WordsAt (w : World) (g : Nat) (ws : List Ans.Bs) : Prop := ∃ a : Addr, w.cell? ⟨g, 0, none⟩ = some (.slice (some a) ws.length ws.length) ∧ ∀ (i : Nat) l, ws[i]? = some l → w.cell? (a.add i) = some (.string (Nm.mk l))
theorem WordsAt.below {w w' : World} {g : Nat} {ws : List Ans.Bs} (h : WordsAt w g ws) (hb : Below w.heap.size w w') : WordsAt w' g ws := by
  obtain ⟨a, h1, h2⟩ := h
  exact ⟨a, (hb.cell (World.block_lt_of_cell? _ _ h1)).trans h1, fun i l hi => (hb.cell (World.block_lt_of_cell? _ _ (h2 i l hi))).trans (h2 i l hi)⟩
structure Tabs (w : World) : Prop where
  kinds : WordsAt w 0 Ans.kindWs
  words : WordsAt w 1 Ans.codeWs
  pow : Lib.TabIs Tryz.prog w "internal/strconv.uint64pow10" .u64 Lib.pow10Tab
theorem pow_named : Tryz.prog.globalNamed "internal/strconv.uint64pow10" = some 2 := by kernel_rfl
theorem Tabs.below {w w' : World} (h : Tabs w) (hb : Below w.heap.size w w') : Tabs w' := ⟨h.kinds.below hb, h.words.below hb, by
  have h1 := h.pow
  unfold Lib.TabIs World.var? at h1 ⊢
  rw [pow_named] at h1 ⊢
  simp only [Option.bind_some] at h1 ⊢
  have hg : 2 < w.heap.size := by
    cases hh : w.heap[2]? with
    | none => rw [hh] at h1; cases h1
    | some o => exact (Array.getElem?_eq_some_iff.1 hh).1
  rw [hb.block _ hg]; exact h1⟩
end Go.Proofs.YtkhlicmlnjccdaaGreatDoor

namespace Go.Proofs.YtkhlicmlnjccdaaGreatDoor
open Go.ChangeShapes Go.WideShapes Go.ChangeAt Go.RowKit
theorem laid_plain {P : Program} {laid : List (String × DataW Unit)} {w : World} (h : (laid.filter fun x => x.2.handleName?.isSome) = []) (hm : laidMetH P laid w) : laidMet P laid w := by
  unfold laidMetH at hm
  rw [h] at hm
  exact hm
theorem laid_at {P : Program} {W : World} : ∀ {laid : List (String × DataW Unit)} {ps : List MemPlace}, DataW.LaidVars P W laid ps → ∀ {n : String} {d : DataW Unit}, (n, d) ∈ laid →
    ∃ g t cs fuel p, P.globalNamed n = some g ∧ (P.globals[g]?).map (·.type) = some t ∧ W.var? P n = some cs ∧ DataW.trod (fun _ => ()) P W 0 (fun _ => true) false fuel t cs.toList = some (d, p)
  | [], _, _, n, d, hm => by simp at hm
  | (n0, d0) :: r, ps, h, n, d, hm => by
    obtain ⟨g, t, cs, fuel, p, q, h1, h2, h3, h4, h5, _⟩ := h
    rcases List.mem_cons.1 hm with e | hm
    · cases e; exact ⟨g, t, cs, fuel, p, h1, h2, h3, h4⟩
    · exact laid_at h5 hm
theorem strs_laid {W : World} {fuel : Nat} {cs : List Value} {ws : List Ans.Bs} {p : List MemPlace} (h : DataW.trod (fun _ => ()) Tryz.prog W 0 (fun _ => true) false fuel 23 cs = some (.slice (ws.map fun l => .lit (.string l)) [], p)) :
    ∃ a : Addr, cs = [.slice (some a) ws.length ws.length] ∧ ∀ (i : Nat) l, ws[i]? = some l → W.cell? (a.add i) = some (.string (Nm.mk l)) := by
  rcases open_strings Tryz.underlying23 Tryz.underlying9 (by kernel_rfl) h with ⟨_, hx⟩ | ⟨a, len, cap, ss, hcs, _, hl, _, hlen, hx, hcell, _⟩
  · cases hx
  · rw [if_pos rfl] at hlen
    injection hx with h1 _
    injection h1 with h1 h2
    have hd : (ss.drop len).length = 0 := by
      have := congrArg List.length h2
      simpa [strs] using this.symm
    rw [List.length_drop] at hd
    have hss : ss.take len = ss := List.take_of_length_le (by omega)
    rw [hss] at h1
    have hwl : ws.length = ss.length := by have := congrArg List.length h1; simpa [strs] using this
    obtain rfl : len = cap := by omega
    refine ⟨a, by rw [hcs, hwl, hlen], fun i l hi => ?_⟩
    have hil : i < ss.length := by rw [← hwl]; exact (List.getElem?_eq_some_iff.1 hi).1
    have hc := hcell i hil
    have h3 := congrArg (·[i]?) h1
    simp only [strs, List.getElem?_map, hi, Option.map_some, List.getElem?_eq_getElem hil] at h3
    injection h3 with h3
    injection h3 with h3
    injection h3 with h3
    rw [hc, List.getD_eq_getElem?_getD, List.getElem?_eq_getElem hil, h3]
    rfl
theorem words_laid {W : World} {laid : List (String × DataW Unit)} {ps : List MemPlace} (hl : DataW.LaidVars Tryz.prog W laid ps) {n : String} {ws : List Ans.Bs} {g : Nat} (hm : (n, DataW.slice (ws.map fun l => .lit (.string l)) []) ∈ laid) (hg : Tryz.prog.globalNamed n = some g) (ht : (Tryz.prog.globals[g]?).map (·.type) = some 23) : WordsAt W g ws := by
  obtain ⟨g', t, cs, fuel, p, h1, h2, h3, h4⟩ := laid_at hl hm
  obtain rfl := Option.some.inj (hg.symm.trans h1)
  obtain rfl := Option.some.inj (ht.symm.trans h2)
  obtain ⟨a, hcs, hx⟩ := strs_laid h4
  refine ⟨a, ?_, hx⟩
  have := World.var?_cell h1 h3 0
  obtain ⟨l⟩ := cs
  obtain rfl : l = _ := hcs
  simpa using this
theorem pow_laid {W : World} {laid : List (String × DataW Unit)} {ps : List MemPlace} (hl : DataW.LaidVars Tryz.prog W laid ps) (hm : ("internal/strconv.uint64pow10", Lib.tabData .u64 Lib.pow10Tab) ∈ laid) : Lib.TabIs Tryz.prog W "internal/strconv.uint64pow10" .u64 Lib.pow10Tab := by
  obtain ⟨g', t, cs, fuel, p, h1, h2, h3, h4⟩ := laid_at hl hm
  obtain rfl := Option.some.inj (pow_named.symm.trans h1)
  obtain rfl := Option.some.inj ((show (Tryz.prog.globals[2]?).map (·.type) = some 167 by kernel_rfl).symm.trans h2)
  unfold Lib.TabIs
  rw [h3, ← Lib.cells_of_tab (n := 20) Tryz.underlying167 Tryz.underlying58 (by kernel_rfl) (by kernel_rfl) h4]
/-- what the three rows lay -/
def laidV : List (String × DataW Unit) := Rows.fnTopRow.laid
theorem tabs_of {W : World} (h : laidMetH Tryz.prog laidV W) : Tabs W := by
  obtain ⟨ps, hl, _, _⟩ := laid_plain (by kernel_rfl) h
  exact ⟨words_laid hl (n := "loop.example/bobbin/impl.kinds") (List.mem_of_getElem? (i := 5) (by kernel_rfl)) (by kernel_rfl) (by kernel_rfl), words_laid hl (n := "loop.example/bobbin/impl.words") (List.mem_of_getElem? (i := 4) (by kernel_rfl)) (by kernel_rfl) (by kernel_rfl), pow_laid hl (List.mem_of_getElem? (i := 2) (by kernel_rfl))⟩
/-- A WORLD FOR THE WITNESS: the settled one, the tables holding what their initialisers lay -/
noncomputable def laidWorldV (os : Os) : World :=
  { World.holding Tryz.prog os ⟨#[], #[], []⟩ with heap := ((((((((((World.holding Tryz.prog os ⟨#[], #[], []⟩).heap.modify 7 (lay (tabCells Rows.laid_unicode_utf8_acceptRanges))).modify 6 (lay (tabCells Rows.laid_unicode_utf8_first))).modify 4 (lay (tabCells Rows.laid_math_bits_deBruijn32tab))).modify 5 (lay (tabCells Rows.laid_math_bits_deBruijn64tab))).modify 2 (lay (tabCells Rows.laid_internal_strconv_uint64pow10))).modify 1 (lay [.slice (some ⟨(World.holding Tryz.prog os ⟨#[], #[], []⟩).heap.size, 0, none⟩) 8 8])).modify 0 (lay [.slice (some ⟨(World.holding Tryz.prog os ⟨#[], #[], []⟩).heap.size + 1, 0, none⟩) 7 7])).push (.cells (Ans.codeWs.map fun l => Value.string (Nm.mk l)).toArray 9 (0, 0))).push (.cells (Ans.kindWs.map fun l => Value.string (Nm.mk l)).toArray 9 (0, 0))) }
section
variable {H : Type} {enc : TypeId × Value → H} {P : Program}
theorem law_postV {f : Func} {s : ChangeSpec} {W W' : World} {args : Array Value} {ds gs : List (DataW H)} {before : List MemPlace} {tb : TypeId}
    (hl : laidOutB P = true) (hr : f.params.toList.all (fun t => P.readableRec t && decide (t < P.types.size)) = true) (hvr : varsRowed P s.vars = true) (hres : f.resultTypes = #[tb]) (htb : P.underlying tb = some .bool)
    (hW : DataW.Whole enc P f.params.toList s.vars false W args.toList ds gs before) (hb : Below W.heap.size W W')
    (h1 : (s.fn H (ds ++ gs)).results = [.lit (.bool true)]) (h2 : (s.fn H (ds ++ gs)).args = ds) (h3 : (s.fn H (ds ++ gs)).vars = gs) :
    s.post enc P f false true false false W args (.bool true) W' := by
  have hlt : ∀ p ∈ before, p.block < W.heap.size := fun p hp => hW.lt p hp
  have hW' := hW
  obtain ⟨p, q, hA, hV, rfl, hz, hn⟩ := hW
  refine ⟨ds, gs, p ++ q, [], p, q, hW', ?_, ?_, ?_, World.keptBut_mono (fun x hx => ⟨hx, Or.inr (List.mem_append.1 hx)⟩) (hb.frame (· ∈ p ++ q)), fun h => by cases h⟩
  · rw [h1, hres]
    exact trodAll_mk1 (shut_bool htb _)
  · rw [h2]
    exact trodAll_below hl hb _ _ _ _ hr hA (fun x hx => hlt x (List.mem_append_left _ hx))
  · rw [h3]
    exact Below.trodVars hl hb hvr hV
theorem vars_two {w : World} {spare : Nat → Bool} {n0 n1 : String} {gs : List (DataW H)} {ps : List MemPlace} (h : DataW.TrodVars enc P w spare [n0, n1] gs ps) : ∃ d0 d1, gs = [d0, d1] := by
  obtain ⟨_, _, _, _, d0, _, _, _, _, _, d1, _, rfl, _⟩ := trodVars_two h
  exact ⟨d0, d1, rfl⟩
end
end Go.Proofs.YtkhlicmlnjccdaaGreatDoor

namespace Go.Proofs.YtkhlicmlnjccdaaGreatDoor
open Go.ChangeShapes Go.WideShapes Go.ChangeAt Go.RowKit
open Mem in
/-- an argument that is a slice of bytes -/
theorem bytes_open {H : Type} {enc : TypeId × Value → H} {W : World} {d : DataW H} {p : List MemPlace} {a : Option Addr} {len cap : Nat} {spare : Nat → Bool} (h : DataW.Trod enc Tryz.prog W 0 spare true 22 (.slice a len cap) d p) :
    ∃ zs : List Int, Sl kU8 W (fun _ => True) a zs ∧ zs.length = len ∧ (∀ z ∈ zs, 0 ≤ z ∧ z ≤ 255) ∧ len ≤ maxLen := by
  obtain ⟨fuel, hf⟩ := h
  rcases open_ints Tryz.underlying22 Tryz.underlying5 (by kernel_rfl) hf with ⟨hcs, hx⟩ | ⟨a', len', cap', ss, hcs, _, hl, hm, hlen, hx, hcell, hws⟩
  · have hcs' : [Value.slice a len cap] = [.slice none 0 0] := hcs
    injection hcs' with hcs' _
    injection hcs' with h1 h2 h3
    subst h1 h2 h3
    exact ⟨[], Sl.nil, rfl, fun s hs => by simp at hs, Nat.zero_le _⟩
  · have hcs' : [Value.slice a len cap] = [.slice (some a') len' cap'] := hcs
    injection hcs' with hcs' _
    injection hcs' with h1 h2 h3
    subst h1 h2 h3
    have hle : len ≤ ss.length := by rw [hlen]; split <;> omega
    refine ⟨ss.take len, fun hne => ⟨a', rfl, fun i x hi => ?_⟩, by rw [List.length_take]; omega, fun s hs => ?_, by omega⟩
    · have hil : i < len := by
        rcases Nat.lt_or_ge i len with h | h
        · exact h
        · rw [List.getElem?_eq_none (by rw [List.length_take]; omega)] at hi; simp at hi
      have hc := hcell i (by omega)
      rw [List.getElem?_take, if_pos hil] at hi
      refine ⟨trivial, ?_⟩
      rw [show i * kU8.size = i from Nat.mul_one i, hc, List.getD_eq_getElem?_getD, hi]; rfl
    · have := hws s (List.mem_of_mem_take hs)
      simp [Lit.wf] at this
      have h1 : IntKind.u8.min = 0 := by decide
      have h2 : IntKind.u8.max = 255 := by decide
      omega
end Go.Proofs.YtkhlicmlnjccdaaGreatDoor

namespace Go.Proofs.YtkhlicmlnjccdaaGreatDoor
open Go.RowKit Mem

def partList : List Str := [⟨#[97]⟩, ⟨#[98]⟩, ⟨#[99]⟩, ⟨#[108, 105, 98]⟩, ⟨#[120, 45, 49]⟩, ⟨#[95]⟩]
def Cur.part (c : Cur) : Str × Cur := (partList.getD (c.pick 6).1 ⟨#[]⟩, (c.pick 6).2)
/-- what a drawing may do to its cursor -/
structure Cur.Ok (c c' : Cur) (k : Nat) : Prop where
  pos : c'.pos ≤ c.pos + k
  code : c'.code = c.code
theorem Cur.Ok.refl (c : Cur) : c.Ok c 0 := ⟨Nat.le_refl _, rfl⟩
theorem Cur.Ok.then {a b c : Cur} {k m : Nat} (h : a.Ok b k) (h2 : b.Ok c m) : a.Ok c (k + m) := ⟨by have := h.pos; have := h2.pos; omega, h2.code.trans h.code⟩
theorem Cur.Ok.more {a b : Cur} {k m : Nat} (h : a.Ok b k) (hm : k ≤ m) : a.Ok b m := ⟨by have := h.pos; omega, h.code⟩
def Cur.Bytes (c : Cur) : Prop := ∀ x ∈ c.code, 0 ≤ x ∧ x ≤ 255
theorem Cur.Ok.bytes {a b : Cur} {k : Nat} (h : a.Ok b k) (hb : a.Bytes) : b.Bytes := by unfold Cur.Bytes; rw [h.code]; exact hb
theorem pick_ok (c : Cur) (m : Nat) (h : c.Bytes) : c.Ok (c.pick m).2 2 := ⟨(pick_small c m h).2.1, (pick_small c m h).2.2⟩
theorem pick_lt (c : Cur) (m : Nat) (h : c.Bytes) (hm : 0 < m) : (c.pick m).1 < m := (pick_small c m h).1 hm
theorem partList_size (i : Nat) : (partList.getD i ⟨#[]⟩).size ≤ 3 := by
  rcases i with _ | _ | _ | _ | _ | _ | i
  all_goals first | decide | (show (⟨#[]⟩ : Str).size ≤ 3; decide)
theorem part_ok (c : Cur) (h : c.Bytes) : c.Ok c.part.2 2 ∧ c.part.1.size ≤ 3 := ⟨pick_ok c 6 h, partList_size _⟩

set_option maxHeartbeats 400000 in
theorem part_calls (w : World) (g n cp : Nat) (A : Option Addr) (c : Cur) (h : CurAt w g A n cp c) (hp : c.pos ≤ 1073741800) :
    Calls Tryz.prog 65 #[.pointer (some ⟨g, 0, none⟩)] w (RetCur w g A n cp (.string c.part.1) c.part.2) := by
  have hb0 : Below w.heap.size w (w.alloc (Obj.cells (partList.map Value.string).toArray 9)) := by (repeat (first | with_reducible exact Below.refl _ _ | with_reducible assumption | with_reducible refine Below.alloc ?_ (by first | exact Nat.le_refl _ | exact Below.size (by assumption) | exact Nat.le_trans (Below.size (by assumption)) (by simp; done) | (simp; done) | (simp; omega) | omega) _ | with_reducible refine below_drewN ?_ _ | with_reducible refine Below.drew ?_ | with_reducible refine Below.setCell ?_ (by first | exact Nat.le_refl _ | (simp; done) | (simp; omega) | omega) _))
  have hc := pick_calls _ g n cp 6 A c (h.below hb0) hp (by omega)
  have hlt := pick_lt c 6 h.small (by omega)
  have hgl := h.lt
  have hq : c.part = (partList.getD (c.pick 6).1 ⟨#[]⟩, (c.pick 6).2) := rfl
  rw [hq]
  generalize (c.pick 6).1 = r at hc hlt ⊢
  generalize (c.pick 6).2 = c1 at hc ⊢
  generalize hpp : partList.getD r ⟨#[]⟩ = p
  have HP := hide hpp
  have HC := hide hc
  clear hc hq hpp
  go_enter Tryz.func65, Tryz.ntmps65
  go_wp2_with fail
  refine (unhide HC).mono ?_
  rintro e w1 ⟨rfl, hc1⟩
  have hblk := (hc1.2.block w.heap.size (by simp) (fun e => by have := Option.some.inj e; omega)).trans (heap_alloc_new w _)
  have hcell : w1.cell? ⟨w.heap.size, r, none⟩ = some (.string p) := by
    rw [blk_cell hblk r, ← HP.out]
    rcases r with _ | _ | _ | _ | _ | _ | r
    all_goals first | rfl | (exfalso; omega)
  have hto : CurTo w w1 g A n cp c1 := ⟨hc1.1, World.grownBy.trans (World.grownBy_alloc w _ _) hc1.2⟩
  clear hblk hb0 hc1 HC
  go_wp2_with fail
  go_ret
  exact ⟨rfl, hto⟩

def Cur.nameLoop : Nat → Str → Cur → Str × Cur
  | 0, s, c => (s, c)
  | k + 1, s, c => Cur.nameLoop k (s ++ (⟨#[47]⟩ ++ c.part.1)) c.part.2
def Cur.name (c : Cur) : Str × Cur := Cur.nameLoop (c.part.2.pick 3).1 c.part.1 (c.part.2.pick 3).2
theorem nameLoop_ok : ∀ (k : Nat) (s : Str) (c : Cur), c.Bytes → c.Ok (Cur.nameLoop k s c).2 (2 * k) ∧ (Cur.nameLoop k s c).1.size ≤ s.size + 4 * k
  | 0, s, c, _ => ⟨Cur.Ok.refl c, Nat.le_refl _⟩
  | k + 1, s, c, h => by
    have hp := part_ok c h
    have ih := nameLoop_ok k (s ++ (⟨#[47]⟩ ++ c.part.1)) c.part.2 (hp.1.bytes h)
    have h47 : (⟨#[47]⟩ : Str).size = 1 := rfl
    rw [ByteArray.size_append, ByteArray.size_append, h47] at ih
    exact ⟨(hp.1.then ih.1).more (by omega), by have := ih.2; have := hp.2; unfold Cur.nameLoop; omega⟩
theorem name_ok (c : Cur) (h : c.Bytes) : c.Ok c.name.2 8 ∧ c.name.1.size ≤ 11 := by
  have hp := part_ok c h
  have h2 := pick_ok c.part.2 3 (hp.1.bytes h)
  have hl := pick_lt c.part.2 3 (hp.1.bytes h) (by omega)
  have h3 := nameLoop_ok (c.part.2.pick 3).1 c.part.1 (c.part.2.pick 3).2 (h2.bytes (hp.1.bytes h))
  exact ⟨((hp.1.then h2).then h3.1).more (by omega), by have := h3.2; have := hp.2; unfold Cur.name; omega⟩

set_option maxHeartbeats 400000 in
theorem name_calls (w : World) (g n cp : Nat) (A : Option Addr) (c : Cur) (h : CurAt w g A n cp c) (hp : c.pos ≤ 1073741000) :
    Calls Tryz.prog 63 #[.pointer (some ⟨g, 0, none⟩)] w (RetCur w g A n cp (.string c.name.1) c.name.2) := by
  have hc1 := part_calls w g n cp A c h (by omega)
  have hp1 := part_ok c h.small
  have hc2 := fun (W : World) (h : CurAt W g A n cp c.part.2) => pick_calls W g n cp 3 A c.part.2 h (by have := hp1.1.pos; omega) (by omega)
  have hp2 := pick_ok c.part.2 3 (hp1.1.bytes h.small)
  have hl2 := pick_lt c.part.2 3 (hp1.1.bytes h.small) (by omega)
  have hq : c.name = Cur.nameLoop (c.part.2.pick 3).1 c.part.1 (c.part.2.pick 3).2 := rfl
  have hpp := (hp1.1.then hp2).pos
  have hs1 := hp1.2
  generalize (c.part.2.pick 3).1 = k at hc2 hl2 hq
  generalize (c.part.2.pick 3).2 = c2 at hc2 hq hpp
  generalize c.part.1 = p at hc1 hq hs1
  generalize c.part.2 = c1 at hc1 hc2
  have HC1 := hide hc1
  have HC2 := hide hc2
  have HQ := hide hq
  clear hc1 hc2 hq hp1 hp2
  go_enter Tryz.func63, Tryz.ntmps63
  go_wp2_with fail
  refine (unhide HC1).mono ?_
  rintro e w1 ⟨rfl, t1⟩
  go_wp2_with fail
  refine (HC2.out w1 t1.1).mono ?_
  rintro e w2 ⟨rfl, t2⟩
  have t := t1.then t2
  clear t1 t2 HC1 HC2
  go_wp2_with fail
  go_loopw [3, 4] (fun s i wr => ∃ (m : Nat) (q : Str) (cr : Cur), i = .int .i64 m ∧ s = .string q ∧ m ≤ k ∧ cr.pos + 2 * m ≤ c.pos + 8 ∧ q.size + 4 * m ≤ 11 ∧ Hid (c.name = Cur.nameLoop m q cr) ∧ CurTo w wr g A n cp cr) (fun _ i _ => (intOf i).toNat)
  case atStart => exact ⟨k, p, c2, rfl, rfl, Nat.le_refl _, by omega, by omega, HQ, t⟩
  case round =>
    clear t HQ hpp hs1
    obtain ⟨m, q, cr, rfl, rfl, hm, hcr, hqs, HN, t⟩ := hrel
    by_cases h0 : m = 0
    · subst h0
      go_wp2_with fail
      go_ret
      have hn : c.name = (q, cr) := HN.out
      rw [hn]
      exact ⟨rfl, t⟩
    · obtain ⟨m', rfl⟩ : ∃ m', m = m' + 1 := ⟨m - 1, by omega⟩
      have hc3 := part_calls wr g n cp A cr t.1 (by omega)
      have hp3 := part_ok cr t.1.small
      have hn : c.name = Cur.nameLoop m' (q ++ (⟨#[47]⟩ ++ cr.part.1)) cr.part.2 := HN.out
      have hpo := hp3.1.pos
      have hps := hp3.2
      generalize cr.part.1 = p3 at hc3 hn hps
      generalize cr.part.2 = c3 at hc3 hn hpo
      have HC3 := hide hc3
      have HN2 := hide hn
      have h47 : (⟨#[47]⟩ : Str).size = 1 := rfl
      have hss : (q ++ (⟨#[47]⟩ ++ p3)).size = q.size + (1 + p3.size) := by rw [ByteArray.size_append, ByteArray.size_append, h47]
      have hsb : (q ++ (⟨#[47]⟩ ++ p3)).size + 4 * m' ≤ 11 := by omega
      have k1 := fun W : World => run_string_add_sum (P := Tryz.prog) (w := W) ⟨#[47]⟩ p3 (by omega)
      have k2 := fun W : World => run_string_add_sum (P := Tryz.prog) (w := W) q (⟨#[47]⟩ ++ p3) (by rw [ByteArray.size_append]; omega)
      clear hc3 hn h47 hss hp3 h0 HN
      go_wp2_with fail
      refine (unhide HC3).mono ?_
      rintro e w4 ⟨rfl, t4⟩
      go_wp2_with fail
      go_roundw
      case rel => exact ⟨m', _, c3, rfl, rfl, by omega, by omega, hsb, HN2, t.then t4⟩
      case measure => first | (simp [intOf]; done) | (simp [intOf]; omega)
end Go.Proofs.YtkhlicmlnjccdaaGreatDoor

namespace Go.Proofs.YtkhlicmlnjccdaaGreatDoor
open Go.RowKit Mem
namespace Mem
/-- a row of bytes of one's own -/
def OwnB (w : World) (B : Nat) (v : Value) (bs : List UInt8) : Prop := w.ownsRow B 5 1 v bs.length (Lib.strCells (Nm.mk bs))
theorem cells_mk (bs : List UInt8) : Lib.strCells (Nm.mk bs) = bs.map fun b => Value.int .u8 b.toNat := by simp [Lib.strCells, Nm.mk]
theorem cells_append (bs : List UInt8) (s : Str) : Lib.strCells (Nm.mk bs) ++ Lib.strCells s = Lib.strCells (Nm.mk (bs ++ Nm.bs s)) := by
  rw [cells_mk, cells_mk, List.map_append]; rfl
theorem OwnB.nil (w : World) (B : Nat) : OwnB w B (.slice none 0 0) [] := ⟨rfl, .inl ⟨rfl, rfl⟩⟩
theorem OwnB.below {w w' : World} {B : Nat} {v : Value} {bs : List UInt8} (h : OwnB w B v bs) (hb : Below w.heap.size w w') : OwnB w' B v bs :=
  World.ownsRow.kept h (row := none) ⟨hb.os, hb.tape, hb.output, hb.size, fun i hi _ => hb.block i hi⟩ (by cases v.ownBlock <;> simp)
theorem OwnB.le {w : World} {B b : Nat} {v : Value} {bs : List UInt8} (h : OwnB w B v bs) (hb : v.ownBlock = some b) : B ≤ b := by
  rcases h.2 with ⟨rfl, _⟩ | ⟨g, cap, cur, rfl, hg, _⟩
  · simp [Value.ownBlock] at hb
  · have : g = b := by simpa [Value.ownBlock] using hb
    omega
theorem OwnB.form {w : World} {B : Nat} {v : Value} {bs : List UInt8} (h : OwnB w B v bs) : ∃ A c, v = .slice A bs.length c := by
  rcases h.2 with ⟨hv, hn⟩ | ⟨g, cap, cur, hv, _⟩
  · exact ⟨none, 0, by rw [hv, hn]⟩
  · exact ⟨_, cap, hv⟩
set_option maxRecDepth 100000 in
theorem OwnB.text {w : World} {B n c : Nat} {A : Option Addr} {bs : List UInt8} (h : OwnB w B (.slice A n c) bs) (hne : bs ≠ []) : (convert 22 9 (.slice A n c)).run Tryz.prog w = .ok (.string (Nm.mk bs)) w := by
  rcases h.2 with ⟨_, hn⟩ | ⟨g, cap, cur, hv, _⟩
  · exact absurd (List.eq_nil_of_length_eq_zero hn) hne
  · injection hv with hA hn hc
    subst hA hn hc
    have := run_convert_bytes_arg (P := Tryz.prog) w 22 5 Tryz.underlying22 Tryz.underlying5 g 0 bs.length c (bs.map fun b => (b.toNat : Int)) (by simp) (fun i hi => by
      have hc := World.ownsRow.cells h (g := g) rfl i (.int .u8 (bs[i].toNat : Int)) (by rw [cells_mk, List.getElem?_map, List.getElem?_eq_getElem hi]; rfl)
      rw [add_plain] at hc
      rw [hc, List.getD_eq_getElem?_getD, List.getElem?_map, List.getElem?_eq_getElem hi]; rfl) 9 Tryz.underlying9
    rw [this]
    have hs : strOfNums (bs.map fun b => (b.toNat : Int)) = Nm.mk bs := by
      refine Nm.bs_inj ?_
      simp [Nm.bs, Nm.mk, strOfNums, Function.comp_def]
    rw [hs]
theorem info_byte : (Tryz.prog.info? 5).map (fun i => (i.zero, i.size, i.bytes)) = some (some (.int .u8 0), 1, 1) := by kernel_rfl
section
variable {ops : Array Oper} {rest : List Oper} {o : Oper} {a : Act} {Q : Exit → Act → World → Prop}
theorem append_text {w0 w : World} (B : Nat) (hgd : o.guard = none) (sl x : Operand) (t : TypeId) (ho : o.op = .call { callee := .builtin .append, args := #[sl, x], argTypes := #[t, 9] }) (ht : Tryz.prog.underlying t = some (.slice 5))
    (v : Value) (bs : List UInt8) (s : Str) (hs : a.eval sl = v) (hx : a.eval x = .string s) (HO : OwnB w B v bs) (HB : Below B w0 w) (hB : B ≤ w.heap.size) (hl : bs.length + s.size ≤ 140737488355328)
    (h : ∀ v' w', OwnB w' B v' (bs ++ Nm.bs s) → Below B w0 w' → wpList Tryz.prog ops Q rest (a.put o.dst v') w') : wpList Tryz.prog ops Q (o :: rest) a w := by
  obtain ⟨i0, hi, hzz⟩ := Option.map_eq_some_iff.1 info_byte
  simp only [Prod.mk.injEq] at hzz
  obtain ⟨hz0, hz1, hz2⟩ := hzz
  refine Lib.wpList_append_own_string w hgd sl x t 9 ho B 5 i0 ht Tryz.underlying9 hi hz0 hz1 hz2 v bs.length _ hs HO s hx (by simp only [maxLen]; omega) hl hB (fun v' w' hown hg _ => ?_)
  refine h v' w' ?_ (HB.grown hg hB (fun b hb => OwnB.le HO hb))
  unfold OwnB
  rw [← cells_append, List.length_append, Nm.bs_length]
  exact hown
end
end Mem
end Go.Proofs.YtkhlicmlnjccdaaGreatDoor
