/-
Walks: the reference's names: l1byte, l1parts, l1walk, l1joined, l1named, Clean.
Walks: the reference's names: l1joined, l1walk.
Walk: the reference's l1walk.
Walks: the reference's l1named, Clean, Within, l1near, l1rooted.
Walks: the program's names: plain, walk, Clean.
What the rows of this seat share: the world of the witness (the two tables laid), the post out of 'Below', the library's variable.
-/
import Derived.Test.YtkhlicmlnjccdaaGreatDoorProg
import Derived.Test.YtkhlicmlnjccdaaGreatDoorKt1
import Derived.Test.YtkhlicmlnjccdaaGreatDoorKt2
import Derived.WalkKit
import Derived.WalkSpells
import Derived.WalkLawsBesides
import Derived.Outline
import Derived.Deep.QuietTactic
import Derived.BigQuiet
import Derived.Test.YtkhlicmlnjccdaaGreatDoorShelf
import Derived.Shelf.Strings.SlTrimAscii
import Derived.Test.YtkhlicmlnjccdaaGreatDoorCards
import Derived.Test.YtkhlicmlnjccdaaGreatDoorTie
import Derived.ProofKit
import Derived.OpenShut
import Derived.ShutString
import Derived.Deep.DeepHandedRow
import Derived.Lib.LaidTab
import Derived.Shelf.Vars
namespace Go.Proofs.YtkhlicmlnjccdaaGreatDoor
open Go.RowKit Mem

set_option maxHeartbeats 400000 in
theorem l1byte_calls (c : UInt8) (w : World) : Calls Tryz.prog 128 #[.int .u8 (c.toNat : Int)] w fun e w' => e = .returned (.bool (Nm.okByte c)) ∧ w = w' := by
  have hlt := c.toNat_lt
  go_enter Tryz.func128, Tryz.ntmps128
  go_wp2
  all_goals go_ret
  all_goals exact ⟨ret_bool (by rw [Bool.eq_iff_iff]; simp [Nm.okByte]; omega), rfl⟩
theorem info_str : (Tryz.prog.info? 9).map (fun i => (i.zero, i.size, i.bytes)) = some (some (.string ByteArray.empty), 1, 16) := by kernel_rfl

set_option maxHeartbeats 400000 in
theorem l1parts_calls (s : Str) (w : World) (hs : s.size ≤ 1073741824) : Calls Tryz.prog 127 #[.string s] w (RetOwn fStr w 9 ((Nm.parts (Nm.bs s)).map Nm.mk)) := by
  have hlen := Nm.bs_length s
  have HL := hide hlen
  clear hlen
  go_enter Tryz.func127, Tryz.ntmps127
  go_wp2
  go_loopw [3, 4, 5] (fun v a i wr => ∃ (k a' : Nat) (done : List Nm.Bs), a = .int .i64 a' ∧ i = .int .i64 k ∧ Hid (Nm.PInv (Nm.bs s) k a' done) ∧ k ≤ s.size + 1 ∧ a' ≤ k ∧ done.length ≤ s.size + 1 ∧ Own fStr wr w.heap.size 9 v (done.map Nm.mk) ∧ Below w.heap.size w wr) (fun _ _ i _ => s.size + 1 - (intOf i).toNat)
  case atStart => exact ⟨0, 0, [], rfl, rfl, Nm.PInv.start _, by omega, by omega, by simp, Own.nil _ _ _, by (repeat (first | with_reducible exact Below.refl _ _ | with_reducible assumption | with_reducible refine Below.alloc ?_ (by first | exact Nat.le_refl _ | exact Below.size (by assumption) | exact Nat.le_trans (Below.size (by assumption)) (by simp; done) | (simp; done) | (simp; omega) | omega) _ | with_reducible refine below_drewN ?_ _ | with_reducible refine Below.drew ?_ | with_reducible refine Below.setCell ?_ (by first | exact Nat.le_refl _ | (simp; done) | (simp; omega) | omega) _))⟩
  case round =>
    obtain ⟨k, a, done, rfl, rfl, HP, hk, hak, hdl, HO, HB⟩ := hrel
    have HX := Nm.extract_mk s a k
    have HX' := hide HX
    clear HX
    by_cases hle : k ≤ s.size
    · by_cases hend : k = s.size
      · have heq : ((k : Int) == (s.size : Int)) = true := by rw [hend]; simp
        have HE := hide hend
        clear hend
        go_wp2_with (at_builtin; refine append_own fStr w.heap.size rfl _ _ 23 9 (.string ByteArray.empty) 16 rfl Tryz.underlying23 info_str rfl (by omega) u3 (done.map Nm.mk) (s.extract a k) #[.string (s.extract a k)] rfl rfl rfl HO HB HB.size (by simp; omega) ?_; intro v1 w1 hown hbel _ _)
        go_roundw
        case rel =>
          have hq := HP.out.last (HE.out.trans HL.out.symm)
          have hq2 := hq.count
          rw [HL.out] at hq2
          refine ⟨k + 1, k + 1, _, by go_num, by go_num, hq, by omega, by omega, hq2, ?_, hbel⟩
          rw [List.map_append, List.map_singleton, ← HX'.out]; exact hown
        case measure => simp [intOf]; omega

      · have hlt : k < s.size := by omega
        have hne : ((k : Int) == (s.size : Int)) = false := by simp; omega
        clear hend
        obtain ⟨b, hb⟩ : ∃ b : UInt8, ∀ h : k < s.size, s[k]'h = b := ⟨s[k], fun _ => rfl⟩
        have HE : Hid ((Nm.bs s)[k]? = some b) := hide (by rw [← hb hlt]; exact List.getElem?_eq_getElem _)
        by_cases hc : b = 47
        · subst hc
          go_wp2_with (at_builtin; refine append_own fStr w.heap.size rfl _ _ 23 9 (.string ByteArray.empty) 16 rfl Tryz.underlying23 info_str rfl (by omega) u3 (done.map Nm.mk) (s.extract a k) #[.string (s.extract a k)] rfl rfl rfl HO HB HB.size (by simp; omega) ?_; intro v1 w1 hown hbel _ _)
          go_roundw
          case rel =>
            have hq := HP.out.cut HE.out
            have hq2 := hq.count
            rw [HL.out] at hq2
            refine ⟨k + 1, k + 1, _, by go_num, by go_num, hq, by omega, by omega, hq2, ?_, hbel⟩
            rw [List.map_append, List.map_singleton, ← HX'.out]; exact hown
          case measure => simp [intOf]; omega

        · have hcb : ((b.toNat : Int) == 47) = false := by
            have : b.toNat ≠ 47 := fun e => hc (UInt8.toNat_inj.1 e)
            simp; omega
          have HC := hide hc
          clear hc
          go_wp2_with fail
          go_roundw
          case rel =>
            exact ⟨k + 1, a, done, rfl, by go_num, HP.out.skip (by rw [HL.out]; exact hlt) (by rw [HE.out]; intro e; exact HC.out (Option.some.inj e)), by omega, by omega, by omega, HO, HB⟩
          case measure => simp [intOf]; omega
    · go_wp2_with fail
      go_ret
      refine ⟨_, rfl, ?_, HB⟩
      rw [HP.out.done (by rw [HL.out]; omega)]; exact HO
end Go.Proofs.YtkhlicmlnjccdaaGreatDoor

namespace Go.Proofs.YtkhlicmlnjccdaaGreatDoor
open Go.RowKit Mem

theorem join_take (xs : List Str) (k : Nat) (hk : k < xs.length) (h0 : 0 < k) :
    Nm.mk (Nm.join ((xs.take (k + 1)).map Nm.bs)) = Nm.mk (Nm.join ((xs.take k).map Nm.bs)) ++ ⟨#[47]⟩ ++ xs[k] := by
  apply Nm.bs_inj
  rw [List.take_succ_eq_append_getElem hk, List.map_append, List.map_singleton, Nm.join_snoc _ _ (by intro e; have := congrArg List.length e; rw [List.length_map, List.length_take, List.length_nil] at this; omega), Nm.bs_mk]
  simp [Nm.bs, Nm.mk]
theorem join_take0 (xs : List Str) (hk : 0 < xs.length) : Nm.mk (Nm.join ((xs.take 1).map Nm.bs)) = xs[0] := by
  apply Nm.bs_inj
  rw [List.take_succ_eq_append_getElem hk, List.take_zero, List.nil_append, List.map_singleton, Nm.join_one, Nm.bs_mk]
theorem join_len (xs : List Str) (k : Nat) : (Nm.mk (Nm.join ((xs.take k).map Nm.bs))).size ≤ (Nm.join (xs.map Nm.bs)).length := by
  rw [Nm.mk_size]
  induction xs generalizing k with
  | nil => simp
  | cons x r ih =>
    cases k with
    | zero => simp [Nm.join_nil]
    | succ k =>
      cases r with
      | nil => simp
      | cons y t =>
        have h1 : Nm.join (List.map Nm.bs (x :: y :: t)) = Nm.bs x ++ [47] ++ Nm.join (List.map Nm.bs (y :: t)) := by
          simp [Nm.join, Lib.join, List.intercalate, List.intersperse_cons_cons]
        cases k with
        | zero => rw [h1]; simp [Nm.join_one]
        | succ k =>
          have h2 : Nm.join (List.map Nm.bs (List.take (k + 2) (x :: y :: t))) = Nm.bs x ++ [47] ++ Nm.join (List.map Nm.bs (List.take (k + 1) (y :: t))) := by
            simp [Nm.join, Lib.join, List.intercalate, List.intersperse_cons_cons]
          have := ih (k + 1)
          rw [h1, h2]; simp at this ⊢; omega

set_option maxHeartbeats 400000 in
theorem l1joined_calls (A : Option Addr) (c : Nat) (xs : List Str) (S : Nat → Prop) (w : World) (h : Sl kStr w S A xs) (hl : xs.length ≤ maxLen) (hj : (Nm.join (xs.map Nm.bs)).length ≤ 1073741824) :
    Calls Tryz.prog 110 #[.slice A xs.length c] w fun e w' => e = .returned (.string (Nm.mk (Nm.join (xs.map Nm.bs)))) ∧ w = w' := by
  unfold maxLen at hl
  go_enter Tryz.func110, Tryz.ntmps110
  go_wp2
  go_loop [3, 4, 5, 8] (fun v _ _ i => ∃ (k : Nat) (t : Str), i = .int .i64 k ∧ k ≤ xs.length ∧ v = .string t ∧ Hid (t = Nm.mk (Nm.join ((xs.take k).map Nm.bs))) ∧ t.size ≤ 1073741824) (fun _ _ _ i => xs.length - (intOf i).toNat)
  case atStart => exact ⟨0, _, rfl, by omega, rfl, rfl, Nat.zero_le _⟩
  case round =>
    obtain ⟨k, t, rfl, hk, rfl, HT, hsz⟩ := hrel
    by_cases hlt : k < xs.length
    · obtain ⟨ad, rfl, hc⟩ := h.get hlt
      have e1 : w.cell? (ad.add k) = some (.string xs[k]) := by simpa [kStr] using hc.2
      have hlen := join_len xs (k + 1)
      clear hc h
      by_cases h0 : 0 < k
      · have hjt := join_take xs k hlt h0
        rw [← HT.out] at hjt
        rw [hjt, ByteArray.size_append, ByteArray.size_append] at hlen
        have h47 : (⟨#[47]⟩ : Str).size = 1 := rfl
        have k1 := fun W : World => run_string_add_sum (P := Tryz.prog) (w := W) t ⟨#[47]⟩ (by omega)
        have k2 := fun W : World => run_string_add_sum (P := Tryz.prog) (w := W) (t ++ ⟨#[47]⟩) xs[k] (by rw [ByteArray.size_append]; omega)
        have HJ := hide hjt
        clear hjt
        have hs2 : (t ++ ⟨#[47]⟩ ++ xs[k]).size ≤ 1073741824 := by rw [ByteArray.size_append, ByteArray.size_append]; omega
        clear h47 hlen
        go_wp2
        go_round
        case rel => exact ⟨k + 1, _, by go_num, by omega, rfl, HJ.out.symm, hs2⟩
        case measure => simp [intOf]; omega
      · obtain rfl : k = 0 := by omega
        have e0 : w.cell? ad = some (.string xs[0]) := by simpa [Addr.add] using e1
        clear e1
        have hjt := join_take0 xs hlt
        rw [hjt] at hlen
        have ht0 : t = ⟨#[]⟩ := HT.out
        subst ht0
        have k1 := fun W : World => run_string_add_sum (P := Tryz.prog) (w := W) ⟨#[]⟩ xs[0] (by have : (⟨#[]⟩ : Str).size = 0 := rfl; omega)
        have he : (⟨#[]⟩ : Str) ++ xs[0] = xs[0] := by apply Nm.bs_inj; simp [Nm.bs]
        have HE := hide he
        have HJ := hide hjt
        clear hjt he
        have hs2 : xs[0].size ≤ 1073741824 := by omega
        go_wp2
        go_round
        case rel => exact ⟨1, xs[0], rfl, by omega, by rw [HE.out], HJ.out.symm, hs2⟩
        case measure => simp [intOf]; omega
    · go_wp2
      go_ret
      obtain rfl : k = xs.length := by omega
      exact ⟨ret_str (by rw [HT.out, List.take_length]), rfl⟩
end Go.Proofs.YtkhlicmlnjccdaaGreatDoor

namespace Go.Proofs.YtkhlicmlnjccdaaGreatDoor
open Go.RowKit Mem

/-- the post of l1walk -/
def RetWalk (w : World) (r : Int × List Nm.Bs) (e : Ending) (w' : World) : Prop := ∃ v, e = .returned (.tuple #[v, .int .i64 r.1]) ∧ Own fStr w' w.heap.size 9 v (r.2.map Nm.mk) ∧ Below w.heap.size w w'

set_option maxRecDepth 100000 in
set_option maxHeartbeats 1000000 in
theorem l1walk_calls (A : Option Addr) (c : Nat) (xs : List Str) (S : Nat → Prop) (s : Str) (w : World) (h : Sl kStr w S A xs) (hl : xs.length ≤ 1073741824) (hs : s.size ≤ 1073741824) :
    Calls Tryz.prog 109 #[.slice A xs.length c, .string s] w (RetWalk w (Nm.walk (xs.map Nm.bs) (Nm.parts (Nm.bs s)))) := by
  go_enter Tryz.func109, Tryz.ntmps109
  go_wp2
  go_loopw [6, 8, 14] (fun v _ i wr => ∃ k : Nat, i = .int .i64 k ∧ k ≤ xs.length ∧ Own fStr wr w.heap.size 9 v (xs.take k) ∧ Below w.heap.size w wr) (fun _ _ i _ => xs.length - (intOf i).toNat)
  case atStart => exact ⟨0, rfl, by omega, Own.nil _ _ _, by (repeat (first | with_reducible exact Below.refl _ _ | with_reducible assumption | with_reducible refine Below.alloc ?_ (by first | exact Nat.le_refl _ | exact Below.size (by assumption) | exact Nat.le_trans (Below.size (by assumption)) (by simp; done) | (simp; done) | (simp; omega) | omega) _ | with_reducible refine below_drewN ?_ _ | with_reducible refine Below.drew ?_ | with_reducible refine Below.setCell ?_ (by first | exact Nat.le_refl _ | (simp; done) | (simp; omega) | omega) _))⟩
  case round =>
    obtain ⟨k, rfl, hk, HO, HB⟩ := hrel
    by_cases hlt : k < xs.length
    · obtain ⟨ad, rfl, hc⟩ := (h.below HB).get hlt
      have e1 : wr.cell? (ad.add k) = some (.string xs[k]) := by simpa [kStr] using hc.2
      clear hc
      go_wp2_with (at_builtin; refine append_own fStr w.heap.size rfl _ _ 23 9 (.string ByteArray.empty) 16 rfl Tryz.underlying23 info_str rfl (by omega) u6 (xs.take k) xs[k] #[.string xs[k]] rfl rfl rfl HO HB HB.size (by simp; omega) ?_; intro v1 w1 hown hbel _ _)
      go_roundw
      case rel =>
        refine ⟨k + 1, by go_num, by omega, ?_, hbel⟩
        rw [List.take_succ_eq_append_getElem hlt]; exact hown
      case measure => simp [intOf]; omega
    · obtain rfl : k = xs.length := by omega
      rw [List.take_length] at HO
      go_wp2_with fail
      refine (l1parts_calls s wr hs).mono ?_
      rintro e w1 ⟨vP, rfl, HP, hbP⟩
      generalize hps : Nm.parts (Nm.bs s) = ps at HP ⊢
      have HPS := hide hps
      clear hps
      have hpn : ps.map Nm.mk ≠ [] := by rw [← HPS.out]; simpa using Nm.parts_ne _
      have hpl : ps.length ≤ 1073741825 := by have := Nm.parts_length (Nm.bs s); rw [HPS.out, Nm.bs_length] at this; omega
      obtain ⟨g2, c2, rfl, hg2, hg2l, hpc, hpm, hob, hsl⟩ := HP.form hpn
      have HPN := hide hpn
      clear hpn HP hob
      rw [List.length_map] at hpc ⊢
      go_wp2_with fail
      have HO1 := HO.below hbP
      have hne1 : u6.ownBlock ≠ some g2 := fun e => by have := HO.lt e; omega
      have HB1 := below_then HB HB.size hbP
      go_loopw [6, 10, 11, 26] (fun v _ _ i wr => ∃ (k : Nat) (row : List Nm.Bs), i = .int .i64 k ∧ k ≤ ps.length ∧ Hid (Nm.walk (xs.map Nm.bs) ps = Nm.walk row (ps.drop k)) ∧ row.length ≤ xs.length + k ∧ Own fStr wr w.heap.size 9 v (row.map Nm.mk) ∧ v.ownBlock ≠ some g2 ∧ Below w.heap.size w wr ∧ Sl kStr wr (fun b => b = g2) (some ⟨g2, 0, none⟩) (ps.map Nm.mk)) (fun _ _ _ i _ => ps.length - (intOf i).toNat)
      case atStart => exact ⟨0, xs.map Nm.bs, rfl, by omega, rfl, by simp, by rw [List.map_map, show (Nm.mk ∘ Nm.bs) = id from funext Nm.mk_bs, List.map_id]; exact HO1, hne1, HB1, hsl⟩
      case round =>
        clear HO1 hne1 HB1 hsl HO HB hbP
        obtain ⟨k, row, rfl, hk, HW, hrl, HO, hne, HB, hsl⟩ := hrel
        by_cases hlt : k < ps.length
        · obtain ⟨ad, e0, hc⟩ := hsl.get (i := k) (by simpa using hlt)
          cases e0
          have e1 : wr.cell? ⟨g2, k, none⟩ = some (.string (Nm.mk ps[k])) := by
            have := hc.2
            rw [add_plain] at this
            simpa [kStr] using this
          clear hc
          have hg2w : g2 < wr.heap.size := World.block_lt_of_cell? _ ⟨g2, k, none⟩ e1
          have HS := hide (Nm.walk_drop row ps k hlt)
          generalize hP : ps[k] = P at e1 HS
          have HP := hide hP
          clear hP
          generalize hT : Nm.mk P = t at e1
          have HT := hide hT
          clear hT
          by_cases hA : P = [46]
          · have hA1 : (t.toList == [46]) = true := tl_t (by rw [← HT.out, hA]; rfl)
            have HA := hide hA
            clear hA
            go_wp2_with fail
            go_roundw
            case rel =>
              have hq := HS.out
              rw [if_pos HA.out] at hq
              exact ⟨k + 1, row, by go_num, by omega, HW.out.trans hq, by omega, HO, hne, HB, hsl⟩
            case measure => simp [intOf]; omega
          have hA1 : (t.toList == [46]) = false := tl_f (fun e => hA (Nm.mk_inj (HT.out.trans e)))
          have HA := hide hA
          clear hA
          by_cases hB : P = [46, 46]
          · have hB1 : (t.toList == [46, 46]) = true := tl_t (by rw [← HT.out, hB]; rfl)
            have HBB := hide hB
            clear hB
            by_cases hr : row = []
            · have hq := HS.out
              rw [if_neg HA.out, if_pos HBB.out, if_pos hr] at hq
              have HQ := hide (HW.out.trans hq)
              subst hr
              clear hq
              obtain ⟨A6, c6, rfl, _, _, _⟩ := HO.slV
              go_wp2_with fail
              go_ret2
              refine ⟨.slice none 0 0, ?_, ?_, HB⟩
              · rw [HPS.out, HQ.out]; rfl
              · rw [HPS.out, HQ.out]; exact Own.nil _ _ _
            · have hq := HS.out
              rw [if_neg HA.out, if_pos HBB.out, if_neg hr] at hq
              have HQ := hide (HW.out.trans hq)
              clear hq
              have hrn : row.map Nm.mk ≠ [] := by simpa using hr
              obtain ⟨g1, c1, rfl, hg1, hg1l, hrc, hrm, hob1, _⟩ := HO.form hrn
              rw [hob1] at hne
              have hne := hide hne
              clear hob1
              obtain ⟨n, hn⟩ : ∃ n, row.length = n + 1 := ⟨row.length - 1, by cases row <;> simp_all⟩
              have HN := hide hn
              have hnb : n ≤ 4294967296 := by omega
              clear hrn hr
              rw [List.length_map, hn] at hrc
              have HO2 := HO
              rw [List.length_map, hn] at HO2 ⊢
              clear hn HO
              have HO3 := HO2.pop (by rw [List.length_map]; exact HN.out)
              clear HO2
              go_wp2_with fail
              go_roundw
              case rel =>
                exact ⟨k + 1, row.dropLast, by go_num, by omega, HQ, by rw [List.length_dropLast]; omega, by rw [List.map_dropLast]; exact HO3, hne.out, HB, hsl⟩
              case measure => simp [intOf]; omega
          have hB1 : (t.toList == [46, 46]) = false := tl_f (fun e => hB (Nm.mk_inj (HT.out.trans e)))
          have HBB := hide hB
          clear hB
          by_cases hE : P = []
          · have hE1 : t.toList.isEmpty = true := tl_e (by rw [← HT.out, hE]; rfl)
            have hq := HS.out
            rw [if_neg HA.out, if_neg HBB.out, if_neg (by rw [hE, Nm.plain_nil]; simp)] at hq
            have HQ := hide (HW.out.trans hq)
            clear hq hE
            go_wp2_with fail
            go_ret2
            refine ⟨.slice none 0 0, ?_, ?_, HB⟩
            · rw [HPS.out, HQ.out]; rfl
            · rw [HPS.out, HQ.out]; exact Own.nil _ _ _
          have hE1 : t.toList.isEmpty = false := tl_n (fun e => hE (Nm.mk_inj (HT.out.trans e)))
          have HE := hide hE
          clear hE
          have hts : t.size = P.length := by rw [← HT.out, Nm.mk_size]
          have HTS := hide hts
          have htl : t.size ≤ 1073741824 := by
            have := Nm.parts_le (Nm.bs s) P (by rw [HPS.out, ← HP.out]; exact List.getElem_mem _)
            rw [Nm.bs_length] at this
            omega
          clear hts
          go_wp2_with fail
          go_loop [11] (fun i => ∃ j : Nat, i = .int .i64 j ∧ j ≤ t.size ∧ Hid (∀ (m : Nat) (b : UInt8), m < j → P[m]? = some b → Nm.okByte b = true)) (fun i => t.size - (intOf i).toNat)
          case atStart => exact ⟨0, rfl, by omega, fun m b hm => absurd hm (by omega)⟩
          case round =>
            obtain ⟨j, rfl, hj, HJ⟩ := hrel
            by_cases hjl : j < t.size
            · obtain ⟨b, hb⟩ : ∃ b : UInt8, ∀ h : j < t.size, t[j]'h = b := ⟨t[j], fun _ => rfl⟩
              have HC : Hid (P[j]? = some b) := hide (by rw [← hb hjl, ← Nm.bs_mk P, HT.out]; exact List.getElem?_eq_getElem _)
              by_cases hok : Nm.okByte b = true
              · go_wp2_with (go_at_call 128; refine (l1byte_calls b _).mono ?_; rintro e w' ⟨rfl, rfl⟩)
                go_round
                case rel =>
                  refine ⟨j + 1, by go_num, by omega, fun m b' hm hb' => ?_⟩
                  rcases Nat.lt_or_ge m j with h | h
                  · exact HJ.out m b' h hb'
                  · obtain rfl : m = j := by omega
                    rw [HC.out] at hb'
                    cases hb'
                    exact hok
                case measure => simp [intOf]; omega
              · have hok : Nm.okByte b = false := by simpa using hok
                have hq := HS.out
                rw [if_neg HA.out, if_neg HBB.out, if_neg (by rw [Nm.plain_no HC.out hok]; simp)] at hq
                have HQ := hide (HW.out.trans hq)
                clear hq
                go_wp2_with (go_at_call 128; refine (l1byte_calls b _).mono ?_; rintro e w' ⟨rfl, rfl⟩)
                go_ret2
                refine ⟨.slice none 0 0, ?_, ?_, HB⟩
                · rw [HPS.out, HQ.out]; rfl
                · rw [HPS.out, HQ.out]; exact Own.nil _ _ _
            · have hq := HS.out
              rw [if_neg HA.out, if_neg HBB.out, if_pos (Nm.plain_ne HE.out fun m b hb => HJ.out m b (by
                have : m < P.length := by
                  rcases Nat.lt_or_ge m P.length with h | h
                  · exact h
                  · rw [List.getElem?_eq_none h] at hb; simp at hb
                have := HTS.out; omega) hb)] at hq
              have HQ := hide (HW.out.trans hq)
              clear hq
              go_wp2_with (at_builtin; refine append_own fStr w.heap.size rfl _ _ 23 9 (.string ByteArray.empty) 16 rfl Tryz.underlying23 info_str rfl (by omega) u6 (row.map Nm.mk) t #[.string t] rfl rfl rfl HO HB HB.size (by simp; omega) ?_; intro v1 w2 hown hbel hgr hat)
              go_roundw
              case rel =>
                refine ⟨k + 1, row ++ [P], by go_num, by omega, HQ, by simp; omega, by rw [List.map_append, List.map_singleton, HT.out]; exact hown, ?_, hbel, ?_⟩
                · rcases hat with hat | ⟨bb, hat, hbb⟩
                  · rw [hat]; exact hne
                  · rw [hat]; intro e; injection e with e; omega
                · exact hsl.same (Same.grown hgr (fun bb hbb => by subst hbb; omega) (fun bb hbb => by subst hbb; exact Ne.symm hne))
              case measure => simp [intOf]; omega
        · go_wp2_with fail
          go_ret2
          obtain rfl : k = ps.length := by omega
          have hq := HW.out
          rw [List.drop_length] at hq
          refine ⟨u6, ?_, ?_, HB⟩
          · rw [HPS.out, hq]; rfl
          · rw [HPS.out, hq]; exact HO
end Go.Proofs.YtkhlicmlnjccdaaGreatDoor

namespace Go.Proofs.YtkhlicmlnjccdaaGreatDoor
open Go.RowKit Mem

def RetNamed (w : World) (r : Int × Str) (e : Ending) (w' : World) : Prop := e = .returned (.agg #[.int .i64 r.1, .string r.2]) ∧ Below w.heap.size w w'

set_option maxRecDepth 100000 in
set_option maxHeartbeats 1000000 in
theorem l1named_calls (A : Option Addr) (c : Nat) (xs : List Str) (S : Nat → Prop) (s : Str) (w : World) (h : Sl kStr w S A xs) (hl : xs.length ≤ 1073741824) (hs : s.size ≤ 1073741824)
    (hj : ∀ r, Nm.walk (xs.map Nm.bs) (Nm.parts (Nm.bs s)) = r → s.size ≤ 60 → (Nm.join r.2).length ≤ 1073741824) :
    Calls Tryz.prog 90 #[.slice A xs.length c, .string s] w (RetNamed w ((Nm.named (xs.map Nm.bs) (Nm.bs s)).1, Nm.mk (Nm.named (xs.map Nm.bs) (Nm.bs s)).2)) := by
  by_cases h60 : 60 < s.size
  · have HQ := hide (Nm.named_long (at_ := xs.map Nm.bs) (name := Nm.bs s) (by rw [Nm.bs_length]; exact h60))
    go_enter Tryz.func90, Tryz.ntmps90
    go_wp2_with fail
    exact bodyPost_ret (v := .agg #[.int .i64 3, .string ⟨#[]⟩]) (by simp [results, Tryz.results90, go_sem]) rfl ⟨by rw [HQ.out]; rfl, by (repeat (first | with_reducible exact Below.refl _ _ | with_reducible assumption | with_reducible refine Below.alloc ?_ (by first | exact Nat.le_refl _ | exact Below.size (by assumption) | exact Nat.le_trans (Below.size (by assumption)) (by simp; done) | (simp; done) | (simp; omega) | omega) _ | with_reducible refine below_drewN ?_ _ | with_reducible refine Below.drew ?_ | with_reducible refine Below.setCell ?_ (by first | exact Nat.le_refl _ | (simp; done) | (simp; omega) | omega) _))⟩
  · have h60' : ¬ 60 < (Nm.bs s).length := by rw [Nm.bs_length]; exact h60
    generalize hr : Nm.walk (xs.map Nm.bs) (Nm.parts (Nm.bs s)) = r
    have hj := hj r hr (by omega)
    have HR := hide hr
    clear hr
    have H60 := hide h60'
    clear h60'
    have hcl : ∃ (r1 : Int) (r2 : List Nm.Bs), r = (r1, r2) := ⟨_, _, rfl⟩
    obtain ⟨r1, r2, rfl⟩ := hcl
    replace hj : (Nm.join r2).length ≤ 1073741824 := hj
    go_enter Tryz.func90, Tryz.ntmps90
    go_wp2_with fail
    refine (l1walk_calls A c xs S s _ (h.below (by (repeat (first | with_reducible exact Below.refl _ _ | with_reducible assumption | with_reducible refine Below.alloc ?_ (by first | exact Nat.le_refl _ | exact Below.size (by assumption) | exact Nat.le_trans (Below.size (by assumption)) (by simp; done) | (simp; done) | (simp; omega) | omega) _ | with_reducible refine below_drewN ?_ _ | with_reducible refine Below.drew ?_ | with_reducible refine Below.setCell ?_ (by first | exact Nat.le_refl _ | (simp; done) | (simp; omega) | omega) _)))) hl hs).mono ?_
    rintro e w1 ⟨vP, rfl, HP, hbP⟩
    rw [HR.out] at HP ⊢
    replace HP : Own fStr w1 _ 9 vP (r2.map Nm.mk) := HP
    have HP2 := HP
    obtain ⟨A2, c2, hv2, hc2, hm2, hsl⟩ := HP2.slV
    have hvs := hide hv2
    have hb0 := below_then (Below.alloc (Below.refl _ w) (Nat.le_refl _) (Obj.cells #[.int .i64 0, .string ⟨#[]⟩] 102)) (by simp) hbP
    have hblk := blk_new hbP
    have k0 : w1.cell? ⟨w.heap.size, 0, none⟩ = some (.int .i64 0) := blk_cell hblk 0
    have k1 : w1.cell? ⟨w.heap.size, 1, none⟩ = some (.string ⟨#[]⟩) := blk_cell hblk 1
    have f0 := blk_free hblk 0
    have f1 := blk_free hblk 1
    clear hblk hbP HP HP2
    by_cases hc0 : r1 = 0
    · subst hc0
      subst hv2
      have hrl : (r2.map Nm.mk).length ≤ maxLen := by omega
      go_wp2_with fail
      have hcall := l1joined_calls A2 c2 (r2.map Nm.mk) _ w1 hsl hrl (by rw [Nm.map_bs_mk]; exact hj)
      rw [List.length_map, Nm.map_bs_mk] at hcall
      refine hcall.mono ?_
      clear hcall
      rintro e w' ⟨rfl, rfl⟩
      generalize ht : Nm.mk (Nm.join r2) = t
      have hts : t.size = (Nm.join r2).length := by rw [← ht, Nm.mk_size]
      have HTS := hide hts
      clear hts
      have HT := hide ht
      clear ht
      by_cases hje : Nm.join r2 = []
      · have HQ := hide (Nm.named_none H60.out HR.out rfl hje)
        have hE1 : t.toList.isEmpty = true := tl_e (by rw [← HT.out, hje]; rfl)
        clear hje
        go_wp2_with fail
        exact bodyPost_ret (v := .agg #[.int .i64 1, .string ⟨#[]⟩]) (by simp [results, Tryz.results90, go_sem, k0, k1]) rfl ⟨by rw [HQ.out]; rfl, by (repeat (first | with_reducible exact Below.refl _ _ | with_reducible assumption | with_reducible refine Below.alloc ?_ (by first | exact Nat.le_refl _ | exact Below.size (by assumption) | exact Nat.le_trans (Below.size (by assumption)) (by simp; done) | (simp; done) | (simp; omega) | omega) _ | with_reducible refine below_drewN ?_ _ | with_reducible refine Below.drew ?_ | with_reducible refine Below.setCell ?_ (by first | exact Nat.le_refl _ | (simp; done) | (simp; omega) | omega) _))⟩
      have hE1 : t.toList.isEmpty = false := tl_n (fun e => hje (Nm.mk_inj (HT.out.trans e)))
      by_cases h6 : 60 < t.size
      · have HQ := hide (Nm.named_over H60.out HR.out rfl hje (by rw [← HTS.out]; exact h6))
        clear hje
        go_wp2_with fail
        exact bodyPost_ret (v := .agg #[.int .i64 3, .string ⟨#[]⟩]) (by simp [results, Tryz.results90, go_sem, k0, k1]) rfl ⟨by rw [HQ.out]; rfl, by (repeat (first | with_reducible exact Below.refl _ _ | with_reducible assumption | with_reducible refine Below.alloc ?_ (by first | exact Nat.le_refl _ | exact Below.size (by assumption) | exact Nat.le_trans (Below.size (by assumption)) (by simp; done) | (simp; done) | (simp; omega) | omega) _ | with_reducible refine below_drewN ?_ _ | with_reducible refine Below.drew ?_ | with_reducible refine Below.setCell ?_ (by first | exact Nat.le_refl _ | (simp; done) | (simp; omega) | omega) _))⟩
      · have HQ := hide (Nm.named_ok H60.out HR.out rfl hje (by rw [← HTS.out]; exact h6))
        clear hje
        go_wp2_with fail
        exact bodyPost_ret (v := .agg #[.int .i64 0, .string t]) (by simp [results, Tryz.results90, go_sem, k0, k1]) rfl ⟨by rw [HQ.out, ← HT.out], by (repeat (first | with_reducible exact Below.refl _ _ | with_reducible assumption | with_reducible refine Below.alloc ?_ (by first | exact Nat.le_refl _ | exact Below.size (by assumption) | exact Nat.le_trans (Below.size (by assumption)) (by simp; done) | (simp; done) | (simp; omega) | omega) _ | with_reducible refine below_drewN ?_ _ | with_reducible refine Below.drew ?_ | with_reducible refine Below.setCell ?_ (by first | exact Nat.le_refl _ | (simp; done) | (simp; omega) | omega) _))⟩
    · have HQ := hide (Nm.named_code H60.out HR.out hc0)
      have hcb : (r1 != 0) = true := by simpa using hc0
      clear hc0 hv2
      go_wp2_with fail
      exact bodyPost_ret (v := .agg #[.int .i64 r1, .string ⟨#[]⟩]) (by simp [results, Tryz.results90, go_sem, k0, k1]) rfl ⟨by rw [HQ.out]; rfl, by (repeat (first | with_reducible exact Below.refl _ _ | with_reducible assumption | with_reducible refine Below.alloc ?_ (by first | exact Nat.le_refl _ | exact Below.size (by assumption) | exact Nat.le_trans (Below.size (by assumption)) (by simp; done) | (simp; done) | (simp; omega) | omega) _ | with_reducible refine below_drewN ?_ _ | with_reducible refine Below.drew ?_ | with_reducible refine Below.setCell ?_ (by first | exact Nat.le_refl _ | (simp; done) | (simp; omega) | omega) _))⟩
/-- a walk's row of parts is no longer than what went in -/
theorem walk_size : ∀ (ps row : List Nm.Bs), (Nm.walk row ps).2.length ≤ row.length + ps.length
  | [], row => by simp [Nm.walk]
  | p :: ps, row => by
    unfold Nm.walk
    split
    · have := walk_size ps row; simp; omega
    · split
      · split
        · simp
        · have := walk_size ps row.dropLast; simp at this ⊢; omega
      · split
        · have := walk_size ps (row ++ [p]); simp at this ⊢; omega
        · simp
theorem walk_parts (n : Nat) : ∀ (ps row : List Nm.Bs), (∀ p ∈ ps, p.length ≤ n) → (∀ p ∈ row, p.length ≤ n) → ∀ p ∈ (Nm.walk row ps).2, p.length ≤ n
  | [], row, _, hr => by simpa [Nm.walk] using hr
  | p :: ps, row, hp, hr => by
    have hps : ∀ q ∈ ps, q.length ≤ n := fun q hq => hp q (List.mem_cons_of_mem _ hq)
    unfold Nm.walk
    split
    · exact walk_parts n ps row hps hr
    · split
      · split
        · simp
        · exact walk_parts n ps row.dropLast hps (fun q hq => hr q (List.dropLast_subset row hq))
      · split
        · refine walk_parts n ps (row ++ [p]) hps (fun q hq => ?_)
          rcases List.mem_append.1 hq with h | h
          · exact hr q h
          · simp at h; subst h; exact hp _ (by simp)
        · simp
theorem join_size (n : Nat) : ∀ (ps : List Nm.Bs), (∀ p ∈ ps, p.length ≤ n) → (Nm.join ps).length ≤ ps.length * (n + 1)
  | [], _ => by simp [Nm.join_nil]
  | [p], h => by have := h p (by simp); simp [Nm.join_one]; omega
  | p :: q :: r, h => by
    have h1 : Nm.join (p :: q :: r) = p ++ [47] ++ Nm.join (q :: r) := by simp [Nm.join, Lib.join, List.intercalate, List.intersperse_cons_cons]
    have ih := join_size n (q :: r) (fun x hx => h x (List.mem_cons_of_mem _ hx))
    have hp := h p (by simp)
    rw [h1, List.length_append, List.length_append, List.length_cons (a := p), Nat.succ_mul]
    simp at ih ⊢; omega
theorem bound_named (row : List Nm.Bs) (s : Str) (hs : s.size ≤ 60) (hr : row.length ≤ 1048636) (hp : ∀ p ∈ row, p.length ≤ 60) : (Nm.join (Nm.walk row (Nm.parts (Nm.bs s))).2).length ≤ 1073741824 := by
  have hb := Nm.bs_length s
  have h1 := walk_size (Nm.parts (Nm.bs s)) row
  have h2 := walk_parts 60 (Nm.parts (Nm.bs s)) row (fun p hp => by have := Nm.parts_le _ p hp; omega) hp
  have h3 := join_size 60 _ h2
  have h4 := Nm.parts_length (Nm.bs s)
  have h5 : (Nm.walk row (Nm.parts (Nm.bs s))).2.length ≤ 1048700 := by omega
  have h6 := Nat.mul_le_mul_right 61 h5
  omega

set_option maxHeartbeats 400000 in
theorem sClean_calls (s : Str) (w : World) (hs : s.size ≤ 1073741824) : Calls Tryz.prog 59 #[.string s] w (RetNamed w (Nm.clean s)) := by
  have hcall : ∀ W : World, Calls Tryz.prog 90 #[.slice none 0 0, .string s] W (RetNamed W (Nm.clean s)) := fun W => l1named_calls none 0 [] (fun _ => True) s W Sl.nil (by simp) hs (fun r hr h60 => by rw [← hr]; exact bound_named [] s h60 (by simp) (by simp))
  obtain ⟨r1, r2, hr⟩ : ∃ r1 r2, Nm.clean s = (r1, r2) := ⟨_, _, rfl⟩
  rw [hr] at hcall
  have HR := hide hr
  have HC := hide hcall
  clear hcall hr
  go_enter Tryz.func59, Tryz.ntmps59
  go_wp2_with fail
  refine (HC.out _).mono ?_
  rintro e w1 ⟨rfl, hb⟩
  have hblk := blk_new hb; have k0 : w1.cell? ⟨w.heap.size, 0, none⟩ = some _ := blk_cell hblk 0; have k1 : w1.cell? ⟨w.heap.size, 1, none⟩ = some _ := blk_cell hblk 1; have f0 := blk_free hblk 0; have f1 := blk_free hblk 1; clear hblk
  have hb0 := below_then (Below.alloc (Below.refl _ w) (Nat.le_refl _) (Obj.cells #[.int .i64 0, .string ⟨#[]⟩] 102)) (by simp) hb
  clear hb
  go_wp2_with fail
  exact bodyPost_ret (v := .agg #[.int .i64 r1, .string r2]) (by simp [results, Tryz.results59, go_sem, k0, k1]) rfl ⟨by rw [HR.out], by (repeat (first | with_reducible exact Below.refl _ _ | with_reducible assumption | with_reducible refine Below.alloc ?_ (by first | exact Nat.le_refl _ | exact Below.size (by assumption) | exact Nat.le_trans (Below.size (by assumption)) (by simp; done) | (simp; done) | (simp; omega) | omega) _ | with_reducible refine below_drewN ?_ _ | with_reducible refine Below.drew ?_ | with_reducible refine Below.setCell ?_ (by first | exact Nat.le_refl _ | (simp; done) | (simp; omega) | omega) _))⟩
end Go.Proofs.YtkhlicmlnjccdaaGreatDoor

namespace Go.Proofs.YtkhlicmlnjccdaaGreatDoor
open Go.RowKit Mem
namespace Nm
def cutset : Str := ⟨#[97, 98, 99, 100, 101, 102, 103, 104, 105, 106, 107, 108, 109, 110, 111, 112, 113, 114, 115, 116, 117, 118, 119, 120, 121, 122, 48, 49, 50, 51, 52, 53, 54, 55, 56, 57, 95, 45]⟩
theorem cutset_ok (b : UInt8) : cutset.data.toList.contains b = okByte b := by
  have h : ∀ n, n < 256 → cutset.data.toList.contains (UInt8.ofNat n) = okByte (UInt8.ofNat n) := by decide +kernel
  have := h b.toNat b.toNat_lt
  rwa [UInt8.ofNat_toNat] at this
theorem dropWhile_nil {p : UInt8 → Bool} : ∀ {l : Bs}, l.dropWhile p = [] ↔ l.all p = true
  | [] => by simp
  | a :: r => by
    rw [List.dropWhile_cons, List.all_cons]
    split
    · rename_i h; rw [dropWhile_nil, h]; simp
    · rename_i h; simp [h]
theorem dropWhile_head {p : UInt8 → Bool} : ∀ {l : Bs} {a : UInt8} {t : Bs}, l.dropWhile p = a :: t → p a = false
  | [], _, _, h => by simp at h
  | b :: r, a, t, h => by
    rw [List.dropWhile_cons] at h
    split at h
    · exact dropWhile_head h
    · rename_i hb; cases h; simpa using hb
theorem trim_nil (l cs : Bs) : Lib.trimS l cs = [] ↔ l.all (cs.contains ·) = true := by
  unfold Lib.trimS Lib.trimLeftS Lib.trimRightS
  constructor
  · intro h
    have h1 := dropWhile_nil.1 h
    cases hx : l.reverse.dropWhile (cs.contains ·) with
    | nil => have := dropWhile_nil.1 hx; rwa [List.all_reverse] at this
    | cons a t =>
      rw [hx, List.all_reverse] at h1
      have h2 := dropWhile_head hx
      have h3 := List.all_eq_true.1 h1 a (by simp)
      rw [h3] at h2; simp at h2
  · intro h
    have h1 : l.reverse.dropWhile (cs.contains ·) = [] := dropWhile_nil.2 (by rw [List.all_reverse]; exact h)
    rw [h1]; rfl
theorem trim_plain (p : Str) : (p ≠ ⟨#[]⟩ ∧ Lib.trimS p.data.toList cutset.data.toList = []) ↔ plain (bs p) = true := by
  have e : (fun b => cutset.data.toList.contains b) = okByte := funext cutset_ok
  rw [trim_nil, e]
  unfold plain
  rw [Bool.and_eq_true]
  refine and_congr ?_ Iff.rfl
  constructor
  · intro h
    cases hb : bs p with
    | nil => exact absurd (bs_inj (b := ⟨#[]⟩) hb) h
    | cons a t => rfl
  · intro h e2
    rw [e2] at h
    simp [bs] at h
end Nm

set_option maxHeartbeats 400000 in
theorem plain_calls (p : Str) (w : World) (hs : p.size ≤ 1073741824) : Calls Tryz.prog 108 #[.string p] w fun e w' => e = .returned (.bool (Nm.plain (Nm.bs p))) ∧ Below w.heap.size w w' := by
  have ht := Nm.trim_plain p
  have HT := hide ht
  clear ht
  by_cases hp : p = ⟨#[]⟩
  · subst hp
    go_enter Tryz.func108, Tryz.ntmps108
    go_wp2_with fail
    go_ret
    exact ⟨ret_bool (by rfl), by (repeat (first | with_reducible exact Below.refl _ _ | with_reducible assumption | with_reducible refine Below.alloc ?_ (by first | exact Nat.le_refl _ | exact Below.size (by assumption) | exact Nat.le_trans (Below.size (by assumption)) (by simp; done) | (simp; done) | (simp; omega) | omega) _ | with_reducible refine below_drewN ?_ _ | with_reducible refine Below.drew ?_ | with_reducible refine Below.setCell ?_ (by first | exact Nat.le_refl _ | (simp; done) | (simp; omega) | omega) _))⟩
  · have hE1 : p.toList.isEmpty = false := tl_n hp
    have hE2 : (!p.toList.isEmpty) = true := by rw [hE1]; rfl
    have hcall : ∀ W : World, Calls Tryz.prog 126 #[.string p, .string Nm.cutset] W fun e w' => e = .returned (.string ⟨(Lib.trimS p.data.toList Nm.cutset.data.toList).toArray⟩) ∧ Below W.heap.size W w' :=
      fun W => Any.strings_Trim_laid Tryz.lays160 (by kernel_rfl) p Nm.cutset W (by omega) (by decide) (ascii_of_all (by decide +kernel))
    generalize hq : (⟨(Lib.trimS p.data.toList Nm.cutset.data.toList).toArray⟩ : Str) = q at hcall
    have HQ := hide hq
    have HP := hide hp
    have HC := hide hcall
    clear hcall hq hp
    go_enter Tryz.func108, Tryz.ntmps108
    go_wp2_with fail
    refine (HC.out _).mono ?_
    rintro e w1 ⟨rfl, hb⟩
    go_wp2_with fail
    go_ret
    refine ⟨ret_bool ?_, hb⟩
    rw [Bool.eq_iff_iff, ← HT.out]
    constructor
    · intro h
      refine ⟨HP.out, ?_⟩
      have : q.toList = [] := by simpa using h
      rw [toList_data', ← HQ.out] at this
      exact this
    · rintro ⟨_, h⟩
      have : q.toList = [] := by rw [toList_data', ← HQ.out]; exact h
      rw [this]; rfl
/-- the library's variable that its search reads holds a number -/
def ML (w : World) : Prop := ∃ m, w.cell? ⟨3, 0, none⟩ = some (.int .i64 m)
theorem ML.below {w w' : World} (h : ML w) (k : Below w.heap.size w w') : ML w' := by
  obtain ⟨m, h⟩ := h
  exact ⟨m, (k.cell (World.block_lt_of_cell? w _ h)).trans h⟩
theorem ML.same {w w' : World} (h : ML w) (k : w'.heap[3]? = w.heap[3]?) : ML w' := by
  obtain ⟨m, h⟩ := h
  exact ⟨m, (World.cell?_of_block k).trans h⟩

theorem split_calls (s : Str) (w : World) (hs : s.size ≤ 1073741824) (hm : ML w) : Calls Tryz.prog 107 #[.string s, .string ⟨#[47]⟩] w (RetOwn fStr w 9 ((Nm.parts (Nm.bs s)).map Nm.mk)) := by
  obtain ⟨m, hm⟩ := hm
  refine (Tryz.strings_Split s ⟨#[47]⟩ m w (by omega) hm (by decide)).mono ?_
  rintro e w' ⟨rfl, rfl⟩
  have hc := Nm.countB_parts s
  have hp := Nm.parts_length (Nm.bs s)
  rw [Nm.bs_length] at hp
  refine ⟨_, rfl, ?_, by (repeat (first | with_reducible exact Below.refl _ _ | with_reducible assumption | with_reducible refine Below.alloc ?_ (by first | exact Nat.le_refl _ | exact Below.size (by assumption) | exact Nat.le_trans (Below.size (by assumption)) (by simp; done) | (simp; done) | (simp; omega) | omega) _ | with_reducible refine below_drewN ?_ _ | with_reducible refine Below.drew ?_ | with_reducible refine Below.setCell ?_ (by first | exact Nat.le_refl _ | (simp; done) | (simp; omega) | omega) _))⟩
  rw [hc, Nm.splitB_eq]
  have h := World.ownsRow_lit (base := w.heap.size) (e := 9) (size := 1) w (((Nm.parts (Nm.bs s)).map Nm.mk).map Value.string).toArray (Nm.parts (Nm.bs s)).length (Nat.le_refl _) (by simp only [maxLen]; omega) (by simp)
  have he : fStr.all ((Nm.parts (Nm.bs s)).map Nm.mk) = ((Nm.parts (Nm.bs s)).map Nm.mk).map Value.string := by
    induction Nm.parts (Nm.bs s) with
    | nil => rfl
    | cons a r ih => rw [List.map_cons, List.map_cons, ← ih]; rfl
  unfold Own
  rw [he, List.length_map]
  exact h

theorem join_calls (A : Option Addr) (c n : Nat) (xs : List Str) (w : World) (base : Nat) (h : Own fStr w base 9 (.slice A n c) xs) (hn : xs.length = n) (hj : (Nm.join (xs.map Nm.bs)).length ≤ 1073741824) (hl : n ≤ 1073741824) :
    Calls Tryz.prog 31 #[.slice A n c, .string ⟨#[47]⟩] w fun e w' => e = .returned (.string (Nm.mk (Nm.join (xs.map Nm.bs)))) ∧ Below w.heap.size w w' := by
  subst hn
  by_cases hx : xs = []
  · subst hx
    refine (Tryz.strings_Join_none A c ⟨#[47]⟩ w).mono ?_
    rintro e w' ⟨rfl, rfl⟩
    exact ⟨rfl, Below.refl _ _⟩
  · obtain ⟨g, c', hv, hb, hg, hc, hm, _, hs⟩ := h.form hx
    injection hv with hA _ hcc
    subst hA hcc
    have hs' : ∀ (j : Nat) x, xs[j]? = some x → w.cell? ⟨g, 0 + j, none⟩ = some (.string x) := fun j x hx' => by
      obtain ⟨ad, e, hc⟩ := hs hx
      injection e with e
      subst e
      have := (hc j x hx').2
      rwa [show j * fStr.kind.size = j from Nat.mul_one j, add_plain] at this
    exact (Tryz.strings_Join g 0 c xs ⟨#[47]⟩ w hs' hg (by omega) hc (show (Nm.join (xs.map Nm.bs)).length ≤ 140737488355328 by omega))
end Go.Proofs.YtkhlicmlnjccdaaGreatDoor

namespace Go.Proofs.YtkhlicmlnjccdaaGreatDoor
open Go.ChangeShapes Go.WideShapes Go.ChangeAt Go.RowKit

theorem own : ownKnob Tryz.prog.godebug = none := by kernel_rfl

section
variable {H : Type} {enc : TypeId × Value → H} {P : Program}
theorem trodAll_below {W W' : World} (hl : laidOutB P = true) (hb : Below W.heap.size W W') : ∀ (ts : List TypeId) (vs : List Value) (ds : List (DataW H)) (ps : List MemPlace),
    ts.all (fun t => P.readableRec t && decide (t < P.types.size)) = true → DataW.TrodAll enc P W 0 (fun _ => true) true ts vs ds ps → (∀ x ∈ ps, x.block < W.heap.size) →
    DataW.TrodAll enc P W' 0 (fun b => decide (b < W.heap.size)) true ts vs ds ps
  | [], [], [], ps, _, h, _ => h
  | [], [], _ :: _, _, _, h, _ => h.elim
  | [], _ :: _, _, _, _, h, _ => h.elim
  | _ :: _, [], _, _, _, h, _ => h.elim
  | _ :: _, _ :: _, [], _, _, h, _ => h.elim
  | t :: ts, v :: vs, d :: ds, ps, ha, h, hlt => by
    obtain ⟨p, q, h1, h2, rfl⟩ := h
    simp only [List.all_cons, Bool.and_eq_true] at ha
    obtain ⟨⟨hr, hs⟩, ht⟩ := ha
    exact ⟨p, q, Below.trod hl hr (of_decide_eq_true hs) h1 hb (fun x hx => hlt x (List.mem_append_left _ hx)),
      trodAll_below hl hb ts vs ds q ht h2 (fun x hx => hlt x (List.mem_append_right _ hx)), rfl⟩

/-- a law's post: it returned true; what was there is as it was -/
theorem law_post {f : Func} {s : ChangeSpec} {W W' : World} {args : Array Value} {ds gs : List (DataW H)} {before : List MemPlace} {tb : TypeId}
    (hl : laidOutB P = true) (hr : f.params.toList.all (fun t => P.readableRec t && decide (t < P.types.size)) = true) (hvars : s.vars = []) (hres : f.resultTypes = #[tb]) (htb : P.underlying tb = some .bool)
    (hW : DataW.Whole enc P f.params.toList s.vars false W args.toList ds gs before) (hb : Below W.heap.size W W')
    (h1 : (s.fn H (ds ++ gs)).results = [.lit (.bool true)]) (h2 : (s.fn H (ds ++ gs)).args = ds) (h3 : (s.fn H (ds ++ gs)).vars = []) :
    s.post enc P f false true false false W args (.bool true) W' := by
  have hlt : ∀ p ∈ before, p.block < W.heap.size := fun p hp => hW.lt p hp
  have hW' := hW
  obtain ⟨p, q, hA, hV, rfl, hz, hn⟩ := hW
  rw [hvars] at hV
  obtain ⟨rfl, rfl⟩ := trodVars_none hV
  rw [List.append_nil] at hlt hW'
  refine ⟨ds, [], p, [], p, [], hW', ?_, ?_, ?_, World.keptBut_mono (fun x hx => ⟨hx, Or.inr (Or.inl hx)⟩) (hb.frame (· ∈ p)), fun h => by cases h⟩
  · rw [h1, hres]
    exact trodAll_mk1 (shut_bool htb _)
  · rw [h2]
    exact trodAll_below hl hb _ _ _ _ hr hA hlt
  · rw [h3, hvars]; rfl
end
theorem laidOut : laidOutB Tryz.prog = true := by kernel_rfl
open Mem in
/-- an argument that is a slice of texts -/
theorem strs_open {H : Type} {enc : TypeId × Value → H} {W : World} {d : DataW H} {p : List MemPlace} {a : Option Addr} {len cap : Nat} {spare : Nat → Bool} (h : DataW.Trod enc Tryz.prog W 0 spare true 23 (.slice a len cap) d p) :
    ∃ ss : List Str, Sl kStr W (fun _ => True) a ss ∧ ss.length = len ∧ len ≤ maxLen ∧ ∀ s ∈ ss, s.size ≤ maxLen := by
  obtain ⟨fuel, hf⟩ := h
  rcases open_strings Tryz.underlying23 Tryz.underlying9 (by kernel_rfl) hf with ⟨hcs, hx⟩ | ⟨a', len', cap', ss, hcs, _, hl, hm, hlen, hx, hcell, hws⟩
  · have hcs' : [Value.slice a len cap] = [.slice none 0 0] := hcs
    injection hcs' with hcs' _
    injection hcs' with h1 h2 h3
    subst h1 h2 h3
    exact ⟨[], Sl.nil, rfl, Nat.zero_le _, fun s hs => by simp at hs⟩
  · have hcs' : [Value.slice a len cap] = [.slice (some a') len' cap'] := hcs
    injection hcs' with hcs' _
    injection hcs' with h1 h2 h3
    subst h1 h2 h3
    have hle : len ≤ ss.length := by rw [hlen]; split <;> omega
    refine ⟨ss.take len, fun hne => ⟨a', rfl, fun i x hi => ?_⟩, by rw [List.length_take]; omega, by omega, fun s hs => hws s (List.mem_of_mem_take hs)⟩
    have hil : i < len := by
      rcases Nat.lt_or_ge i len with h | h
      · exact h
      · rw [List.getElem?_eq_none (by rw [List.length_take]; omega)] at hi; simp at hi
    have hc := hcell i (by omega)
    rw [List.getElem?_take, if_pos hil] at hi
    refine ⟨trivial, ?_⟩
    rw [show i * kStr.size = i from Nat.mul_one i, hc, List.getD_eq_getElem?_getD, hi]; rfl

/-- the cells of a table of numbers -/
def tabCells : DataW Unit → List Value
  | .lit l => [l.value]
  | .agg xs => tabAll xs
  | _ => []
where tabAll : List (DataW Unit) → List Value
  | [] => []
  | x :: r => tabCells x ++ tabAll r

theorem args_eq {args : Array Value} {vs : List Value} (h : args.toList = vs) : args = vs.toArray := by rw [← h]
def lay (cs : List Value) : Obj → Obj
  | .cells _ t frozen => .cells cs.toArray t frozen
  | o => o
/-- A WORLD FOR THE WITNESS: the settled one, the two tables holding what their initialisers lay. -/
noncomputable def laidWorld (os : Os) : World :=
  { World.holding Tryz.prog os ⟨#[], #[], []⟩ with heap := ((World.holding Tryz.prog os ⟨#[], #[], []⟩).heap.modify 7 (lay (tabCells Rows.laid_unicode_utf8_acceptRanges))).modify 6 (lay (tabCells Rows.laid_unicode_utf8_first)) }

theorem ml_of_shaped {W : World} (h : W.ShapedOpen Tryz.prog) : ML W :=
  cell_of_shapedOpen_int (P := Tryz.prog) (g := 3) (t := 3) (zero := #[.int .i64 0]) h (of_decide_eq_true (by kernel_rfl)) (by kernel_rfl) rfl (by kernel_rfl) (by kernel_rfl) Tryz.underlying3
end Go.Proofs.YtkhlicmlnjccdaaGreatDoor
