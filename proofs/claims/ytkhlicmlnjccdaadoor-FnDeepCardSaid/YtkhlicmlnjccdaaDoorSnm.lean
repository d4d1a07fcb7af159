/-
  Walks: the reference's names: l1byte, l1parts, l1walk, l1joined, l1named, Clean.
-/
import Derived.Test.YtkhlicmlnjccdaaDoorProg
import Derived.Test.YtkhlicmlnjccdaaDoorNm
import Derived.Test.YtkhlicmlnjccdaaDoorApp
import Derived.WalkKit
import Derived.WalkSpells
import Derived.WalkLawsBesides
import Derived.Outline
import Derived.Deep.QuietTactic
import Derived.BigQuiet
namespace Go.Proofs.YtkhlicmlnjccdaaDoor
open Go.RowKit Mem

set_option maxHeartbeats 400000 in
theorem l1byte_calls (c : UInt8) (w : World) : Calls Tryd.prog 110 #[.int .u8 (c.toNat : Int)] w fun e w' => e = .returned (.bool (Nm.okByte c)) ∧ w = w' := by
  have hlt := c.toNat_lt
  go_enter Tryd.func110, Tryd.ntmps110
  go_wp2
  all_goals go_ret
  all_goals exact ⟨ret_bool (by rw [Bool.eq_iff_iff]; simp [Nm.okByte]; omega), rfl⟩
theorem info_str : (Tryd.prog.info? 9).map (fun i => (i.zero, i.size, i.bytes)) = some (some (.string ByteArray.empty), 1, 16) := by kernel_rfl

set_option maxHeartbeats 400000 in
theorem l1parts_calls (s : Str) (w : World) (hs : s.size ≤ 1073741824) : Calls Tryd.prog 57 #[.string s] w (RetOwn fStr w 9 ((Nm.parts (Nm.bs s)).map Nm.mk)) := by
  have hlen := Nm.bs_length s
  have HL := hide hlen
  clear hlen
  go_enter Tryd.func57, Tryd.ntmps57
  go_wp2
  go_loopw [3, 4, 5] (fun v a i wr => ∃ (k a' : Nat) (done : List Nm.Bs), a = .int .i64 a' ∧ i = .int .i64 k ∧ Hid (Nm.PInv (Nm.bs s) k a' done) ∧ k ≤ s.size + 1 ∧ a' ≤ k ∧ done.length ≤ s.size + 1 ∧ Own fStr wr w.heap.size 9 v (done.map Nm.mk) ∧ Below w.heap.size w wr) (fun _ _ i _ => s.size + 1 - (intOf i).toNat)
  case atStart => exact ⟨0, 0, [], rfl, rfl, Nm.PInv.start _, by omega, by omega, by simp, Own.nil _ _ _, by (repeat (first | with_reducible exact Below.refl _ _ | with_reducible assumption | with_reducible refine Below.alloc ?_ (by first | exact Nat.le_refl _ | exact Below.size (by assumption) | exact Nat.le_trans (Below.size (by assumption)) (by simp; done) | (simp; done) | (simp; omega) | omega) _ | with_reducible refine below_drewN ?_ _ | with_reducible refine Below.drew ?_ | with_reducible refine Below.setCell ?_ (by first | exact Nat.le_refl _ | (simp; done) | (simp; omega) | omega) _))⟩
  case round =>
    obtain ⟨k, a, done, rfl, rfl, HP, hk, hak, hdl, HO, HB⟩ := hrel
    have HX := Nm.extract_mk s a k
    have HX' := hide HX
    clear HX
    by_cases hle : k ≤ s.size
    · by_cases hend : k = s.size
      · have heq : ((k : Int) == (s.size : Int)) = true := by rw [hend]; simp
        have HE := hide hend
        clear hend
        go_wp2_with (at_builtin; refine append_own fStr w.heap.size rfl _ _ 29 9 (.string ByteArray.empty) 16 rfl Tryd.underlying29 info_str rfl (by omega) u3 (done.map Nm.mk) (s.extract a k) #[.string (s.extract a k)] rfl rfl rfl HO HB HB.size (by simp; omega) ?_; intro v1 w1 hown hbel _ _)
        go_roundw
        case rel =>
          have hq := HP.out.last (HE.out.trans HL.out.symm)
          have hq2 := hq.count
          rw [HL.out] at hq2
          refine ⟨k + 1, k + 1, _, by go_num, by go_num, hq, by omega, by omega, hq2, ?_, hbel⟩
          rw [List.map_append, List.map_singleton, ← HX'.out]; exact hown
        case measure => simp [intOf]; omega

      · have hlt : k < s.size := by omega
        have hne : ((k : Int) == (s.size : Int)) = false := by simp; omega
        clear hend
        obtain ⟨b, hb⟩ : ∃ b : UInt8, ∀ h : k < s.size, s[k]'h = b := ⟨s[k], fun _ => rfl⟩
        have HE : Hid ((Nm.bs s)[k]? = some b) := hide (by rw [← hb hlt]; exact List.getElem?_eq_getElem _)
        by_cases hc : b = 47
        · subst hc
          go_wp2_with (at_builtin; refine append_own fStr w.heap.size rfl _ _ 29 9 (.string ByteArray.empty) 16 rfl Tryd.underlying29 info_str rfl (by omega) u3 (done.map Nm.mk) (s.extract a k) #[.string (s.extract a k)] rfl rfl rfl HO HB HB.size (by simp; omega) ?_; intro v1 w1 hown hbel _ _)
          go_roundw
          case rel =>
            have hq := HP.out.cut HE.out
            have hq2 := hq.count
            rw [HL.out] at hq2
            refine ⟨k + 1, k + 1, _, by go_num, by go_num, hq, by omega, by omega, hq2, ?_, hbel⟩
            rw [List.map_append, List.map_singleton, ← HX'.out]; exact hown
          case measure => simp [intOf]; omega

        · have hcb : ((b.toNat : Int) == 47) = false := by
            have : b.toNat ≠ 47 := fun e => hc (UInt8.toNat_inj.1 e)
            simp; omega
          have HC := hide hc
          clear hc
          go_wp2_with fail
          go_roundw
          case rel =>
            exact ⟨k + 1, a, done, rfl, by go_num, HP.out.skip (by rw [HL.out]; exact hlt) (by rw [HE.out]; intro e; exact HC.out (Option.some.inj e)), by omega, by omega, by omega, HO, HB⟩
          case measure => simp [intOf]; omega
    · go_wp2_with fail
      go_ret
      refine ⟨_, rfl, ?_, HB⟩
      rw [HP.out.done (by rw [HL.out]; omega)]; exact HO
end Go.Proofs.YtkhlicmlnjccdaaDoor
