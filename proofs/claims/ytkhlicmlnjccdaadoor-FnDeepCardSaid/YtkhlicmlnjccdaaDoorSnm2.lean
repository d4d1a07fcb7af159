/-
  Walks: the reference's names: l1joined, l1walk.
-/
import Derived.Test.YtkhlicmlnjccdaaDoorSnm
namespace Go.Proofs.YtkhlicmlnjccdaaDoor
open Go.RowKit Mem

theorem join_take (xs : List Str) (k : Nat) (hk : k < xs.length) (h0 : 0 < k) :
    Nm.mk (Nm.join ((xs.take (k + 1)).map Nm.bs)) = Nm.mk (Nm.join ((xs.take k).map Nm.bs)) ++ ⟨#[47]⟩ ++ xs[k] := by
  apply Nm.bs_inj
  rw [List.take_succ_eq_append_getElem hk, List.map_append, List.map_singleton, Nm.join_snoc _ _ (by intro e; have := congrArg List.length e; rw [List.length_map, List.length_take, List.length_nil] at this; omega), Nm.bs_mk]
  simp [Nm.bs, Nm.mk]
theorem join_take0 (xs : List Str) (hk : 0 < xs.length) : Nm.mk (Nm.join ((xs.take 1).map Nm.bs)) = xs[0] := by
  apply Nm.bs_inj
  rw [List.take_succ_eq_append_getElem hk, List.take_zero, List.nil_append, List.map_singleton, Nm.join_one, Nm.bs_mk]
theorem join_len (xs : List Str) (k : Nat) : (Nm.mk (Nm.join ((xs.take k).map Nm.bs))).size ≤ (Nm.join (xs.map Nm.bs)).length := by
  rw [Nm.mk_size]
  induction xs generalizing k with
  | nil => simp
  | cons x r ih =>
    cases k with
    | zero => simp [Nm.join_nil]
    | succ k =>
      cases r with
      | nil => simp
      | cons y t =>
        have h1 : Nm.join (List.map Nm.bs (x :: y :: t)) = Nm.bs x ++ [47] ++ Nm.join (List.map Nm.bs (y :: t)) := by
          simp [Nm.join, Lib.join, List.intercalate, List.intersperse_cons_cons]
        cases k with
        | zero => rw [h1]; simp [Nm.join_one]
        | succ k =>
          have h2 : Nm.join (List.map Nm.bs (List.take (k + 2) (x :: y :: t))) = Nm.bs x ++ [47] ++ Nm.join (List.map Nm.bs (List.take (k + 1) (y :: t))) := by
            simp [Nm.join, Lib.join, List.intercalate, List.intersperse_cons_cons]
          have := ih (k + 1)
          rw [h1, h2]; simp at this ⊢; omega

set_option maxHeartbeats 400000 in
theorem l1joined_calls (A : Option Addr) (c : Nat) (xs : List Str) (S : Nat → Prop) (w : World) (h : Sl kStr w S A xs) (hl : xs.length ≤ maxLen) (hj : (Nm.join (xs.map Nm.bs)).length ≤ 1073741824) :
    Calls Tryd.prog 92 #[.slice A xs.length c] w fun e w' => e = .returned (.string (Nm.mk (Nm.join (xs.map Nm.bs)))) ∧ w = w' := by
  unfold maxLen at hl
  go_enter Tryd.func92, Tryd.ntmps92
  go_wp2
  go_loop [3, 4, 5, 8] (fun v _ _ i => ∃ (k : Nat) (t : Str), i = .int .i64 k ∧ k ≤ xs.length ∧ v = .string t ∧ Hid (t = Nm.mk (Nm.join ((xs.take k).map Nm.bs))) ∧ t.size ≤ 1073741824) (fun _ _ _ i => xs.length - (intOf i).toNat)
  case atStart => exact ⟨0, _, rfl, by omega, rfl, rfl, Nat.zero_le _⟩
  case round =>
    obtain ⟨k, t, rfl, hk, rfl, HT, hsz⟩ := hrel
    by_cases hlt : k < xs.length
    · obtain ⟨ad, rfl, hc⟩ := h.get hlt
      have e1 : w.cell? (ad.add k) = some (.string xs[k]) := by simpa [kStr] using hc.2
      have hlen := join_len xs (k + 1)
      clear hc h
      by_cases h0 : 0 < k
      · have hjt := join_take xs k hlt h0
        rw [← HT.out] at hjt
        rw [hjt, ByteArray.size_append, ByteArray.size_append] at hlen
        have h47 : (⟨#[47]⟩ : Str).size = 1 := rfl
        have k1 := fun W : World => run_string_add_sum (P := Tryd.prog) (w := W) t ⟨#[47]⟩ (by omega)
        have k2 := fun W : World => run_string_add_sum (P := Tryd.prog) (w := W) (t ++ ⟨#[47]⟩) xs[k] (by rw [ByteArray.size_append]; omega)
        have HJ := hide hjt
        clear hjt
        have hs2 : (t ++ ⟨#[47]⟩ ++ xs[k]).size ≤ 1073741824 := by rw [ByteArray.size_append, ByteArray.size_append]; omega
        clear h47 hlen
        go_wp2
        go_round
        case rel => exact ⟨k + 1, _, by go_num, by omega, rfl, HJ.out.symm, hs2⟩
        case measure => simp [intOf]; omega
      · obtain rfl : k = 0 := by omega
        have e0 : w.cell? ad = some (.string xs[0]) := by simpa [Addr.add] using e1
        clear e1
        have hjt := join_take0 xs hlt
        rw [hjt] at hlen
        have ht0 : t = ⟨#[]⟩ := HT.out
        subst ht0
        have k1 := fun W : World => run_string_add_sum (P := Tryd.prog) (w := W) ⟨#[]⟩ xs[0] (by have : (⟨#[]⟩ : Str).size = 0 := rfl; omega)
        have he : (⟨#[]⟩ : Str) ++ xs[0] = xs[0] := by apply Nm.bs_inj; simp [Nm.bs]
        have HE := hide he
        have HJ := hide hjt
        clear hjt he
        have hs2 : xs[0].size ≤ 1073741824 := by omega
        go_wp2
        go_round
        case rel => exact ⟨1, xs[0], rfl, by omega, by rw [HE.out], HJ.out.symm, hs2⟩
        case measure => simp [intOf]; omega
    · go_wp2
      go_ret
      obtain rfl : k = xs.length := by omega
      exact ⟨ret_str (by rw [HT.out, List.take_length]), rfl⟩
end Go.Proofs.YtkhlicmlnjccdaaDoor
