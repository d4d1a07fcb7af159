/-
  Walks: the program's names: plain, walk, Clean.
-/
import Derived.Test.YtkhlicmlnjccdaaDoorSnm4
import Derived.Test.YtkhlicmlnjccdaaDoorShelf
import Derived.Shelf.Strings.SlTrimAscii
namespace Go.Proofs.YtkhlicmlnjccdaaDoor
open Go.RowKit Mem
namespace Nm
def cutset : Str := ⟨#[97, 98, 99, 100, 101, 102, 103, 104, 105, 106, 107, 108, 109, 110, 111, 112, 113, 114, 115, 116, 117, 118, 119, 120, 121, 122, 48, 49, 50, 51, 52, 53, 54, 55, 56, 57, 95, 45]⟩
theorem cutset_ok (b : UInt8) : cutset.data.toList.contains b = okByte b := by
  have h : ∀ n, n < 256 → cutset.data.toList.contains (UInt8.ofNat n) = okByte (UInt8.ofNat n) := by decide +kernel
  have := h b.toNat b.toNat_lt
  rwa [UInt8.ofNat_toNat] at this
theorem dropWhile_nil {p : UInt8 → Bool} : ∀ {l : Bs}, l.dropWhile p = [] ↔ l.all p = true
  | [] => by simp
  | a :: r => by
    rw [List.dropWhile_cons, List.all_cons]
    split
    · rename_i h; rw [dropWhile_nil, h]; simp
    · rename_i h; simp [h]
theorem dropWhile_head {p : UInt8 → Bool} : ∀ {l : Bs} {a : UInt8} {t : Bs}, l.dropWhile p = a :: t → p a = false
  | [], _, _, h => by simp at h
  | b :: r, a, t, h => by
    rw [List.dropWhile_cons] at h
    split at h
    · exact dropWhile_head h
    · rename_i hb; cases h; simpa using hb
theorem trim_nil (l cs : Bs) : Lib.trimS l cs = [] ↔ l.all (cs.contains ·) = true := by
  unfold Lib.trimS Lib.trimLeftS Lib.trimRightS
  constructor
  · intro h
    have h1 := dropWhile_nil.1 h
    cases hx : l.reverse.dropWhile (cs.contains ·) with
    | nil => have := dropWhile_nil.1 hx; rwa [List.all_reverse] at this
    | cons a t =>
      rw [hx, List.all_reverse] at h1
      have h2 := dropWhile_head hx
      have h3 := List.all_eq_true.1 h1 a (by simp)
      rw [h3] at h2; simp at h2
  · intro h
    have h1 : l.reverse.dropWhile (cs.contains ·) = [] := dropWhile_nil.2 (by rw [List.all_reverse]; exact h)
    rw [h1]; rfl
theorem trim_plain (p : Str) : (p ≠ ⟨#[]⟩ ∧ Lib.trimS p.data.toList cutset.data.toList = []) ↔ plain (bs p) = true := by
  have e : (fun b => cutset.data.toList.contains b) = okByte := funext cutset_ok
  rw [trim_nil, e]
  unfold plain
  rw [Bool.and_eq_true]
  refine and_congr ?_ Iff.rfl
  constructor
  · intro h
    cases hb : bs p with
    | nil => exact absurd (bs_inj (b := ⟨#[]⟩) hb) h
    | cons a t => rfl
  · intro h e2
    rw [e2] at h
    simp [bs] at h
end Nm

set_option maxHeartbeats 400000 in
theorem plain_calls (p : Str) (w : World) (hs : p.size ≤ 1073741824) : Calls Tryd.prog 93 #[.string p] w fun e w' => e = .returned (.bool (Nm.plain (Nm.bs p))) ∧ Below w.heap.size w w' := by
  have ht := Nm.trim_plain p
  have HT := hide ht
  clear ht
  by_cases hp : p = ⟨#[]⟩
  · subst hp
    go_enter Tryd.func93, Tryd.ntmps93
    go_wp2_with fail
    go_ret
    exact ⟨ret_bool (by rfl), by (repeat (first | with_reducible exact Below.refl _ _ | with_reducible assumption | with_reducible refine Below.alloc ?_ (by first | exact Nat.le_refl _ | exact Below.size (by assumption) | exact Nat.le_trans (Below.size (by assumption)) (by simp; done) | (simp; done) | (simp; omega) | omega) _ | with_reducible refine below_drewN ?_ _ | with_reducible refine Below.drew ?_ | with_reducible refine Below.setCell ?_ (by first | exact Nat.le_refl _ | (simp; done) | (simp; omega) | omega) _))⟩
  · have hE1 : p.toList.isEmpty = false := tl_n hp
    have hE2 : (!p.toList.isEmpty) = true := by rw [hE1]; rfl
    have hcall : ∀ W : World, Calls Tryd.prog 111 #[.string p, .string Nm.cutset] W fun e w' => e = .returned (.string ⟨(Lib.trimS p.data.toList Nm.cutset.data.toList).toArray⟩) ∧ Below W.heap.size W w' :=
      fun W => Any.strings_Trim_laid Tryd.lays160 (by kernel_rfl) p Nm.cutset W (by omega) (by decide) (ascii_of_all (by decide +kernel))
    generalize hq : (⟨(Lib.trimS p.data.toList Nm.cutset.data.toList).toArray⟩ : Str) = q at hcall
    have HQ := hide hq
    have HP := hide hp
    have HC := hide hcall
    clear hcall hq hp
    go_enter Tryd.func93, Tryd.ntmps93
    go_wp2_with fail
    refine (HC.out _).mono ?_
    rintro e w1 ⟨rfl, hb⟩
    go_wp2_with fail
    go_ret
    refine ⟨ret_bool ?_, hb⟩
    rw [Bool.eq_iff_iff, ← HT.out]
    constructor
    · intro h
      refine ⟨HP.out, ?_⟩
      have : q.toList = [] := by simpa using h
      rw [toList_data', ← HQ.out] at this
      exact this
    · rintro ⟨_, h⟩
      have : q.toList = [] := by rw [toList_data', ← HQ.out]; exact h
      rw [this]; rfl
/-- the library's variable that its search reads holds a number -/
def ML (w : World) : Prop := ∃ m, w.cell? ⟨0, 0, none⟩ = some (.int .i64 m)
theorem ML.below {w w' : World} (h : ML w) (k : Below w.heap.size w w') : ML w' := by
  obtain ⟨m, h⟩ := h
  exact ⟨m, (k.cell (World.block_lt_of_cell? w _ h)).trans h⟩
theorem ML.same {w w' : World} (h : ML w) (k : w'.heap[0]? = w.heap[0]?) : ML w' := by
  obtain ⟨m, h⟩ := h
  exact ⟨m, (World.cell?_of_block k).trans h⟩

theorem split_calls (s : Str) (w : World) (hs : s.size ≤ 1073741824) (hm : ML w) : Calls Tryd.prog 58 #[.string s, .string ⟨#[47]⟩] w (RetOwn fStr w 9 ((Nm.parts (Nm.bs s)).map Nm.mk)) := by
  obtain ⟨m, hm⟩ := hm
  refine (Tryd.strings_Split s ⟨#[47]⟩ m w (by omega) hm (by decide)).mono ?_
  rintro e w' ⟨rfl, rfl⟩
  have hc := Nm.countB_parts s
  have hp := Nm.parts_length (Nm.bs s)
  rw [Nm.bs_length] at hp
  refine ⟨_, rfl, ?_, by (repeat (first | with_reducible exact Below.refl _ _ | with_reducible assumption | with_reducible refine Below.alloc ?_ (by first | exact Nat.le_refl _ | exact Below.size (by assumption) | exact Nat.le_trans (Below.size (by assumption)) (by simp; done) | (simp; done) | (simp; omega) | omega) _ | with_reducible refine below_drewN ?_ _ | with_reducible refine Below.drew ?_ | with_reducible refine Below.setCell ?_ (by first | exact Nat.le_refl _ | (simp; done) | (simp; omega) | omega) _))⟩
  rw [hc, Nm.splitB_eq]
  have h := World.ownsRow_lit (base := w.heap.size) (e := 9) (size := 1) w (((Nm.parts (Nm.bs s)).map Nm.mk).map Value.string).toArray (Nm.parts (Nm.bs s)).length (Nat.le_refl _) (by simp only [maxLen]; omega) (by simp)
  have he : fStr.all ((Nm.parts (Nm.bs s)).map Nm.mk) = ((Nm.parts (Nm.bs s)).map Nm.mk).map Value.string := by
    induction Nm.parts (Nm.bs s) with
    | nil => rfl
    | cons a r ih => rw [List.map_cons, List.map_cons, ← ih]; rfl
  unfold Own
  rw [he, List.length_map]
  exact h

theorem join_calls (A : Option Addr) (c n : Nat) (xs : List Str) (w : World) (base : Nat) (h : Own fStr w base 9 (.slice A n c) xs) (hn : xs.length = n) (hj : (Nm.join (xs.map Nm.bs)).length ≤ 1073741824) (hl : n ≤ 1073741824) :
    Calls Tryd.prog 94 #[.slice A n c, .string ⟨#[47]⟩] w fun e w' => e = .returned (.string (Nm.mk (Nm.join (xs.map Nm.bs)))) ∧ Below w.heap.size w w' := by
  subst hn
  by_cases hx : xs = []
  · subst hx
    refine (Tryd.strings_Join_none A c ⟨#[47]⟩ w).mono ?_
    rintro e w' ⟨rfl, rfl⟩
    exact ⟨rfl, Below.refl _ _⟩
  · obtain ⟨g, c', hv, hb, hg, hc, hm, _, hs⟩ := h.form hx
    injection hv with hA _ hcc
    subst hA hcc
    have hs' : ∀ (j : Nat) x, xs[j]? = some x → w.cell? ⟨g, 0 + j, none⟩ = some (.string x) := fun j x hx' => by
      obtain ⟨ad, e, hc⟩ := hs hx
      injection e with e
      subst e
      have := (hc j x hx').2
      rwa [show j * fStr.kind.size = j from Nat.mul_one j, add_plain] at this
    exact (Tryd.strings_Join g 0 c xs ⟨#[47]⟩ w hs' hg (by omega) hc (show (Nm.join (xs.map Nm.bs)).length ≤ 140737488355328 by omega))
end Go.Proofs.YtkhlicmlnjccdaaDoor
