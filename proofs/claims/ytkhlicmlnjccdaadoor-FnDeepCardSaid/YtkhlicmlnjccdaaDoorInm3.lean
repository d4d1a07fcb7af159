/-
  The program's Clean and Within answer as the reference's: plain laws and walks.
-/
import Derived.Test.YtkhlicmlnjccdaaDoorInm2
namespace Go.Proofs.YtkhlicmlnjccdaaDoor
open Go.RowKit Mem
namespace Nm
def wt : List Bs → Nat
  | [] => 0
  | p :: r => p.length + 1 + wt r
theorem wt_append (a b : List Bs) : wt (a ++ b) = wt a + wt b := by
  induction a with
  | nil => simp [wt]
  | cons x r ih => simp only [List.cons_append, wt, ih]; omega
theorem wt_dropLast : ∀ (a : List Bs), wt a.dropLast ≤ wt a
  | [] => Nat.le_refl _
  | [x] => by simp [wt]
  | x :: y :: r => by
    have := wt_dropLast (y :: r)
    simp only [List.dropLast_cons_cons, wt] at this ⊢; omega
theorem wt_walk : ∀ (ps row : List Bs), wt (walk row ps).2 ≤ wt row + wt ps
  | [], row => by simp [walk]
  | p :: ps, row => by
    unfold walk
    split
    · have := wt_walk ps row; simp only [wt]; omega
    · split
      · split
        · simp [wt]
        · have := wt_walk ps row.dropLast; have := wt_dropLast row; simp only [wt]; omega
      · split
        · have := wt_walk ps (row ++ [p]); rw [wt_append] at this; simp only [wt] at this ⊢; omega
        · simp [wt]
theorem wt_parts : ∀ (l : Bs), wt (parts l) = l.length + 1
  | [] => rfl
  | c :: r => by
    have ih := wt_parts r
    unfold parts
    split
    · simp only [wt, ih, List.length_nil, List.length_cons]; omega
    · split
      · rename_i h; exact absurd h (parts_ne r)
      · rename_i h; rw [h] at ih; simp only [wt, List.length_cons] at ih ⊢; omega
theorem wt_join : ∀ (ps : List Bs), ps ≠ [] → (join ps).length + 1 = wt ps
  | [], h => absurd rfl h
  | [p], _ => by simp [join_one, wt]
  | p :: q :: r, _ => by
    have h1 : join (p :: q :: r) = p ++ [47] ++ join (q :: r) := by simp [join, Lib.join, List.intercalate, List.intersperse_cons_cons]
    have ih := wt_join (q :: r) (by simp)
    rw [h1, List.length_append, List.length_append]
    simp only [wt, List.length_singleton] at ih ⊢; omega
/-- all parts of a walk's row are plain, where they were -/
theorem walk_plain : ∀ (ps row : List Bs), (∀ p ∈ row, plain p = true) → ∀ p ∈ (walk row ps).2, plain p = true
  | [], row, hr => by simpa [walk] using hr
  | p :: ps, row, hr => by
    unfold walk
    split
    · exact walk_plain ps row hr
    · split
      · split
        · simp
        · exact walk_plain ps row.dropLast (fun q hq => hr q (List.dropLast_subset row hq))
      · split
        · rename_i hp
          refine walk_plain ps (row ++ [p]) (fun q hq => ?_)
          rcases List.mem_append.1 hq with h | h
          · exact hr q h
          · simp at h; subst h; exact hp
        · simp
theorem plain_len {p : Bs} (h : plain p = true) : 0 < p.length := by
  cases p with
  | nil => simp [plain] at h
  | cons a t => simp
theorem join_ne {ps : List Bs} (h : ps ≠ []) (hp : ∀ p ∈ ps, plain p = true) : join ps ≠ [] := by
  intro e
  have h1 := wt_join ps h
  rw [e] at h1
  cases ps with
  | nil => exact h rfl
  | cons p r =>
    have := plain_len (hp p (by simp))
    simp only [wt, List.length_nil] at h1; omega
theorem iwalk_named (row : List Bs) (name : Bs) (h : ¬ 60 < name.length) (hp : ∀ p ∈ row, plain p = true) :
    (if 60 < (iwalk row name).2.length then ((3 : Int), ([] : Bs)) else iwalk row name) = named row name := by
  generalize hr : walk row (parts name) = r
  have hpl := walk_plain (parts name) row hp
  rw [hr] at hpl
  obtain ⟨c, q⟩ := r
  by_cases hc : c = 0
  · subst hc
    by_cases hq : q = []
    · subst hq
      rw [iwalk_none hr, named_none h hr rfl join_nil]; rfl
    · rw [iwalk_ok hr hq]
      have hj := join_ne hq hpl
      by_cases hl : 60 < (join q).length
      · rw [if_pos hl, named_over h hr rfl hj hl]
      · rw [if_neg hl, named_ok h hr rfl hj hl]
  · rw [named_code h hr hc]
    have : iwalk row name = (c, []) := by unfold iwalk; rw [hr, if_pos hc]
    rw [this]; rfl
theorem iwalk_clean (name : Bs) (h : ¬ 60 < name.length) : iwalk [] name = named [] name := by
  rw [← iwalk_named [] name h (by simp), if_neg]
  have h1 := wt_walk (parts name) []
  rw [wt_parts] at h1
  simp only [wt] at h1
  unfold iwalk
  split
  · simp
  · split
    · simp
    · rename_i hq
      have := wt_join _ hq
      show ¬ 60 < (join (walk [] (parts name)).2).length
      omega
end Nm

set_option maxHeartbeats 400000 in
theorem iClean_calls (s : Str) (w : World) (hs : s.size ≤ 1073741824) (hm : ML w) : Calls Tryd.prog 18 #[.string s] w (RetNamed w (Nm.clean s)) := by
  by_cases h60 : 60 < s.size
  · have hq : Nm.clean s = (3, ⟨#[]⟩) := by
      unfold Nm.clean; rw [Nm.named_long (by rw [Nm.bs_length]; exact h60)]; rfl
    have HQ := hide hq
    clear hq
    go_enter Tryd.func18, Tryd.ntmps18
    go_wp2_with fail
    exact bodyPost_ret (v := .agg #[.int .i64 3, .string ⟨#[]⟩]) (by simp [results, Tryd.results18, go_sem]) rfl ⟨by rw [HQ.out], by (repeat (first | with_reducible exact Below.refl _ _ | with_reducible assumption | with_reducible refine Below.alloc ?_ (by first | exact Nat.le_refl _ | exact Below.size (by assumption) | exact Nat.le_trans (Below.size (by assumption)) (by simp; done) | (simp; done) | (simp; omega) | omega) _ | with_reducible refine below_drewN ?_ _ | with_reducible refine Below.drew ?_ | with_reducible refine Below.setCell ?_ (by first | exact Nat.le_refl _ | (simp; done) | (simp; omega) | omega) _))⟩
  · have hcl : Nm.clean s = ((Nm.iwalk [] (Nm.bs s)).1, Nm.mk (Nm.iwalk [] (Nm.bs s)).2) := by
      unfold Nm.clean; rw [Nm.iwalk_clean _ (by rw [Nm.bs_length]; exact h60)]
    have hcall : ∀ W : World, ML W → Calls Tryd.prog 56 #[.slice none 0 0, .string s] W (RetNamed W (Nm.clean s)) := fun W hW => by
      have := walk_calls none 0 0 [] rfl (fun _ => True) s W Sl.nil (by simp) (by omega) (by simp) hW
      rw [List.map_nil, ← hcl] at this
      exact this
    obtain ⟨r1, r2, hr⟩ : ∃ r1 r2, Nm.clean s = (r1, r2) := ⟨_, _, rfl⟩
    rw [hr] at hcall
    have HR := hide hr
    have HC := hide hcall
    clear hcall hr hcl
    go_enter Tryd.func18, Tryd.ntmps18
    go_wp2_with fail
    refine (HC.out _ (hm.below (by (repeat (first | with_reducible exact Below.refl _ _ | with_reducible assumption | with_reducible refine Below.alloc ?_ (by first | exact Nat.le_refl _ | exact Below.size (by assumption) | exact Nat.le_trans (Below.size (by assumption)) (by simp; done) | (simp; done) | (simp; omega) | omega) _ | with_reducible refine below_drewN ?_ _ | with_reducible refine Below.drew ?_ | with_reducible refine Below.setCell ?_ (by first | exact Nat.le_refl _ | (simp; done) | (simp; omega) | omega) _))))).mono ?_
    rintro e w1 ⟨rfl, hb⟩
    have hblk := blk_new hb; have k0 : w1.cell? ⟨w.heap.size, 0, none⟩ = some _ := blk_cell hblk 0; have k1 : w1.cell? ⟨w.heap.size, 1, none⟩ = some _ := blk_cell hblk 1; have f0 := blk_free hblk 0; have f1 := blk_free hblk 1; clear hblk
    have hb0 := below_then (Below.alloc (Below.refl _ w) (Nat.le_refl _) (Obj.cells #[.int .i64 0, .string ⟨#[]⟩] 23)) (by simp) hb
    clear hb
    go_wp2_with fail
    exact bodyPost_ret (v := .agg #[.int .i64 r1, .string r2]) (by simp [results, Tryd.results18, go_sem, k0, k1]) rfl ⟨by rw [HR.out], by (repeat (first | with_reducible exact Below.refl _ _ | with_reducible assumption | with_reducible refine Below.alloc ?_ (by first | exact Nat.le_refl _ | exact Below.size (by assumption) | exact Nat.le_trans (Below.size (by assumption)) (by simp; done) | (simp; done) | (simp; omega) | omega) _ | with_reducible refine below_drewN ?_ _ | with_reducible refine Below.drew ?_ | with_reducible refine Below.setCell ?_ (by first | exact Nat.le_refl _ | (simp; done) | (simp; omega) | omega) _))⟩
end Go.Proofs.YtkhlicmlnjccdaaDoor
