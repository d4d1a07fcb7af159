/-
  Walks: the reference's l1named, Clean, Within, l1near, l1rooted.
-/
import Derived.Test.YtkhlicmlnjccdaaDoorSnm3
namespace Go.Proofs.YtkhlicmlnjccdaaDoor
open Go.RowKit Mem

def RetNamed (w : World) (r : Int × Str) (e : Ending) (w' : World) : Prop := e = .returned (.agg #[.int .i64 r.1, .string r.2]) ∧ Below w.heap.size w w'

set_option maxRecDepth 100000 in
set_option maxHeartbeats 1000000 in
theorem l1named_calls (A : Option Addr) (c : Nat) (xs : List Str) (S : Nat → Prop) (s : Str) (w : World) (h : Sl kStr w S A xs) (hl : xs.length ≤ 1073741824) (hs : s.size ≤ 1073741824)
    (hj : ∀ r, Nm.walk (xs.map Nm.bs) (Nm.parts (Nm.bs s)) = r → s.size ≤ 60 → (Nm.join r.2).length ≤ 1073741824) :
    Calls Tryd.prog 55 #[.slice A xs.length c, .string s] w (RetNamed w ((Nm.named (xs.map Nm.bs) (Nm.bs s)).1, Nm.mk (Nm.named (xs.map Nm.bs) (Nm.bs s)).2)) := by
  by_cases h60 : 60 < s.size
  · have HQ := hide (Nm.named_long (at_ := xs.map Nm.bs) (name := Nm.bs s) (by rw [Nm.bs_length]; exact h60))
    go_enter Tryd.func55, Tryd.ntmps55
    go_wp2_with fail
    exact bodyPost_ret (v := .agg #[.int .i64 3, .string ⟨#[]⟩]) (by simp [results, Tryd.results55, go_sem]) rfl ⟨by rw [HQ.out]; rfl, by (repeat (first | with_reducible exact Below.refl _ _ | with_reducible assumption | with_reducible refine Below.alloc ?_ (by first | exact Nat.le_refl _ | exact Below.size (by assumption) | exact Nat.le_trans (Below.size (by assumption)) (by simp; done) | (simp; done) | (simp; omega) | omega) _ | with_reducible refine below_drewN ?_ _ | with_reducible refine Below.drew ?_ | with_reducible refine Below.setCell ?_ (by first | exact Nat.le_refl _ | (simp; done) | (simp; omega) | omega) _))⟩
  · have h60' : ¬ 60 < (Nm.bs s).length := by rw [Nm.bs_length]; exact h60
    generalize hr : Nm.walk (xs.map Nm.bs) (Nm.parts (Nm.bs s)) = r
    have hj := hj r hr (by omega)
    have HR := hide hr
    clear hr
    have H60 := hide h60'
    clear h60'
    have hcl : ∃ (r1 : Int) (r2 : List Nm.Bs), r = (r1, r2) := ⟨_, _, rfl⟩
    obtain ⟨r1, r2, rfl⟩ := hcl
    replace hj : (Nm.join r2).length ≤ 1073741824 := hj
    go_enter Tryd.func55, Tryd.ntmps55
    go_wp2_with fail
    refine (l1walk_calls A c xs S s _ (h.below (by (repeat (first | with_reducible exact Below.refl _ _ | with_reducible assumption | with_reducible refine Below.alloc ?_ (by first | exact Nat.le_refl _ | exact Below.size (by assumption) | exact Nat.le_trans (Below.size (by assumption)) (by simp; done) | (simp; done) | (simp; omega) | omega) _ | with_reducible refine below_drewN ?_ _ | with_reducible refine Below.drew ?_ | with_reducible refine Below.setCell ?_ (by first | exact Nat.le_refl _ | (simp; done) | (simp; omega) | omega) _)))) hl hs).mono ?_
    rintro e w1 ⟨vP, rfl, HP, hbP⟩
    rw [HR.out] at HP ⊢
    replace HP : Own fStr w1 _ 9 vP (r2.map Nm.mk) := HP
    have HP2 := HP
    obtain ⟨A2, c2, hv2, hc2, hm2, hsl⟩ := HP2.slV
    have hvs := hide hv2
    have hb0 := below_then (Below.alloc (Below.refl _ w) (Nat.le_refl _) (Obj.cells #[.int .i64 0, .string ⟨#[]⟩] 23)) (by simp) hbP
    have hblk := blk_new hbP
    have k0 : w1.cell? ⟨w.heap.size, 0, none⟩ = some (.int .i64 0) := blk_cell hblk 0
    have k1 : w1.cell? ⟨w.heap.size, 1, none⟩ = some (.string ⟨#[]⟩) := blk_cell hblk 1
    have f0 := blk_free hblk 0
    have f1 := blk_free hblk 1
    clear hblk hbP HP HP2
    by_cases hc0 : r1 = 0
    · subst hc0
      subst hv2
      have hrl : (r2.map Nm.mk).length ≤ maxLen := by omega
      go_wp2_with fail
      have hcall := l1joined_calls A2 c2 (r2.map Nm.mk) _ w1 hsl hrl (by rw [Nm.map_bs_mk]; exact hj)
      rw [List.length_map, Nm.map_bs_mk] at hcall
      refine hcall.mono ?_
      clear hcall
      rintro e w' ⟨rfl, rfl⟩
      generalize ht : Nm.mk (Nm.join r2) = t
      have hts : t.size = (Nm.join r2).length := by rw [← ht, Nm.mk_size]
      have HTS := hide hts
      clear hts
      have HT := hide ht
      clear ht
      by_cases hje : Nm.join r2 = []
      · have HQ := hide (Nm.named_none H60.out HR.out rfl hje)
        have hE1 : t.toList.isEmpty = true := tl_e (by rw [← HT.out, hje]; rfl)
        clear hje
        go_wp2_with fail
        exact bodyPost_ret (v := .agg #[.int .i64 1, .string ⟨#[]⟩]) (by simp [results, Tryd.results55, go_sem, k0, k1]) rfl ⟨by rw [HQ.out]; rfl, by (repeat (first | with_reducible exact Below.refl _ _ | with_reducible assumption | with_reducible refine Below.alloc ?_ (by first | exact Nat.le_refl _ | exact Below.size (by assumption) | exact Nat.le_trans (Below.size (by assumption)) (by simp; done) | (simp; done) | (simp; omega) | omega) _ | with_reducible refine below_drewN ?_ _ | with_reducible refine Below.drew ?_ | with_reducible refine Below.setCell ?_ (by first | exact Nat.le_refl _ | (simp; done) | (simp; omega) | omega) _))⟩
      have hE1 : t.toList.isEmpty = false := tl_n (fun e => hje (Nm.mk_inj (HT.out.trans e)))
      by_cases h6 : 60 < t.size
      · have HQ := hide (Nm.named_over H60.out HR.out rfl hje (by rw [← HTS.out]; exact h6))
        clear hje
        go_wp2_with fail
        exact bodyPost_ret (v := .agg #[.int .i64 3, .string ⟨#[]⟩]) (by simp [results, Tryd.results55, go_sem, k0, k1]) rfl ⟨by rw [HQ.out]; rfl, by (repeat (first | with_reducible exact Below.refl _ _ | with_reducible assumption | with_reducible refine Below.alloc ?_ (by first | exact Nat.le_refl _ | exact Below.size (by assumption) | exact Nat.le_trans (Below.size (by assumption)) (by simp; done) | (simp; done) | (simp; omega) | omega) _ | with_reducible refine below_drewN ?_ _ | with_reducible refine Below.drew ?_ | with_reducible refine Below.setCell ?_ (by first | exact Nat.le_refl _ | (simp; done) | (simp; omega) | omega) _))⟩
      · have HQ := hide (Nm.named_ok H60.out HR.out rfl hje (by rw [← HTS.out]; exact h6))
        clear hje
        go_wp2_with fail
        exact bodyPost_ret (v := .agg #[.int .i64 0, .string t]) (by simp [results, Tryd.results55, go_sem, k0, k1]) rfl ⟨by rw [HQ.out, ← HT.out], by (repeat (first | with_reducible exact Below.refl _ _ | with_reducible assumption | with_reducible refine Below.alloc ?_ (by first | exact Nat.le_refl _ | exact Below.size (by assumption) | exact Nat.le_trans (Below.size (by assumption)) (by simp; done) | (simp; done) | (simp; omega) | omega) _ | with_reducible refine below_drewN ?_ _ | with_reducible refine Below.drew ?_ | with_reducible refine Below.setCell ?_ (by first | exact Nat.le_refl _ | (simp; done) | (simp; omega) | omega) _))⟩
    · have HQ := hide (Nm.named_code H60.out HR.out hc0)
      have hcb : (r1 != 0) = true := by simpa using hc0
      clear hc0 hv2
      go_wp2_with fail
      exact bodyPost_ret (v := .agg #[.int .i64 r1, .string ⟨#[]⟩]) (by simp [results, Tryd.results55, go_sem, k0, k1]) rfl ⟨by rw [HQ.out]; rfl, by (repeat (first | with_reducible exact Below.refl _ _ | with_reducible assumption | with_reducible refine Below.alloc ?_ (by first | exact Nat.le_refl _ | exact Below.size (by assumption) | exact Nat.le_trans (Below.size (by assumption)) (by simp; done) | (simp; done) | (simp; omega) | omega) _ | with_reducible refine below_drewN ?_ _ | with_reducible refine Below.drew ?_ | with_reducible refine Below.setCell ?_ (by first | exact Nat.le_refl _ | (simp; done) | (simp; omega) | omega) _))⟩
/-- a walk's row of parts is no longer than what went in -/
theorem walk_size : ∀ (ps row : List Nm.Bs), (Nm.walk row ps).2.length ≤ row.length + ps.length
  | [], row => by simp [Nm.walk]
  | p :: ps, row => by
    unfold Nm.walk
    split
    · have := walk_size ps row; simp; omega
    · split
      · split
        · simp
        · have := walk_size ps row.dropLast; simp at this ⊢; omega
      · split
        · have := walk_size ps (row ++ [p]); simp at this ⊢; omega
        · simp
theorem walk_parts (n : Nat) : ∀ (ps row : List Nm.Bs), (∀ p ∈ ps, p.length ≤ n) → (∀ p ∈ row, p.length ≤ n) → ∀ p ∈ (Nm.walk row ps).2, p.length ≤ n
  | [], row, _, hr => by simpa [Nm.walk] using hr
  | p :: ps, row, hp, hr => by
    have hps : ∀ q ∈ ps, q.length ≤ n := fun q hq => hp q (List.mem_cons_of_mem _ hq)
    unfold Nm.walk
    split
    · exact walk_parts n ps row hps hr
    · split
      · split
        · simp
        · exact walk_parts n ps row.dropLast hps (fun q hq => hr q (List.dropLast_subset row hq))
      · split
        · refine walk_parts n ps (row ++ [p]) hps (fun q hq => ?_)
          rcases List.mem_append.1 hq with h | h
          · exact hr q h
          · simp at h; subst h; exact hp _ (by simp)
        · simp
theorem join_size (n : Nat) : ∀ (ps : List Nm.Bs), (∀ p ∈ ps, p.length ≤ n) → (Nm.join ps).length ≤ ps.length * (n + 1)
  | [], _ => by simp [Nm.join_nil]
  | [p], h => by have := h p (by simp); simp [Nm.join_one]; omega
  | p :: q :: r, h => by
    have h1 : Nm.join (p :: q :: r) = p ++ [47] ++ Nm.join (q :: r) := by simp [Nm.join, Lib.join, List.intercalate, List.intersperse_cons_cons]
    have ih := join_size n (q :: r) (fun x hx => h x (List.mem_cons_of_mem _ hx))
    have hp := h p (by simp)
    rw [h1, List.length_append, List.length_append, List.length_cons (a := p), Nat.succ_mul]
    simp at ih ⊢; omega
theorem bound_named (row : List Nm.Bs) (s : Str) (hs : s.size ≤ 60) (hr : row.length ≤ 1048636) (hp : ∀ p ∈ row, p.length ≤ 60) : (Nm.join (Nm.walk row (Nm.parts (Nm.bs s))).2).length ≤ 1073741824 := by
  have hb := Nm.bs_length s
  have h1 := walk_size (Nm.parts (Nm.bs s)) row
  have h2 := walk_parts 60 (Nm.parts (Nm.bs s)) row (fun p hp => by have := Nm.parts_le _ p hp; omega) hp
  have h3 := join_size 60 _ h2
  have h4 := Nm.parts_length (Nm.bs s)
  have h5 : (Nm.walk row (Nm.parts (Nm.bs s))).2.length ≤ 1048700 := by omega
  have h6 := Nat.mul_le_mul_right 61 h5
  omega

set_option maxHeartbeats 400000 in
theorem sClean_calls (s : Str) (w : World) (hs : s.size ≤ 1073741824) : Calls Tryd.prog 17 #[.string s] w (RetNamed w (Nm.clean s)) := by
  have hcall : ∀ W : World, Calls Tryd.prog 55 #[.slice none 0 0, .string s] W (RetNamed W (Nm.clean s)) := fun W => l1named_calls none 0 [] (fun _ => True) s W Sl.nil (by simp) hs (fun r hr h60 => by rw [← hr]; exact bound_named [] s h60 (by simp) (by simp))
  obtain ⟨r1, r2, hr⟩ : ∃ r1 r2, Nm.clean s = (r1, r2) := ⟨_, _, rfl⟩
  rw [hr] at hcall
  have HR := hide hr
  have HC := hide hcall
  clear hcall hr
  go_enter Tryd.func17, Tryd.ntmps17
  go_wp2_with fail
  refine (HC.out _).mono ?_
  rintro e w1 ⟨rfl, hb⟩
  have hblk := blk_new hb; have k0 : w1.cell? ⟨w.heap.size, 0, none⟩ = some _ := blk_cell hblk 0; have k1 : w1.cell? ⟨w.heap.size, 1, none⟩ = some _ := blk_cell hblk 1; have f0 := blk_free hblk 0; have f1 := blk_free hblk 1; clear hblk
  have hb0 := below_then (Below.alloc (Below.refl _ w) (Nat.le_refl _) (Obj.cells #[.int .i64 0, .string ⟨#[]⟩] 23)) (by simp) hb
  clear hb
  go_wp2_with fail
  exact bodyPost_ret (v := .agg #[.int .i64 r1, .string r2]) (by simp [results, Tryd.results17, go_sem, k0, k1]) rfl ⟨by rw [HR.out], by (repeat (first | with_reducible exact Below.refl _ _ | with_reducible assumption | with_reducible refine Below.alloc ?_ (by first | exact Nat.le_refl _ | exact Below.size (by assumption) | exact Nat.le_trans (Below.size (by assumption)) (by simp; done) | (simp; done) | (simp; omega) | omega) _ | with_reducible refine below_drewN ?_ _ | with_reducible refine Below.drew ?_ | with_reducible refine Below.setCell ?_ (by first | exact Nat.le_refl _ | (simp; done) | (simp; omega) | omega) _))⟩
end Go.Proofs.YtkhlicmlnjccdaaDoor
