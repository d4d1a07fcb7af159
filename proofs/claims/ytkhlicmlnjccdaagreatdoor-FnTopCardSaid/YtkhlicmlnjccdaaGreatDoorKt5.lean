/-
The program's Clean and Within answer as the reference's: plain laws and walks.
Within: plain laws on names in their one form, and the two walks.
Plain words on worlds: when one is one, where a module lies; no program in sight.
Plain words on names: tries are in one form, none twice; when Within has code 4. No program in sight.
Plain words on worlds: what holds of a world that is one. No program in sight.
Plain loading: what a loading of a world does, by plain functions; no program in sight.
-/
import Derived.Test.YtkhlicmlnjccdaaGreatDoorKt4
namespace Go.Proofs.YtkhlicmlnjccdaaGreatDoor
open Go.RowKit Mem
namespace Nm
def wt : List Bs → Nat
  | [] => 0
  | p :: r => p.length + 1 + wt r
theorem wt_append (a b : List Bs) : wt (a ++ b) = wt a + wt b := by
  induction a with
  | nil => simp [wt]
  | cons x r ih => simp only [List.cons_append, wt, ih]; omega
theorem wt_dropLast : ∀ (a : List Bs), wt a.dropLast ≤ wt a
  | [] => Nat.le_refl _
  | [x] => by simp [wt]
  | x :: y :: r => by
    have := wt_dropLast (y :: r)
    simp only [List.dropLast_cons_cons, wt] at this ⊢; omega
theorem wt_walk : ∀ (ps row : List Bs), wt (walk row ps).2 ≤ wt row + wt ps
  | [], row => by simp [walk]
  | p :: ps, row => by
    unfold walk
    split
    · have := wt_walk ps row; simp only [wt]; omega
    · split
      · split
        · simp [wt]
        · have := wt_walk ps row.dropLast; have := wt_dropLast row; simp only [wt]; omega
      · split
        · have := wt_walk ps (row ++ [p]); rw [wt_append] at this; simp only [wt] at this ⊢; omega
        · simp [wt]
theorem wt_parts : ∀ (l : Bs), wt (parts l) = l.length + 1
  | [] => rfl
  | c :: r => by
    have ih := wt_parts r
    unfold parts
    split
    · simp only [wt, ih, List.length_nil, List.length_cons]; omega
    · split
      · rename_i h; exact absurd h (parts_ne r)
      · rename_i h; rw [h] at ih; simp only [wt, List.length_cons] at ih ⊢; omega
theorem wt_join : ∀ (ps : List Bs), ps ≠ [] → (join ps).length + 1 = wt ps
  | [], h => absurd rfl h
  | [p], _ => by simp [join_one, wt]
  | p :: q :: r, _ => by
    have h1 : join (p :: q :: r) = p ++ [47] ++ join (q :: r) := by simp [join, Lib.join, List.intercalate, List.intersperse_cons_cons]
    have ih := wt_join (q :: r) (by simp)
    rw [h1, List.length_append, List.length_append]
    simp only [wt, List.length_singleton] at ih ⊢; omega
/-- all parts of a walk's row are plain, where they were -/
theorem walk_plain : ∀ (ps row : List Bs), (∀ p ∈ row, plain p = true) → ∀ p ∈ (walk row ps).2, plain p = true
  | [], row, hr => by simpa [walk] using hr
  | p :: ps, row, hr => by
    unfold walk
    split
    · exact walk_plain ps row hr
    · split
      · split
        · simp
        · exact walk_plain ps row.dropLast (fun q hq => hr q (List.dropLast_subset row hq))
      · split
        · rename_i hp
          refine walk_plain ps (row ++ [p]) (fun q hq => ?_)
          rcases List.mem_append.1 hq with h | h
          · exact hr q h
          · simp at h; subst h; exact hp
        · simp
theorem plain_len {p : Bs} (h : plain p = true) : 0 < p.length := by
  cases p with
  | nil => simp [plain] at h
  | cons a t => simp
theorem join_ne {ps : List Bs} (h : ps ≠ []) (hp : ∀ p ∈ ps, plain p = true) : join ps ≠ [] := by
  intro e
  have h1 := wt_join ps h
  rw [e] at h1
  cases ps with
  | nil => exact h rfl
  | cons p r =>
    have := plain_len (hp p (by simp))
    simp only [wt, List.length_nil] at h1; omega
theorem iwalk_named (row : List Bs) (name : Bs) (h : ¬ 60 < name.length) (hp : ∀ p ∈ row, plain p = true) :
    (if 60 < (iwalk row name).2.length then ((3 : Int), ([] : Bs)) else iwalk row name) = named row name := by
  generalize hr : walk row (parts name) = r
  have hpl := walk_plain (parts name) row hp
  rw [hr] at hpl
  obtain ⟨c, q⟩ := r
  by_cases hc : c = 0
  · subst hc
    by_cases hq : q = []
    · subst hq
      rw [iwalk_none hr, named_none h hr rfl join_nil]; rfl
    · rw [iwalk_ok hr hq]
      have hj := join_ne hq hpl
      by_cases hl : 60 < (join q).length
      · rw [if_pos hl, named_over h hr rfl hj hl]
      · rw [if_neg hl, named_ok h hr rfl hj hl]
  · rw [named_code h hr hc]
    have : iwalk row name = (c, []) := by unfold iwalk; rw [hr, if_pos hc]
    rw [this]; rfl
theorem iwalk_clean (name : Bs) (h : ¬ 60 < name.length) : iwalk [] name = named [] name := by
  rw [← iwalk_named [] name h (by simp), if_neg]
  have h1 := wt_walk (parts name) []
  rw [wt_parts] at h1
  simp only [wt] at h1
  unfold iwalk
  split
  · simp
  · split
    · simp
    · rename_i hq
      have := wt_join _ hq
      show ¬ 60 < (join (walk [] (parts name)).2).length
      omega
end Nm

set_option maxHeartbeats 400000 in
theorem iClean_calls (s : Str) (w : World) (hs : s.size ≤ 1073741824) (hm : ML w) : Calls Tryz.prog 57 #[.string s] w (RetNamed w (Nm.clean s)) := by
  by_cases h60 : 60 < s.size
  · have hq : Nm.clean s = (3, ⟨#[]⟩) := by
      unfold Nm.clean; rw [Nm.named_long (by rw [Nm.bs_length]; exact h60)]; rfl
    have HQ := hide hq
    clear hq
    go_enter Tryz.func57, Tryz.ntmps57
    go_wp2_with fail
    exact bodyPost_ret (v := .agg #[.int .i64 3, .string ⟨#[]⟩]) (by simp [results, Tryz.results57, go_sem]) rfl ⟨by rw [HQ.out], by (repeat (first | with_reducible exact Below.refl _ _ | with_reducible assumption | with_reducible refine Below.alloc ?_ (by first | exact Nat.le_refl _ | exact Below.size (by assumption) | exact Nat.le_trans (Below.size (by assumption)) (by simp; done) | (simp; done) | (simp; omega) | omega) _ | with_reducible refine below_drewN ?_ _ | with_reducible refine Below.drew ?_ | with_reducible refine Below.setCell ?_ (by first | exact Nat.le_refl _ | (simp; done) | (simp; omega) | omega) _))⟩
  · have hcl : Nm.clean s = ((Nm.iwalk [] (Nm.bs s)).1, Nm.mk (Nm.iwalk [] (Nm.bs s)).2) := by
      unfold Nm.clean; rw [Nm.iwalk_clean _ (by rw [Nm.bs_length]; exact h60)]
    have hcall : ∀ W : World, ML W → Calls Tryz.prog 89 #[.slice none 0 0, .string s] W (RetNamed W (Nm.clean s)) := fun W hW => by
      have := walk_calls none 0 0 [] rfl (fun _ => True) s W Sl.nil (by simp) (by omega) (by simp) hW
      rw [List.map_nil, ← hcl] at this
      exact this
    obtain ⟨r1, r2, hr⟩ : ∃ r1 r2, Nm.clean s = (r1, r2) := ⟨_, _, rfl⟩
    rw [hr] at hcall
    have HR := hide hr
    have HC := hide hcall
    clear hcall hr hcl
    go_enter Tryz.func57, Tryz.ntmps57
    go_wp2_with fail
    refine (HC.out _ (hm.below (by (repeat (first | with_reducible exact Below.refl _ _ | with_reducible assumption | with_reducible refine Below.alloc ?_ (by first | exact Nat.le_refl _ | exact Below.size (by assumption) | exact Nat.le_trans (Below.size (by assumption)) (by simp; done) | (simp; done) | (simp; omega) | omega) _ | with_reducible refine below_drewN ?_ _ | with_reducible refine Below.drew ?_ | with_reducible refine Below.setCell ?_ (by first | exact Nat.le_refl _ | (simp; done) | (simp; omega) | omega) _))))).mono ?_
    rintro e w1 ⟨rfl, hb⟩
    have hblk := blk_new hb; have k0 : w1.cell? ⟨w.heap.size, 0, none⟩ = some _ := blk_cell hblk 0; have k1 : w1.cell? ⟨w.heap.size, 1, none⟩ = some _ := blk_cell hblk 1; have f0 := blk_free hblk 0; have f1 := blk_free hblk 1; clear hblk
    have hb0 := below_then (Below.alloc (Below.refl _ w) (Nat.le_refl _) (Obj.cells #[.int .i64 0, .string ⟨#[]⟩] 102)) (by simp) hb
    clear hb
    go_wp2_with fail
    exact bodyPost_ret (v := .agg #[.int .i64 r1, .string r2]) (by simp [results, Tryz.results57, go_sem, k0, k1]) rfl ⟨by rw [HR.out], by (repeat (first | with_reducible exact Below.refl _ _ | with_reducible assumption | with_reducible refine Below.alloc ?_ (by first | exact Nat.le_refl _ | exact Below.size (by assumption) | exact Nat.le_trans (Below.size (by assumption)) (by simp; done) | (simp; done) | (simp; omega) | omega) _ | with_reducible refine below_drewN ?_ _ | with_reducible refine Below.drew ?_ | with_reducible refine Below.setCell ?_ (by first | exact Nat.le_refl _ | (simp; done) | (simp; omega) | omega) _))⟩
end Go.Proofs.YtkhlicmlnjccdaaGreatDoor

namespace Go.Proofs.YtkhlicmlnjccdaaGreatDoor
open Go.RowKit Mem
namespace Nm
theorem ok_ne {c : UInt8} (h : okByte c = true) : c ≠ 47 ∧ c ≠ 46 := by
  constructor
  · rintro rfl; revert h; decide
  · rintro rfl; revert h; decide
theorem plain_all {p : Bs} (h : plain p = true) : ∀ (j : Nat) (c : UInt8), p[j]? = some c → okByte c = true := fun j c hj => by
  unfold plain at h
  rw [Bool.and_eq_true] at h
  exact List.all_eq_true.1 h.2 c (List.mem_of_getElem? hj)
theorem plain_dots {p : Bs} (h : plain p = true) : p ≠ [46] ∧ p ≠ [46, 46] := by
  constructor
  · rintro rfl; exact (ok_ne (plain_all h 0 46 rfl)).2 rfl
  · rintro rfl; exact (ok_ne (plain_all h 0 46 rfl)).2 rfl
theorem parts_join : ∀ (ps : List Bs), ps ≠ [] → (∀ p ∈ ps, plain p = true) → parts (join ps) = ps
  | [], h, _ => absurd rfl h
  | [p], _, hp => by
    rw [join_one]
    exact parts_one p fun j hj e => (ok_ne (plain_all (hp p (by simp)) j 47 e)).1 rfl
  | p :: q :: r, _, hp => by
    have h1 : join (p :: q :: r) = p ++ [47] ++ join (q :: r) := by simp [join, Lib.join, List.intercalate, List.intersperse_cons_cons]
    have ih := parts_join (q :: r) (by simp) (fun x hx => hp x (List.mem_cons_of_mem _ hx))
    have h2 := parts_at p.length (join (p :: q :: r)) (fun j hj e => by
      rw [h1, List.append_assoc, List.getElem?_append_left hj] at e
      exact (ok_ne (plain_all (hp p (by simp)) j 47 e)).1 rfl) (by rw [h1, List.append_assoc, List.getElem?_append_right (Nat.le_refl _)]; simp)
    rw [h2, h1]
    congr 1
    · simp
    · rw [show p.length + 1 = (p ++ [47]).length by simp, List.drop_left, ih]
theorem walk_row : ∀ (ps row : List Bs), (∀ p ∈ ps, plain p = true) → walk row ps = (0, row ++ ps)
  | [], row, _ => by simp [walk]
  | p :: ps, row, hp => by
    have h := hp p (by simp)
    unfold walk
    rw [if_neg (plain_dots h).1, if_neg (plain_dots h).2, if_pos h, walk_row ps (row ++ [p]) (fun q hq => hp q (List.mem_cons_of_mem _ hq))]
    simp
theorem named_zero {row : List Bs} {name : Bs} (h : (named row name).1 = 0) (hp : ∀ p ∈ row, plain p = true) : ∃ r : List Bs, r ≠ [] ∧ (∀ p ∈ r, plain p = true) ∧ (named row name) = (0, join r) ∧ (join r).length ≤ 60 := by
  generalize hr : walk row (parts name) = r
  have hpl := walk_plain (parts name) row hp
  rw [hr] at hpl
  by_cases h60 : 60 < name.length
  · rw [named_long h60] at h; simp at h
  · by_cases hc : r.1 = 0
    · by_cases hj : join r.2 = []
      · rw [named_none h60 hr hc hj] at h; simp at h
      · by_cases hl : 60 < (join r.2).length
        · rw [named_over h60 hr hc hj hl] at h; simp at h
        · exact ⟨r.2, fun e => hj (by rw [e]; rfl), hpl, named_ok h60 hr hc hj hl, by omega⟩
    · rw [named_code h60 hr hc] at h; exact absurd h hc
theorem clean_zero {s : Str} (h : (clean s).1 = 0) : ∃ r : List Bs, r ≠ [] ∧ (∀ p ∈ r, plain p = true) ∧ bs (clean s).2 = join r ∧ parts (bs (clean s).2) = r ∧ (join r).length ≤ 60 := by
  obtain ⟨r, h1, h2, h3, h4⟩ := named_zero (row := []) (name := bs s) h (by simp)
  have h5 : bs (clean s).2 = join r := by unfold clean; rw [h3]; exact bs_mk _
  exact ⟨r, h1, h2, h5, by rw [h5]; exact parts_join r h1 h2, h4⟩
theorem clean_row {r : List Bs} (h1 : r ≠ []) (h2 : ∀ p ∈ r, plain p = true) (h4 : (join r).length ≤ 60) : clean (mk (join r)) = (0, mk (join r)) := by
  have hw : walk [] (parts (join r)) = (0, r) := by rw [parts_join r h1 h2, walk_row r [] h2]; simp
  unfold clean
  rw [bs_mk, named_ok (by omega) hw rfl (join_ne h1 h2) (by simpa using h4)]
theorem clean_clean {s : Str} (h : (clean s).1 = 0) : clean (clean s).2 = clean s := by
  obtain ⟨r, h1, h2, h3, h4, h5⟩ := clean_zero h
  have e : (clean s).2 = mk (join r) := by rw [← h3, mk_bs]
  have := clean_row h1 h2 h5
  rw [← e] at this
  rw [this]
  exact Prod.ext h.symm rfl
theorem named_size (row : List Bs) (name : Bs) : (named row name).2.length ≤ 60 := by
  unfold named
  split
  · simp
  · split
    · simp
    · split
      · simp
      · split
        · simp
        · show (join _).length ≤ 60; omega
theorem clean_size (s : Str) : (clean s).2.size ≤ 60 := by unfold clean; rw [mk_size]; exact named_size _ _
theorem within_size (f s : Str) : (within f s).2.size ≤ 60 := by
  unfold within
  split
  · simp [mk_size]
  · rw [mk_size]; exact named_size _ _
end Nm
namespace Mem
theorem Sl.take {α : Type} {k : Kind α} {w : World} {S : Nat → Prop} {A : Option Addr} {xs : List α} (h : Sl k w S A xs) (m : Nat) : Sl k w S A (xs.take m) := fun hn => by
  have hx : xs ≠ [] := fun e => hn (by rw [e]; simp)
  obtain ⟨ad, hA, hc⟩ := h hx
  exact ⟨ad, hA, fun i x hi => hc i x (by
    rw [List.getElem?_take] at hi
    split at hi
    · exact hi
    · simp at hi)⟩
end Mem
end Go.Proofs.YtkhlicmlnjccdaaGreatDoor

namespace Go.Proofs.YtkhlicmlnjccdaaGreatDoor
namespace Wd
/-- the first place below n at which p holds -/
def first (p : Nat → Bool) : Nat → Option Nat
  | 0 => none
  | n + 1 => match first p n with
    | some i => some i
    | none => if p n = true then some n else none
theorem first_none {p : Nat → Bool} : ∀ {n : Nat}, (∀ j, j < n → p j = false) → first p n = none
  | 0, _ => rfl
  | n + 1, h => by
    unfold first
    rw [first_none (fun j hj => h j (by omega))]
    simp [h n (by omega)]
theorem first_some {p : Nat → Bool} {i : Nat} (h : ∀ j, j < i → p j = false) (hp : p i = true) : ∀ {n : Nat}, i < n → first p n = some i
  | 0, hn => by omega
  | n + 1, hn => by
    unfold first
    rcases Nat.lt_or_ge i n with h1 | h1
    · rw [first_some h hp h1]
    · obtain rfl : i = n := by omega
      rw [first_none h]; simp [hp]
theorem first_none_inv {p : Nat → Bool} : ∀ {n : Nat}, first p n = none → ∀ j, j < n → p j = false
  | 0, _, j, hj => by omega
  | n + 1, h, j, hj => by
    unfold first at h
    cases hf : first p n with
    | some i => rw [hf] at h; simp at h
    | none =>
      rw [hf] at h
      rcases Nat.lt_or_ge j n with h1 | h1
      · exact first_none_inv hf j h1
      · obtain rfl : j = n := by omega
        cases hp : p j
        · rfl
        · rw [hp] at h; simp at h

def lineOk (l : LineD) (behind : Int) : Bool :=
  if l.op = 1 ∨ l.op = 2 ∨ l.op = 6 then decide (l.name = ⟨#[]⟩) && decide (l.skip = 0)
  else if l.op = 3 ∨ l.op = 4 ∨ l.op = 5 then decide (l.name.size ≤ 120) && decide (l.num = 0) && decide (l.skip = 0)
  else if l.op = 7 then decide (l.name.size ≤ 120) && decide (l.num = 0) && decide (0 ≤ l.skip) && decide (l.skip ≤ behind)
  else false
def badRoot (roots : List Str) (i : Nat) : Bool :=
  match roots[i]? with
  | none => false
  | some r => decide (r ≠ ⟨#[]⟩) && !(decide ((Nm.clean r).1 = 0) && decide ((Nm.clean r).2 = r))
def badFault (faults : List Int) (i : Nat) : Bool :=
  match faults[i]? with
  | none => false
  | some f => decide (f < 0) || decide (400 ≤ f) || (decide (0 < i) && match faults[i - 1]? with
    | none => false
    | some e => decide (f ≤ e))
/-- the name stands among those ahead of i -/
def metMod (mods : List ModD) (i : Nat) (name : Str) : Bool := (mods.take i).any fun m => decide (m.name = name)
def badMod (mods : List ModD) (i : Nat) : Bool :=
  match mods[i]? with
  | none => false
  | some m => !(decide ((Nm.clean m.name).1 = 0) && decide ((Nm.clean m.name).2 = m.name)) || metMod mods i m.name || decide (60 < m.lines.length)
def badLineAt (m : ModD) (k : Nat) : Bool :=
  match m.lines[k]? with
  | none => false
  | some l => !lineOk l ((m.lines.length : Int) - k - 1)
def badLineOf (mods : List ModD) (i : Nat) : Option Nat :=
  match mods[i]? with
  | none => none
  | some m => first (badLineAt m) m.lines.length
def wrongLine (mods : List ModD) : Int × Int × Int :=
  match first (fun i => (badLineOf mods i).isSome) mods.length with
  | none => (0, 0, 0)
  | some i => (5, i, ((badLineOf mods i).getD 0 : Nat))
def worldOk (D : WorldD) : Int × Int × Int :=
  if 60 < D.mods.length ∨ 8 < D.roots.length ∨ 400 < D.faults.length then (1, 0, 0) else
  if (first (badRoot D.roots) D.roots.length).isSome = true then (2, 0, 0) else
  if (first (badFault D.faults) D.faults.length).isSome = true then (3, 0, 0) else
  match first (badMod D.mods) D.mods.length with
  | some i => (4, i, 0)
  | none => wrongLine D.mods
theorem worldOk_one {D : WorldD} (h : 60 < D.mods.length ∨ 8 < D.roots.length ∨ 400 < D.faults.length) : worldOk D = (1, 0, 0) := by unfold worldOk; rw [if_pos h]
theorem worldOk_two {D : WorldD} (h : ¬ (60 < D.mods.length ∨ 8 < D.roots.length ∨ 400 < D.faults.length)) {i : Nat} (hi : i < D.roots.length) (h1 : ∀ j, j < i → badRoot D.roots j = false) (h2 : badRoot D.roots i = true) : worldOk D = (2, 0, 0) := by
  unfold worldOk; rw [if_neg h, first_some h1 h2 hi]; exact if_pos rfl
theorem worldOk_three {D : WorldD} (h : ¬ (60 < D.mods.length ∨ 8 < D.roots.length ∨ 400 < D.faults.length)) (hr : ∀ j, j < D.roots.length → badRoot D.roots j = false) {i : Nat} (hi : i < D.faults.length) (h1 : ∀ j, j < i → badFault D.faults j = false) (h2 : badFault D.faults i = true) : worldOk D = (3, 0, 0) := by
  unfold worldOk; rw [if_neg h, first_none hr, if_neg (by simp), first_some h1 h2 hi]; exact if_pos rfl
theorem worldOk_rest {D : WorldD} (h : ¬ (60 < D.mods.length ∨ 8 < D.roots.length ∨ 400 < D.faults.length)) (hr : ∀ j, j < D.roots.length → badRoot D.roots j = false) (hf : ∀ j, j < D.faults.length → badFault D.faults j = false) :
    worldOk D = match first (badMod D.mods) D.mods.length with
      | some i => (4, i, 0)
      | none => wrongLine D.mods := by
  unfold worldOk; rw [if_neg h, first_none hr, if_neg (by simp), first_none hf, if_neg (by simp)]
theorem worldOk_four {D : WorldD} (h : ¬ (60 < D.mods.length ∨ 8 < D.roots.length ∨ 400 < D.faults.length)) (hr : ∀ j, j < D.roots.length → badRoot D.roots j = false) (hf : ∀ j, j < D.faults.length → badFault D.faults j = false) {i : Nat} (hi : i < D.mods.length) (h1 : ∀ j, j < i → badMod D.mods j = false) (h2 : badMod D.mods i = true) : worldOk D = (4, (i : Int), 0) := by
  rw [worldOk_rest h hr hf, first_some h1 h2 hi]
theorem worldOk_five {D : WorldD} (h : ¬ (60 < D.mods.length ∨ 8 < D.roots.length ∨ 400 < D.faults.length)) (hr : ∀ j, j < D.roots.length → badRoot D.roots j = false) (hf : ∀ j, j < D.faults.length → badFault D.faults j = false) (hm : ∀ j, j < D.mods.length → badMod D.mods j = false)
    {i k : Nat} {m : ModD} (hi : D.mods[i]? = some m) (h1 : ∀ j, j < i → badLineOf D.mods j = none) (hk : k < m.lines.length) (h2 : ∀ j, j < k → badLineAt m j = false) (h3 : badLineAt m k = true) : worldOk D = (5, (i : Int), (k : Int)) := by
  have hb : badLineOf D.mods i = some k := by unfold badLineOf; rw [hi]; exact first_some h2 h3 hk
  have hil : i < D.mods.length := by
    rcases Nat.lt_or_ge i D.mods.length with h | h
    · exact h
    · rw [List.getElem?_eq_none h] at hi; simp at hi
  rw [worldOk_rest h hr hf, first_none hm]
  unfold wrongLine
  rw [first_some (p := fun i => (badLineOf D.mods i).isSome) (fun j hj => by rw [h1 j hj]; rfl) (by rw [hb]; rfl) hil]
  show (5, (i : Int), (((badLineOf D.mods i).getD 0 : Nat) : Int)) = _
  rw [hb]; rfl
theorem worldOk_zero {D : WorldD} (h : ¬ (60 < D.mods.length ∨ 8 < D.roots.length ∨ 400 < D.faults.length)) (hr : ∀ j, j < D.roots.length → badRoot D.roots j = false) (hf : ∀ j, j < D.faults.length → badFault D.faults j = false) (hm : ∀ j, j < D.mods.length → badMod D.mods j = false)
    (hl : ∀ j, j < D.mods.length → badLineOf D.mods j = none) : worldOk D = (0, 0, 0) := by
  rw [worldOk_rest h hr hf, first_none hm]
  unfold wrongLine
  rw [first_none (fun j hj => by rw [hl j hj]; rfl)]
theorem metMod_snoc (mods : List ModD) (i : Nat) (m : ModD) (hi : mods[i]? = some m) (name : Str) : metMod mods (i + 1) name = (metMod mods i name || decide (m.name = name)) := by
  have hil : i < mods.length := by
    rcases Nat.lt_or_ge i mods.length with h | h
    · exact h
    · rw [List.getElem?_eq_none h] at hi; simp at hi
  have : mods[i] = m := by rw [List.getElem?_eq_getElem hil] at hi; exact Option.some.inj hi
  unfold metMod
  rw [List.take_succ_eq_append_getElem hil, this]; simp
end Wd
end Go.Proofs.YtkhlicmlnjccdaaGreatDoor

namespace Go.Proofs.YtkhlicmlnjccdaaGreatDoor
open Mem
namespace Nm
theorem rooted_clean {r n : Str} (h : (rooted r n).1 = 0) : clean (rooted r n).2 = (0, (rooted r n).2) := by
  obtain ⟨t, ht⟩ : ∃ t, rooted r n = clean t := by unfold rooted; split <;> exact ⟨_, rfl⟩
  rw [ht] at h ⊢
  rw [clean_clean h]
  exact Prod.ext h rfl
theorem within_clean {f s : Str} (h : (within f s).1 = 0) : clean (within f s).2 = (0, (within f s).2) := by
  unfold within at h ⊢
  by_cases hc : (clean f).1 ≠ 0
  · rw [if_pos hc] at h; simp at h
  · rw [if_neg hc] at h ⊢
    have hc : (clean f).1 = 0 := Classical.not_not.1 hc
    obtain ⟨r, h1, h2, h3, h4, h5⟩ := clean_zero hc
    rw [h4] at h ⊢
    obtain ⟨r', g1, g2, g3, g4⟩ := named_zero (row := r.dropLast) (name := bs s) h (fun p hp => h2 p (List.dropLast_subset _ hp))
    rw [g3]
    exact clean_row g1 g2 g4
theorem within_four (f s : Str) : (within f s).1 = 4 ↔ (clean f).1 ≠ 0 := by
  unfold within
  by_cases hc : (clean f).1 ≠ 0
  · rw [if_pos hc]; simp [hc]
  · rw [if_neg hc]
    refine ⟨fun h => ?_, fun h => absurd h hc⟩
    exfalso
    have hw : ∀ (ps row : List Bs), (walk row ps).1 = 0 ∨ (walk row ps).1 = 1 ∨ (walk row ps).1 = 2 := by
      intro ps
      induction ps with
      | nil => intro row; exact .inl rfl
      | cons p ps ih =>
        intro row
        unfold walk
        split
        · exact ih _
        · split
          · split
            · exact .inr (.inr rfl)
            · exact ih _
          · split
            · exact ih _
            · exact .inr (.inl rfl)
    have hn : ∀ (row : List Bs) (n : Bs), (named row n).1 ≠ 4 := by
      intro row n
      unfold named
      split
      · simp
      · split
        · rcases hw (parts n) row with e | e | e <;> rw [e] <;> simp
        · split
          · simp
          · split <;> simp
    exact hn _ _ h
def Fine (l : List Str) : Prop := (∀ x ∈ l, clean x = (0, x)) ∧ l.Nodup
theorem triesOf_fine (name : Str) : ∀ (rs out : List Str), Fine out → Fine (triesOf name out rs)
  | [], out, h => h
  | r :: rs, out, h => by
    unfold triesOf
    split
    · rename_i hc
      refine triesOf_fine name rs _ ⟨fun x hx => ?_, ?_⟩
      · rcases List.mem_append.1 hx with hx | hx
        · exact h.1 x hx
        · obtain rfl : x = (rooted r name).2 := by simpa using hx
          exact rooted_clean hc.1
      · rw [List.nodup_append]
        refine ⟨h.2, by simp, fun a ha b hb => ?_⟩
        obtain rfl : b = (rooted r name).2 := by simpa using hb
        intro e
        subst e
        have := hc.2
        unfold metIn at this
        rw [List.any_eq_false] at this
        exact this _ ha (by simp)
    · exact triesOf_fine name rs out h
theorem tries_fine (roots : List Str) (f s : Str) : Fine (tries roots f s) := by
  unfold tries
  split
  · exact ⟨by simp, by simp⟩
  · split
    · split
      · exact ⟨by simp, by simp⟩
      · rename_i h
        have h : (within f s).1 = 0 := Classical.not_not.1 h
        exact ⟨by simpa using within_clean h, by simp⟩
    · split
      · exact ⟨by simp, by simp⟩
      · exact triesOf_fine _ _ _ ⟨by simp, by simp⟩
theorem Fine.get {l : List Str} (h : Fine l) {i : Nat} (hi : i < l.length) : clean l[i] = (0, l[i]) := h.1 _ (List.getElem_mem _)
theorem Fine.ne {l : List Str} (h : Fine l) {i j : Nat} (hij : i < j) (hj : j < l.length) : l[i]'(by omega) ≠ l[j] := List.pairwise_iff_getElem.1 h.2 i j _ hj hij
end Nm
end Go.Proofs.YtkhlicmlnjccdaaGreatDoor

namespace Go.Proofs.YtkhlicmlnjccdaaGreatDoor
def idxI (o : Option Nat) : Int := match o with
  | some i => i
  | none => -1
theorem idxI_nonneg (o : Option Nat) : 0 ≤ idxI o ↔ o.isSome = true := by cases o <;> simp [idxI]
namespace Nm
theorem clean_short {s : Str} (h : (clean s).1 = 0) : s.size ≤ 60 := by
  rw [← bs_length]
  rcases Nat.lt_or_ge 60 (bs s).length with h1 | h1
  · unfold clean at h; rw [named_long h1] at h; simp at h
  · exact h1
theorem clean_ne {s : Str} (h : clean s = (0, s)) : s ≠ ⟨#[]⟩ := fun e => by
  subst e
  have : (clean ⟨#[]⟩).1 = 1 := by decide +kernel
  rw [h] at this
  simp at this
theorem tries_ne {roots : List Str} {f s x : Str} (h : x ∈ tries roots f s) : x ≠ ⟨#[]⟩ := clean_ne ((tries_fine roots f s).1 x h)
end Nm
namespace Wd
structure WOk (D : WorldD) : Prop where
  mods : D.mods.length ≤ 60
  roots : D.roots.length ≤ 8
  nfaults : D.faults.length ≤ 400
  lines : ∀ m ∈ D.mods, m.lines.length ≤ 60
  ok : ∀ m ∈ D.mods, ∀ (i : Nat) (l : LineD), m.lines[i]? = some l → lineOk l ((m.lines.length : Int) - i - 1) = true
  clean : ∀ m ∈ D.mods, Nm.clean m.name = (0, m.name)
  faults : ∀ f ∈ D.faults, 0 ≤ f ∧ f < 400
  uniq : ∀ (i j : Nat) (m m' : ModD), D.mods[i]? = some m → D.mods[j]? = some m' → m.name = m'.name → i = j
theorem wok_of {D : WorldD} (h : (worldOk D).1 = 0) : WOk D := by
  unfold worldOk at h
  by_cases h0 : 60 < D.mods.length ∨ 8 < D.roots.length ∨ 400 < D.faults.length
  · rw [if_pos h0] at h; simp at h
  rw [if_neg h0] at h
  by_cases h1 : (first (badRoot D.roots) D.roots.length).isSome = true
  · rw [if_pos h1] at h; simp at h
  rw [if_neg h1] at h
  by_cases h2 : (first (badFault D.faults) D.faults.length).isSome = true
  · rw [if_pos h2] at h; simp at h
  rw [if_neg h2] at h
  cases h3 : first (badMod D.mods) D.mods.length with
  | some i => rw [h3] at h; simp at h
  | none =>
    rw [h3] at h
    replace h : (wrongLine D.mods).1 = 0 := h
    unfold wrongLine at h
    cases h4 : first (fun i => (badLineOf D.mods i).isSome) D.mods.length with
    | some i => rw [h4] at h; simp at h
    | none =>
      have hm := first_none_inv h3
      have hl := first_none_inv h4
      have hlt : ∀ {i : Nat} {m : ModD}, D.mods[i]? = some m → i < D.mods.length := fun {i m} hi => by
        rcases Nat.lt_or_ge i D.mods.length with h | h
        · exact h
        · rw [List.getElem?_eq_none h] at hi; simp at hi
      have hbad : ∀ {i : Nat} {m : ModD}, D.mods[i]? = some m → Nm.clean m.name = (0, m.name) ∧ metMod D.mods i m.name = false ∧ m.lines.length ≤ 60 := fun {i m} hi => by
        have := hm i (hlt hi)
        unfold badMod at this
        rw [hi] at this
        simp only [Bool.or_eq_false_iff, Bool.not_eq_false', Bool.and_eq_true, decide_eq_true_eq, decide_eq_false_iff_not] at this
        exact ⟨Prod.ext this.1.1.1 this.1.1.2, this.1.2, by omega⟩
      have huniq : ∀ (i j : Nat) (m m' : ModD), D.mods[i]? = some m → D.mods[j]? = some m' → m.name = m'.name → j ≤ i := fun i j m m' hi hj he => by
        rcases Nat.lt_or_ge i j with hij | hij
        · exfalso
          have := (hbad hj).2.1
          unfold metMod at this
          rw [List.any_eq_false] at this
          refine this m (List.mem_of_getElem? (i := i) ?_) (by simpa using he)
          rw [List.getElem?_take, if_pos hij]; exact hi
        · exact hij
      refine ⟨by omega, by omega, by omega, fun m hmm => ?_, fun m hmm i l hi => ?_, fun m hmm => ?_, fun f hf => ?_, fun i j m m' hi hj he => Nat.le_antisymm (huniq j i m' m hj hi he.symm) (huniq i j m m' hi hj he)⟩
      · obtain ⟨i, hi⟩ := List.getElem?_of_mem hmm
        exact (hbad hi).2.2
      · obtain ⟨j, hj⟩ := List.getElem?_of_mem hmm
        have h5 := hl j (hlt hj)
        have h6 : badLineOf D.mods j = none := by
          cases hb : badLineOf D.mods j with
          | none => rfl
          | some x => rw [hb] at h5; simp at h5
        unfold badLineOf at h6
        rw [hj] at h6
        have hil : i < m.lines.length := by
          rcases Nat.lt_or_ge i m.lines.length with h | h
          · exact h
          · rw [List.getElem?_eq_none h] at hi; simp at hi
        have h7 := first_none_inv h6 i hil
        unfold badLineAt at h7
        rw [hi] at h7
        simpa using h7
      · obtain ⟨i, hi⟩ := List.getElem?_of_mem hmm
        exact (hbad hi).1
      · obtain ⟨i, hi⟩ := List.getElem?_of_mem hf
        have hil : i < D.faults.length := by
          rcases Nat.lt_or_ge i D.faults.length with h | h
          · exact h
          · rw [List.getElem?_eq_none h] at hi; simp at hi
        have h2' : first (badFault D.faults) D.faults.length = none := by
          cases hb : first (badFault D.faults) D.faults.length with
          | none => rfl
          | some x => rw [hb] at h2; simp at h2
        have h5 := first_none_inv h2' i hil
        unfold badFault at h5
        rw [hi] at h5
        simp only [Bool.or_eq_false_iff, decide_eq_false_iff_not] at h5
        omega
theorem worldOk_zero_of {D : WorldD} (h : (worldOk D).1 = 0) : worldOk D = (0, 0, 0) := by
  unfold worldOk at h ⊢
  by_cases h0 : 60 < D.mods.length ∨ 8 < D.roots.length ∨ 400 < D.faults.length
  · rw [if_pos h0] at h; simp at h
  rw [if_neg h0] at h ⊢
  by_cases h1 : (first (badRoot D.roots) D.roots.length).isSome = true
  · rw [if_pos h1] at h; simp at h
  rw [if_neg h1] at h ⊢
  by_cases h2 : (first (badFault D.faults) D.faults.length).isSome = true
  · rw [if_pos h2] at h; simp at h
  rw [if_neg h2] at h ⊢
  cases h3 : first (badMod D.mods) D.mods.length with
  | some i => rw [h3] at h; simp at h
  | none =>
    rw [h3] at h
    replace h : (wrongLine D.mods).1 = 0 := h
    show wrongLine D.mods = _
    unfold wrongLine at h ⊢
    cases h4 : first (fun i => (badLineOf D.mods i).isSome) D.mods.length with
    | some i => rw [h4] at h; simp at h
    | none => rfl
end Wd
end Go.Proofs.YtkhlicmlnjccdaaGreatDoor

namespace Go.Proofs.YtkhlicmlnjccdaaGreatDoor
namespace Ld
/-- what a loading has in hand -/
structure St where
  recs : List RecD
  states : List StateD
  reads : Nat
  rings : List (List Str)
  stack : List Str
  thrown : Int
def St.start : St := ⟨[], [], 0, [], [], 0⟩
def stAt (l : List StateD) (n : Str) : Option Nat := l.findIdx? fun s => decide (s.name = n)
def modAt (l : List ModD) (n : Str) : Option Nat := l.findIdx? fun m => decide (m.name = n)
def St.note (s : St) (r : RecD) : St := { s with recs := s.recs ++ [r] }
def St.read (s : St) : St := { s with reads := s.reads + 1 }
/-- through the tries: the name, the code -/
def look (D : WorldD) : List Str → St → Str × Int × St
  | [], s => (⟨#[]⟩, 2, s)
  | n :: r, s =>
    if (stAt s.states n).isSome = true then (n, 0, s) else
    if s.reads = 400 then (⟨#[]⟩, 3, s) else
    if (s.reads : Int) ∈ D.faults then (n, 3, s.read.note ⟨1, n, 3, 0⟩) else
    if (modAt D.mods n).isSome = true then (n, 0, s.read.note ⟨1, n, 0, 0⟩) else
    look D r (s.read.note ⟨1, n, 2, 0⟩)
def find (D : WorldD) (frm name : Str) (s : St) : Str × Int × St :=
  if Nm.tries D.roots frm name = [] then (⟨#[]⟩, 1, s) else look D (Nm.tries D.roots frm name) s
/-- the first of the tries that is loaded -/
def knownOf (states : List StateD) : List Str → Option (Str × Nat)
  | [] => none
  | n :: r => match stAt states n with
    | some i => if (states[i]?).any (fun t => decide (t.now = 2)) = true then some (n, i) else knownOf states r
    | none => knownOf states r
def knownIn (states : List StateD) (ts : List Str) : Option (Str × Nat) × Int :=
  if ts = [] then (none, 1) else
    match knownOf states ts with
    | some x => (some x, 0)
    | none => (none, 2)
def known (D : WorldD) (frm name : Str) (s : St) : Option (Str × Nat) × Int := knownIn s.states (Nm.tries D.roots frm name)
theorem knownIn_nil (states : List StateD) : knownIn states [] = (none, 1) := rfl
theorem knownIn_some {states : List StateD} {ts : List Str} {x : Str × Nat} (h : ts ≠ []) (hk : knownOf states ts = some x) : knownIn states ts = (some x, 0) := by unfold knownIn; rw [if_neg h, hk]
theorem knownIn_none {states : List StateD} {ts : List Str} (h : ts ≠ []) (hk : knownOf states ts = none) : knownIn states ts = (none, 2) := by unfold knownIn; rw [if_neg h, hk]
def St.put (s : St) (k : Nat) (t : StateD) : St := { s with states := s.states.set k t }
def giveAt (l : List StateD) (k : Nat) : Int := match l[k]? with
  | some t => t.give
  | none => 0
def St.give (s : St) (k : Nat) (me : Str) (g : Int) : St := s.put k ⟨me, 1, g, 0⟩
abbrev Get := Str → Str → St → Str × Int × St
/-- one line: the code, how many lines are left out behind it -/
def line (get : Get) (D : WorldD) (k : Nat) (me : Str) (l : LineD) (s : St) : Int × Nat × St :=
  if l.op = 1 then (0, 0, s.note ⟨3, me, 0, l.num⟩) else
  if l.op = 2 then (0, 0, s.give k me l.num) else
  if l.op = 3 then ((get me l.name s).2.1, 0, (get me l.name s).2.2) else
  if l.op = 4 then (0, 0, if (get me l.name s).2.1 ≠ 0 then (get me l.name s).2.2.note ⟨6, (get me l.name s).1, (get me l.name s).2.1, 0⟩ else (get me l.name s).2.2) else
  if l.op = 5 then (match (known D me l.name s).1 with
    | some x => (0, 0, s.note ⟨3, me, 0, giveAt s.states x.2⟩)
    | none => ((known D me l.name s).2, 0, s)) else
  if l.op = 6 then (6, 0, { s with thrown := l.num }) else
  if l.op = 7 then (0, (if (known D me l.name s).1.isSome = true then 0 else l.skip.toNat), s) else (0, 0, s)
/-- the lines from place i on; fuel as many as there are at the most -/
def lines (get : Get) (D : WorldD) (k : Nat) (me : Str) (ls : List LineD) : Nat → Nat → St → Int × St
  | 0, _, s => (0, s)
  | f + 1, i, s => match ls[i]? with
    | none => (0, s)
    | some l => if (line get D k me l s).1 ≠ 0 then ((line get D k me l s).1, (line get D k me l s).2.2) else lines get D k me ls f (i + 1 + (line get D k me l s).2.1) (line get D k me l s).2.2
def linesOf (D : WorldD) (n : Str) : List LineD := match modAt D.mods n with
  | none => []
  | some i => match D.mods[i]? with
    | none => []
    | some m => m.lines
def St.begin (s : St) (n : Str) : St := { s with states := s.states ++ [⟨n, 1, 0, 0⟩], stack := s.stack ++ [n], recs := s.recs ++ [⟨2, n, 0, 0⟩] }
def St.pop (s : St) : St := { s with stack := s.stack.dropLast }
/-- what a body's end does -/
def fin (k : Nat) (n : Str) (c : Int) (s : St) : St :=
  if c = 0 then (s.pop.put k ⟨n, 2, giveAt s.states k, 0⟩).note ⟨4, n, 0, giveAt s.states k⟩
  else (s.pop.put k ⟨n, 3, 0, c⟩).note ⟨5, n, c, if c = 6 then s.thrown else 0⟩
def body (get : Get) (D : WorldD) (n : Str) (s : St) : Int × St :=
  ((lines get D s.states.length n (linesOf D n) (linesOf D n).length 0 (s.begin n)).1,
    fin s.states.length n (lines get D s.states.length n (linesOf D n) (linesOf D n).length 0 (s.begin n)).1 (lines get D s.states.length n (linesOf D n) (linesOf D n).length 0 (s.begin n)).2)
def St.ring (s : St) (n : Str) : St := { s with rings := s.rings ++ [s.stack.dropWhile fun x => decide (x ≠ n)] }
/-- the module n was found: what becomes of the import -/
def enter (get : Get) (D : WorldD) (n : Str) (s : St) : Int × St :=
  match stAt s.states n with
  | some i =>
    if (s.states[i]?).any (fun t => decide (t.now = 1)) = true then (4, s.ring n) else
    if (s.states[i]?).any (fun t => decide (t.now = 3)) = true then (5, s) else (0, s)
  | none => body get D n s
def deep (s : St) (n : Str) : Int × St :=
  match stAt s.states n with
  | some i =>
    if (s.states[i]?).any (fun t => decide (t.now = 1)) = true then (4, s.ring n) else
    if (s.states[i]?).any (fun t => decide (t.now = 3)) = true then (5, s) else (0, s)
  | none => (7, s)
def get (D : WorldD) : Nat → Get
  | 0, frm, name, s => if (find D frm name s).2.1 ≠ 0 then find D frm name s else ((find D frm name s).1, deep (find D frm name s).2.2 (find D frm name s).1)
  | f + 1, frm, name, s => if (find D frm name s).2.1 ≠ 0 then find D frm name s else ((find D frm name s).1, enter (get D f) D (find D frm name s).1 (find D frm name s).2.2)
def mainName : Str := ⟨#[109, 97, 105, 110]⟩
/-- the report: code, recs, states, reads, rings -/
def load (D : WorldD) (name : Str) : Int × St :=
  if (Wd.worldOk D).1 ≠ 0 then (-1, St.start) else ((get D 40 mainName name St.start).2.1, (get D 40 mainName name St.start).2.2)
end Ld
end Go.Proofs.YtkhlicmlnjccdaaGreatDoor
