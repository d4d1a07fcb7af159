/-
  Plain words on names: parts, walking, joining; no program in sight.
-/
import Derived.Lib.Split
import Derived.Lib.SplitLaws
import Derived.Lib.Join
import Derived.Lib.SlTrimSet
import Derived.Test.YtkhlicmlnjccdaaDoorMem
namespace Go.Proofs.YtkhlicmlnjccdaaDoor
namespace Nm
abbrev Bs := List UInt8
def bs (s : Str) : Bs := s.data.toList
def mk (l : Bs) : Str := ⟨l.toArray⟩
theorem bs_mk (l : Bs) : bs (mk l) = l := by simp [bs, mk]
theorem mk_bs (s : Str) : mk (bs s) = s := by cases s; simp [bs, mk]
theorem bs_inj {a b : Str} (h : bs a = bs b) : a = b := by rw [← mk_bs a, ← mk_bs b, h]
theorem mk_inj {a b : Bs} (h : mk a = mk b) : a = b := by rw [← bs_mk a, ← bs_mk b, h]
theorem bs_length (s : Str) : (bs s).length = s.size := by cases s; simp [bs, ByteArray.size]
theorem mk_size (l : Bs) : (mk l).size = l.length := by simp [mk, ByteArray.size]

theorem map_bs_mk (r : List Bs) : (r.map mk).map bs = r := by
  induction r with
  | nil => rfl
  | cons x r ih => rw [List.map_cons, List.map_cons, ih, bs_mk]
theorem map_mk_bs (r : List Str) : (r.map bs).map mk = r := by
  induction r with
  | nil => rfl
  | cons x r ih => rw [List.map_cons, List.map_cons, ih, mk_bs]
def parts : Bs → List Bs
  | [] => [[]]
  | c :: r => if c = 47 then [] :: parts r else match parts r with
    | [] => [[c]]
    | p :: ps => (c :: p) :: ps
theorem parts_ne (l : Bs) : parts l ≠ [] := by
  induction l with
  | nil => simp [parts]
  | cons c r ih =>
    unfold parts
    split
    · simp
    · split <;> simp
theorem parts_slash (r : Bs) : parts (47 :: r) = [] :: parts r := by simp [parts]
theorem parts_cons {c : UInt8} {r p : Bs} {ps : List Bs} (hc : c ≠ 47) (h : parts r = p :: ps) : parts (c :: r) = (c :: p) :: ps := by
  unfold parts; rw [if_neg hc, h]
/-- no slash ahead of i -/
def clear (l : Bs) (i : Nat) : Prop := ∀ j, j < i → l[j]? ≠ some 47
theorem parts_at : ∀ (i : Nat) (l : Bs), clear l i → l[i]? = some 47 → parts l = l.take i :: parts (l.drop (i + 1))
  | 0, [], _, h => by simp at h
  | 0, c :: r, _, h => by
    have : c = 47 := by simpa using h
    subst this; rw [parts_slash]; rfl
  | i + 1, [], _, h => by simp at h
  | i + 1, c :: r, hn, h => by
    have hc : c ≠ 47 := fun e => hn 0 (by omega) (by simp [e])
    have ih := parts_at i r (fun j hj => by have := hn (j + 1) (by omega); simpa using this) (by simpa using h)
    rw [parts_cons hc ih]; rfl
theorem parts_one : ∀ (l : Bs), clear l l.length → parts l = [l]
  | [], _ => rfl
  | c :: r, hn => by
    have hc : c ≠ 47 := fun e => hn 0 (by simp) (by simp [e])
    have ih := parts_one r (fun j hj => by have := hn (j + 1) (by simpa using hj); simpa using this)
    rw [parts_cons hc ih]

theorem index_nil : Lib.index [] [47] = -1 := by decide
theorem index_slash (r : Bs) : Lib.index (47 :: r) [47] = 0 :=
  Lib.index_first (i := 0) (by simp) (by simp [Lib.occAt]) (fun j hj => absurd hj (by omega))
theorem occ (l : Bs) (i : Nat) : Lib.occAt l [47] i = true ↔ l[i]? = some 47 := by
  unfold Lib.occAt
  rcases Nat.lt_or_ge i l.length with h | h
  · rw [List.drop_eq_getElem_cons h, List.getElem?_eq_getElem h]
    constructor
    · intro e
      have : 47 = l[i] := by simpa [List.isPrefixOf] using e
      rw [← this]
    · intro e
      have : l[i] = 47 := by simpa using e
      rw [this]; rfl
  · rw [List.drop_eq_nil_of_le h, List.getElem?_eq_none h]; simp
theorem index_cases (l : Bs) : (Lib.index l [47] = -1 ∧ clear l l.length) ∨ ∃ i : Nat, Lib.index l [47] = i ∧ clear l i ∧ l[i]? = some 47 := by
  rcases Lib.index_spec l [47] with ⟨h, hn⟩ | ⟨i, h, hi, ho, hn⟩
  · refine .inl ⟨h, fun j hj e => ?_⟩
    have := hn j (by omega)
    rw [(occ l j).2 e] at this; simp at this
  · refine .inr ⟨i, h, fun j hj e => ?_, (occ l i).1 ho⟩
    have := hn j hj
    rw [(occ l j).2 e] at this; simp at this
theorem split_parts : ∀ (n : Nat) (l : Bs), l.length ≤ n → Lib.splitK [47] 0 (Lib.count l [47]) l = parts l := by
  intro n
  induction n with
  | zero =>
    intro l hl
    obtain rfl : l = [] := List.eq_nil_of_length_eq_zero (by omega)
    rw [Lib.count_miss index_nil]; rfl
  | succ n ih =>
    intro l hl
    rcases index_cases l with ⟨h, hc⟩ | ⟨i, h, hc, hi⟩
    · rw [Lib.count_miss h, parts_one l hc]; rfl
    · have hil : i < l.length := by
        rcases Nat.lt_or_ge i l.length with h | h
        · exact h
        · rw [List.getElem?_eq_none h] at hi; simp at hi
      rw [Lib.count_hit (by simp) h, parts_at i l hc hi, Nat.add_comm 1]
      show (if Lib.index l [47] == -1 then [l] else _) = _
      rw [if_neg (by rw [h]; simp), h]
      have e : (i : Int).toNat = i := by omega
      rw [e, Nat.add_zero]
      simp only [List.length_singleton]
      rw [ih _ (by simp; omega)]
theorem splitB_parts (s : Str) : (Lib.splitB ⟨#[47]⟩ 0 (Lib.countB s ⟨#[47]⟩) s).map bs = parts (bs s) := by
  have h := Lib.splitB_data ⟨#[47]⟩ 0 (Lib.countB s ⟨#[47]⟩) s
  exact h.trans (split_parts _ (bs s) (Nat.le_refl _))
theorem splitB_eq (s : Str) : Lib.splitB ⟨#[47]⟩ 0 (Lib.countB s ⟨#[47]⟩) s = (parts (bs s)).map mk := by
  rw [← splitB_parts, List.map_map]
  conv => lhs; rw [← List.map_id (Lib.splitB ⟨#[47]⟩ 0 (Lib.countB s ⟨#[47]⟩) s)]
  exact List.map_congr_left fun x _ => (mk_bs x).symm
theorem countB_parts (s : Str) : Lib.countB s ⟨#[47]⟩ + 1 = (parts (bs s)).length := by
  have h := congrArg List.length (splitB_parts s)
  rw [List.length_map, Lib.splitB_all ⟨#[47]⟩ (by decide) 0 _ s rfl] at h
  exact h
/-- the first part -/
theorem cut_first (s : Str) : (Lib.cut (bs s) [47]).1 = (parts (bs s)).head (parts_ne _) := by
  rcases index_cases (bs s) with ⟨h, hc⟩ | ⟨i, h, hc, hi⟩
  · unfold Lib.cut; rw [if_neg (by omega)]; simp only [parts_one _ hc, List.head_cons]
  · unfold Lib.cut; rw [if_pos (by omega)]; simp only [parts_at i _ hc hi, List.head_cons, h]; rfl

theorem parts_length : ∀ (l : Bs), (parts l).length ≤ l.length + 1
  | [] => by simp [parts]
  | c :: r => by
    have ih := parts_length r
    unfold parts
    split
    · simpa using ih
    · split
      · simp
      · rename_i h; rw [h] at ih; simp at ih ⊢; omega
theorem parts_le : ∀ (l : Bs) (p : Bs), p ∈ parts l → p.length ≤ l.length
  | [], p, h => by simp [parts] at h; simp [h]
  | c :: r, p, h => by
    have ih := parts_le r
    unfold parts at h
    split at h
    · rcases List.mem_cons.1 h with h | h
      · simp [h]
      · have := ih p h; simp; omega
    · split at h
      · simp at h; simp [h]
      · rename_i q qs hq
        rcases List.mem_cons.1 h with h | h
        · have := ih q (by rw [hq]; simp); simp [h]; omega
        · have := ih p (by rw [hq]; simp [h]); simp; omega
/-- the loop of l1parts: done so far -/
def PInv (l : Bs) (k a : Nat) (done : List Bs) : Prop :=
  (k ≤ l.length ∧ a ≤ k ∧ parts l = done ++ parts (l.drop a) ∧ ∀ j, a ≤ j → j < k → l[j]? ≠ some 47) ∨ (k = l.length + 1 ∧ a ≤ k ∧ parts l = done)
theorem PInv.start (l : Bs) : PInv l 0 0 [] := .inl ⟨by omega, by omega, rfl, fun j _ h => absurd h (by omega)⟩
theorem PInv.le {l : Bs} {k a : Nat} {done : List Bs} (h : PInv l k a done) : k ≤ l.length + 1 ∧ a ≤ k := by
  rcases h with ⟨h, h1, _⟩ | ⟨h, h1, _⟩ <;> omega
theorem PInv.count {l : Bs} {k a : Nat} {done : List Bs} (h : PInv l k a done) : done.length ≤ l.length + 1 := by
  have hp := parts_length l
  rcases h with ⟨_, _, h, _⟩ | ⟨_, _, h⟩
  · rw [h] at hp; simp at hp; omega
  · rw [h] at hp; exact hp
theorem PInv.skip {l : Bs} {k a : Nat} {done : List Bs} (h : PInv l k a done) (hk : k < l.length) (hc : l[k]? ≠ some 47) : PInv l (k + 1) a done := by
  rcases h with ⟨h, h1, h2, h3⟩ | ⟨h, _⟩
  · refine .inl ⟨by omega, by omega, h2, fun j hj hj2 => ?_⟩
    rcases Nat.lt_or_ge j k with h | h
    · exact h3 j hj h
    · obtain rfl : j = k := by omega
      exact hc
  · omega
theorem PInv.cut {l : Bs} {k a : Nat} {done : List Bs} (h : PInv l k a done) (hc : l[k]? = some 47) : PInv l (k + 1) (k + 1) (done ++ [(l.drop a).take (k - a)]) := by
  have hk : k < l.length := by
    rcases Nat.lt_or_ge k l.length with h | h
    · exact h
    · rw [List.getElem?_eq_none h] at hc; simp at hc
  rcases h with ⟨h, h1, h2, h3⟩ | ⟨h, _⟩
  · refine .inl ⟨by omega, by omega, ?_, fun j hj hj2 => by omega⟩
    have hp := parts_at (k - a) (l.drop a) (fun j hj => by rw [List.getElem?_drop]; exact h3 (a + j) (by omega) (by omega)) (by rw [List.getElem?_drop, ← hc]; congr 1; omega)
    rw [h2, hp, List.drop_drop]
    have e : a + (k - a + 1) = k + 1 := by omega
    rw [e]; simp
  · omega
theorem PInv.last {l : Bs} {k a : Nat} {done : List Bs} (h : PInv l k a done) (hk : k = l.length) : PInv l (k + 1) (k + 1) (done ++ [(l.drop a).take (k - a)]) := by
  rcases h with ⟨h, h1, h2, h3⟩ | ⟨h, _⟩
  · refine .inr ⟨by omega, by omega, ?_⟩
    have hp := parts_one (l.drop a) (fun j hj => by rw [List.getElem?_drop]; rw [List.length_drop] at hj; exact h3 (a + j) (by omega) (by omega))
    rw [h2, hp, List.take_of_length_le (by simp; omega)]
  · omega
theorem PInv.done {l : Bs} {k a : Nat} {done : List Bs} (h : PInv l k a done) (hk : l.length < k) : parts l = done := by
  rcases h with ⟨h, _⟩ | ⟨_, _, h⟩
  · omega
  · exact h
theorem extract_mk (s : Str) (a k : Nat) : s.extract a k = mk (((bs s).drop a).take (k - a)) := by
  apply bs_inj
  rw [bs_mk]
  exact Lib.extract_data s a k

def okByte (b : UInt8) : Bool := (decide (97 ≤ b.toNat) && decide (b.toNat ≤ 122)) || (decide (48 ≤ b.toNat) && decide (b.toNat ≤ 57)) || decide (b.toNat = 95) || decide (b.toNat = 45)
def plain (p : Bs) : Bool := !p.isEmpty && p.all okByte
def walk : List Bs → List Bs → Int × List Bs
  | row, [] => (0, row)
  | row, p :: ps => if p = [46] then walk row ps else if p = [46, 46] then (if row = [] then (2, []) else walk row.dropLast ps) else if plain p = true then walk (row ++ [p]) ps else (1, [])
theorem walk_drop (row : List Bs) (ps : List Bs) (k : Nat) (hk : k < ps.length) : walk row (ps.drop k) = if ps[k] = [46] then walk row (ps.drop (k + 1)) else if ps[k] = [46, 46] then (if row = [] then (2, []) else walk row.dropLast (ps.drop (k + 1))) else if plain ps[k] = true then walk (row ++ [ps[k]]) (ps.drop (k + 1)) else (1, []) := by
  rw [List.drop_eq_getElem_cons hk]; rfl
theorem plain_ne {p : Bs} (h : p ≠ []) (ha : ∀ (j : Nat) (c : UInt8), p[j]? = some c → okByte c = true) : plain p = true := by
  unfold plain
  rw [Bool.and_eq_true]
  refine ⟨by cases p <;> simp_all, List.all_eq_true.2 fun c hc => ?_⟩
  obtain ⟨j, hj⟩ := List.mem_iff_getElem?.1 hc
  exact ha j c hj
theorem plain_no {p : Bs} {j : Nat} {c : UInt8} (h : p[j]? = some c) (hc : okByte c = false) : plain p = false := by
  unfold plain
  rw [Bool.and_eq_false_iff]
  refine .inr (Bool.eq_false_iff.2 fun ha => ?_)
  have := List.all_eq_true.1 ha c (List.mem_of_getElem? h)
  rw [hc] at this; simp at this
theorem plain_nil : plain [] = false := rfl
def join (ps : List Bs) : Bs := Lib.join ps [47]
theorem join_snoc (ps : List Bs) (p : Bs) (h : ps ≠ []) : join (ps ++ [p]) = join ps ++ [47] ++ p := by
  unfold join Lib.join
  induction ps with
  | nil => exact absurd rfl h
  | cons a r ih =>
    cases r with
    | nil => simp [List.intercalate, List.intersperse]
    | cons b t =>
      have := ih (by simp)
      simp only [List.intercalate, List.cons_append, List.intersperse_cons_cons, List.flatten_cons] at this ⊢
      rw [this]; simp
theorem join_nil : join [] = [] := rfl
theorem join_one (p : Bs) : join [p] = p := Lib.join_one p [47]
/-- the form of a name walked from a place on -/
def named (at_ : List Bs) (name : Bs) : Int × Bs :=
  if 60 < name.length then (3, []) else
    if (walk at_ (parts name)).1 ≠ 0 then ((walk at_ (parts name)).1, []) else
      if join (walk at_ (parts name)).2 = [] then (1, []) else
        if 60 < (join (walk at_ (parts name)).2).length then (3, []) else (0, join (walk at_ (parts name)).2)
theorem named_long {at_ : List Bs} {name : Bs} (h : 60 < name.length) : named at_ name = (3, []) := by unfold named; rw [if_pos h]
theorem named_code {at_ : List Bs} {name : Bs} {r : Int × List Bs} (h : ¬ 60 < name.length) (hr : walk at_ (parts name) = r) (hc : r.1 ≠ 0) : named at_ name = (r.1, []) := by
  unfold named; rw [if_neg h, hr, if_pos hc]
theorem named_none {at_ : List Bs} {name : Bs} {r : Int × List Bs} (h : ¬ 60 < name.length) (hr : walk at_ (parts name) = r) (hc : r.1 = 0) (hj : join r.2 = []) : named at_ name = (1, []) := by
  unfold named; rw [if_neg h, hr, if_neg (fun e => e hc), if_pos hj]
theorem named_over {at_ : List Bs} {name : Bs} {r : Int × List Bs} (h : ¬ 60 < name.length) (hr : walk at_ (parts name) = r) (hc : r.1 = 0) (hj : join r.2 ≠ []) (hl : 60 < (join r.2).length) : named at_ name = (3, []) := by
  unfold named; rw [if_neg h, hr, if_neg (fun e => e hc), if_neg hj, if_pos hl]
theorem named_ok {at_ : List Bs} {name : Bs} {r : Int × List Bs} (h : ¬ 60 < name.length) (hr : walk at_ (parts name) = r) (hc : r.1 = 0) (hj : join r.2 ≠ []) (hl : ¬ 60 < (join r.2).length) : named at_ name = (0, join r.2) := by
  unfold named; rw [if_neg h, hr, if_neg (fun e => e hc), if_neg hj, if_neg hl]
def clean (s : Str) : Int × Str := ((named [] (bs s)).1, mk (named [] (bs s)).2)
def within (frm s : Str) : Int × Str :=
  if (clean frm).1 ≠ 0 then (4, mk []) else ((named (parts (bs (clean frm).2)).dropLast (bs s)).1, mk (named (parts (bs (clean frm).2)).dropLast (bs s)).2)
def near (s : Str) : Bool := decide ((parts (bs s)).head (parts_ne _) = [46]) || decide ((parts (bs s)).head (parts_ne _) = [46, 46])
def rooted (root name : Str) : Int × Str := if root = mk [] then clean name else clean (root ++ mk [47] ++ name)
def metIn (out : List Str) (x : Str) : Bool := out.any fun y => decide (y = x)
/-- what the roots add to the tries -/
def triesOf (name : Str) : List Str → List Str → List Str
  | out, [] => out
  | out, r :: rs => if (rooted r name).1 = 0 ∧ metIn out (rooted r name).2 = false then triesOf name (out ++ [(rooted r name).2]) rs else triesOf name out rs
def tries (roots : List Str) (frm name : Str) : List Str :=
  if 8 < roots.length then [] else
    if near name = true then (if (within frm name).1 ≠ 0 then [] else [(within frm name).2]) else
      if (clean name).1 ≠ 0 then [] else triesOf (clean name).2 [] roots
end Nm
end Go.Proofs.YtkhlicmlnjccdaaDoor
