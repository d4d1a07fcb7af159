/-
  Plain loading of a fan of modules: what becomes of it. No walk.
-/
import Derived.Test.YtkhlicmlnjccdaaDoorKd12
namespace Go.Proofs.YtkhlicmlnjccdaaDoor
namespace Nm
theorem parts_app : ∀ (p : Bs), (∀ c ∈ p, c ≠ 47) → ∀ q : Bs, parts (p ++ 47 :: q) = p :: parts q
  | [], _, q => parts_slash q
  | c :: p, h, q => parts_cons (h c (by simp)) (parts_app p (fun d hd => h d (by simp [hd])) q)
theorem plain_noslash {p : Bs} (h : plain p = true) : ∀ c ∈ p, c ≠ 47 := fun c hc e => by
  have := (plain_mem h).2 c hc
  rw [e, okByte_47] at this; simp at this
/-- a name of two parts -/
theorem clean_two {p q : Bs} (hp : plain p = true) (hq : plain q = true) (hl : p.length + q.length ≤ 50) : clean (mk (p ++ 47 :: q)) = (0, mk (p ++ 47 :: q)) := by
  have hd := plain_dot hp
  have he := plain_dot hq
  have hpar : parts (p ++ 47 :: q) = [p, q] := by rw [parts_app p (plain_noslash hp), plain_parts hq]
  have hw : walk [] (parts (p ++ 47 :: q)) = (0, [p, q]) := by
    rw [hpar]
    unfold walk
    rw [if_neg hd.1, if_neg hd.2, if_pos hp]
    unfold walk
    rw [if_neg he.1, if_neg he.2, if_pos hq]
    rfl
  have hj : join [p, q] = p ++ 47 :: q := by
    have := join_snoc [p] q (by simp)
    rw [join_one] at this
    simpa using this
  have hlen : (p ++ 47 :: q).length ≤ 60 := by simp; omega
  have hn : named [] (p ++ 47 :: q) = (0, p ++ 47 :: q) := by
    have := named_ok (at_ := []) (by omega) hw rfl (by rw [hj]; simp) (by rw [hj]; omega)
    rw [hj] at this; exact this
  unfold clean
  rw [bs_mk, hn]
theorem mk_app3 (p q : Bs) : mk p ++ mk [47] ++ mk q = mk (p ++ 47 :: q) := by
  apply bs_inj
  simp [bs, mk, ByteArray.data_append]
/-- the tries of a plain name at the roots "" and "lib" -/
theorem tries_lib {q : Bs} (hq : plain q = true) (hl : q.length ≤ 20) (frm : Str) : tries [⟨#[]⟩, ⟨#[108, 105, 98]⟩] frm (mk q) = [mk q, mk ([108, 105, 98] ++ 47 :: q)] := by
  have hc := clean_part hq (by omega)
  have hn := near_part hq
  have hlib : plain [108, 105, 98] = true := by decide
  have hr0 : rooted ⟨#[]⟩ (mk q) = (0, mk q) := by
    unfold rooted
    rw [if_pos (show (⟨#[]⟩ : Str) = mk [] from rfl), hc]
  have hr1 : rooted ⟨#[108, 105, 98]⟩ (mk q) = (0, mk ([108, 105, 98] ++ 47 :: q)) := by
    unfold rooted
    rw [if_neg (show ¬ (⟨#[108, 105, 98]⟩ : Str) = mk [] from fun e => by have := mk_inj (a := [108, 105, 98]) (b := []) e; simp at this)]
    rw [show (⟨#[108, 105, 98]⟩ : Str) = mk [108, 105, 98] from rfl, mk_app3]
    exact clean_two hlib hq (by simp; omega)
  have hne : mk q ≠ mk ([108, 105, 98] ++ 47 :: q) := fun e => by
    have := congrArg List.length (mk_inj e)
    simp at this
    omega
  unfold tries
  rw [if_neg (by simp), hn, if_neg (by simp), hc, if_neg (by simp)]
  unfold triesOf
  rw [hr0, if_pos ⟨rfl, rfl⟩]
  unfold triesOf
  rw [hr1, if_pos ⟨rfl, by simp only [metIn, List.nil_append, List.any_cons, List.any_nil, Bool.or_false, decide_eq_false_iff_not]; exact hne⟩]
  rfl
end Nm
def ktl (k : Nat) : List UInt8 := if k = 0 then [107, 48] else 107 :: digits k
def ktx (k : Nat) : Str := Nm.mk (ktl k)
def ltx (k : Nat) : Str := Nm.mk ([108, 105, 98] ++ 47 :: ktl k)
theorem ktl_val (k : Nat) : val (ktl k).tail = k := by
  unfold ktl
  split
  · rename_i h; subst h; rfl
  · exact val_digits k
theorem ktl_plain (k : Nat) : Nm.plain (ktl k) = true := by
  unfold ktl Nm.plain
  split
  · decide
  · rw [Bool.and_eq_true]
    refine ⟨rfl, List.all_eq_true.2 fun c hc => ?_⟩
    rcases List.mem_cons.1 hc with rfl | hc
    · decide
    · exact digits_ok k c hc
theorem ktl_len {k : Nat} (h : k < 100) : (ktl k).length ≤ 3 := by
  unfold ktl
  split
  · simp
  · have := digits_len k h; simp; omega
theorem ktx_inj {i j : Nat} (h : ktx i = ktx j) : i = j := by
  have := Nm.mk_inj h
  rw [← ktl_val i, ← ktl_val j, this]
theorem ltx_inj {i j : Nat} (h : ltx i = ltx j) : i = j := by
  have := List.append_cancel_left (Nm.mk_inj h)
  have := (List.cons.inj this).2
  rw [← ktl_val i, ← ktl_val j, this]
theorem ktx_size {k : Nat} (h : k < 100) : (ktx k).size ≤ 3 := by
  unfold ktx
  rw [Nm.mk_size]; exact ktl_len h
theorem ltx_clean {k : Nat} (h : k < 100) : Nm.clean (ltx k) = (0, ltx k) := Nm.clean_two (by decide) (ktl_plain k) (by have := ktl_len h; simp; omega)
theorem ltx_ne_ktx (i j : Nat) : ltx i ≠ ktx j := fun e => by
  have h1 := Nm.mk_inj e
  have h2 := (Nm.plain_noslash (ktl_plain j)) 47 (by rw [← h1]; simp)
  exact h2 rfl
theorem ltx_ne_main (i : Nat) : ltx i ≠ Ld.mainName := fun e => by
  have h1 := Nm.mk_inj (a := [108, 105, 98] ++ 47 :: ktl i) (b := [109, 97, 105, 110]) e
  simp at h1
theorem ktx_ne_main (i : Nat) : ktx i ≠ Ld.mainName := fun e => by
  have h1 := Nm.mk_inj (a := ktl i) (b := [109, 97, 105, 110]) e
  unfold ktl at h1
  split at h1 <;> simp at h1
theorem ktx_tries {k : Nat} (h : k < 100) (frm : Str) : Nm.tries [⟨#[]⟩, ⟨#[108, 105, 98]⟩] frm (ktx k) = [ktx k, ltx k] := Nm.tries_lib (ktl_plain k) (by have := ktl_len h; omega) frm
namespace Fan
open Ld
def linesF (thr : Nat → Bool) (i : Nat) : List LineD := [⟨1, ⟨#[]⟩, i, 0⟩, if thr i = true then ⟨6, ⟨#[]⟩, i, 0⟩ else ⟨2, ⟨#[]⟩, i, 0⟩]
def modF (thr : Nat → Bool) (i : Nat) : ModD := ⟨ltx i, linesF thr i⟩
def four (i : Nat) : List LineD := [⟨4, ktx i, 0, 0⟩, ⟨4, ktx i, 0, 0⟩, ⟨7, ktx i, 0, 1⟩, ⟨5, ktx i, 0, 0⟩]
def mlines : Nat → List LineD
  | 0 => []
  | i + 1 => mlines i ++ four i
theorem mlines_len : ∀ n, (mlines n).length = 4 * n
  | 0 => rfl
  | n + 1 => by rw [mlines, List.length_append, mlines_len n]; simp [four]; omega
theorem mlines_at : ∀ {n i : Nat} (j : Nat), i < n → j < 4 → (mlines n)[4 * i + j]? = (four i)[j]?
  | 0, i, j, h, _ => by omega
  | n + 1, i, j, h, hj => by
    rw [mlines]
    rcases Nat.lt_or_ge i n with h1 | h1
    · rw [List.getElem?_append_left (by rw [mlines_len]; omega)]
      exact mlines_at j h1 hj
    · obtain rfl : i = n := by omega
      rw [List.getElem?_append_right (by rw [mlines_len]; omega), mlines_len]
      congr 1; omega
def mainMod (n : Nat) : ModD := ⟨mainName, mlines n⟩
def fan (n : Nat) (thr : Nat → Bool) : WorldD := ⟨[⟨#[]⟩, ⟨#[108, 105, 98]⟩], (List.range n).map (modF thr) ++ [mainMod n], []⟩
variable {n : Nat} {thr : Nat → Bool}
theorem mods_len : (fan n thr).mods.length = n + 1 := by simp [fan]
theorem mods_at {i : Nat} (h : i < n) : (fan n thr).mods[i]? = some (modF thr i) := by
  show ((List.range n).map (modF thr) ++ [mainMod n])[i]? = _
  rw [List.getElem?_append_left (by simpa using h)]
  simp [h]
theorem mods_main : (fan n thr).mods[n]? = some (mainMod n) := by
  show ((List.range n).map (modF thr) ++ [mainMod n])[n]? = _
  rw [List.getElem?_append_right (by simp)]
  simp
theorem mods_cases {i : Nat} {m : ModD} (h : (fan n thr).mods[i]? = some m) : (i < n ∧ m = modF thr i) ∨ (i = n ∧ m = mainMod n) := by
  rcases Nat.lt_trichotomy i n with h1 | h1 | h1
  · rw [mods_at h1] at h; exact .inl ⟨h1, (Option.some.inj h).symm⟩
  · subst h1; rw [mods_main] at h; exact .inr ⟨rfl, (Option.some.inj h).symm⟩
  · rw [List.getElem?_eq_none (by rw [mods_len]; omega)] at h; cases h
theorem modAt_l {i : Nat} (h : i < n) : modAt (fan n thr).mods (ltx i) = some i :=
  modAt_at (mods_at h) rfl (fun j hj u hu e => by
    rcases mods_cases hu with ⟨_, rfl⟩ | ⟨_, rfl⟩
    · have := ltx_inj e; omega
    · omega)
theorem modAt_main : modAt (fan n thr).mods mainName = some n :=
  modAt_at mods_main rfl (fun j hj u hu e => by
    rcases mods_cases hu with ⟨_, rfl⟩ | ⟨_, rfl⟩
    · exact ltx_ne_main j e
    · omega)
theorem modAt_k (i : Nat) : modAt (fan n thr).mods (ktx i) = none :=
  modAt_no (fun j u hu e => by
    rcases mods_cases hu with ⟨_, rfl⟩ | ⟨_, rfl⟩
    · exact ltx_ne_ktx j i e
    · exact ktx_ne_main i e.symm)
theorem linesOf_l {i : Nat} (h : i < n) : linesOf (fan n thr) (ltx i) = linesF thr i := by
  unfold linesOf
  rw [modAt_l h]
  simp only [mods_at h, modF]
theorem linesOf_main : linesOf (fan n thr) mainName = mlines n := by
  unfold linesOf
  rw [modAt_main]
  simp only [mods_main, mainMod]
theorem ok_f (hn : n ≤ 14) : Wd.worldOk (fan n thr) = (0, 0, 0) := by
  refine Wd.worldOk_zero (by rw [mods_len]; simp [fan]; omega) (fun j hj => ?_) (fun j hj => by simp [fan] at hj) (fun j hj => ?_) (fun j hj => ?_)
  · have hc : Nm.clean ⟨#[108, 105, 98]⟩ = (0, ⟨#[108, 105, 98]⟩) := Nm.clean_part (l := [108, 105, 98]) (by decide) (by simp)
    have : j = 0 ∨ j = 1 := by simp [fan] at hj; omega
    rcases this with rfl | rfl
    · simp [Wd.badRoot, fan]
    · simp [Wd.badRoot, fan, hc]
  · rw [mods_len] at hj
    unfold Wd.badMod
    obtain ⟨m, hm⟩ : ∃ m, (fan n thr).mods[j]? = some m := ⟨_, List.getElem?_eq_getElem (by rw [mods_len]; exact hj)⟩
    rw [hm]
    have hmet : Wd.metMod (fan n thr).mods j m.name = false := by
      unfold Wd.metMod
      rw [List.any_eq_false]
      intro x hx
      obtain ⟨i, hi⟩ := List.getElem?_of_mem hx
      rw [List.getElem?_take] at hi
      split at hi
      · rename_i hij
        simp only [decide_eq_true_eq]
        intro e
        rcases mods_cases hi with ⟨_, rfl⟩ | ⟨_, rfl⟩
        · rcases mods_cases hm with ⟨_, rfl⟩ | ⟨_, rfl⟩
          · have := ltx_inj e; omega
          · exact ltx_ne_main i e
        · omega
      · simp at hi
    have hcl : Nm.clean m.name = (0, m.name) := by
      rcases mods_cases hm with ⟨_, rfl⟩ | ⟨_, rfl⟩
      · exact ltx_clean (by omega)
      · exact Nm.clean_part (l := [109, 97, 105, 110]) (by decide) (by simp)
    have hll : ¬ 60 < m.lines.length := by
      rcases mods_cases hm with ⟨_, rfl⟩ | ⟨_, rfl⟩
      · simp [modF, linesF]
      · simp [mainMod, mlines_len]; omega
    simp only [hmet]
    simp [hcl, hll]
  · rw [mods_len] at hj
    unfold Wd.badLineOf
    obtain ⟨m, hm⟩ : ∃ m, (fan n thr).mods[j]? = some m := ⟨_, List.getElem?_eq_getElem (by rw [mods_len]; exact hj)⟩
    rw [hm]
    refine Wd.first_none fun k hk => ?_
    unfold Wd.badLineAt
    rw [List.getElem?_eq_getElem hk]
    rcases mods_cases hm with ⟨_, rfl⟩ | ⟨_, rfl⟩
    · have hk2 : k = 0 ∨ k = 1 := by simp [modF, linesF] at hk; omega
      rcases hk2 with rfl | rfl
      · simp [modF, linesF, Wd.lineOk]
      · cases ht : thr j <;> simp [modF, linesF, Wd.lineOk, ht]
    · have hk2 : k < 4 * n := by simpa [mainMod, mlines_len] using hk
      have hsz := ktx_size (k := k / 4) (by omega)
      have hat := mlines_at (n := n) (i := k / 4) (k % 4) (by omega) (by omega)
      rw [show 4 * (k / 4) + k % 4 = k by omega] at hat
      have hget : (mlines n)[k]? = some (mainMod n).lines[k] := List.getElem?_eq_getElem hk
      rw [hat] at hget
      generalize (mainMod n).lines[k] = l at hget ⊢
      show (!Wd.lineOk l (((mlines n).length : Int) - k - 1)) = false
      have hr : k % 4 = 0 ∨ k % 4 = 1 ∨ k % 4 = 2 ∨ k % 4 = 3 := by omega
      rw [mlines_len]
      rcases hr with h | h | h | h <;> rw [h] at hget <;> obtain rfl := Option.some.inj hget <;> simp [Wd.lineOk] <;> omega
/-- what main does with one of them -/
def block (thr : Nat → Bool) (i : Nat) : List RecD :=
  if thr i = true then [⟨1, ktx i, 2, 0⟩, ⟨1, ltx i, 0, 0⟩, ⟨2, ltx i, 0, 0⟩, ⟨3, ltx i, 0, i⟩, ⟨5, ltx i, 6, i⟩, ⟨6, ltx i, 6, 0⟩, ⟨1, ktx i, 2, 0⟩, ⟨6, ltx i, 5, 0⟩]
  else [⟨1, ktx i, 2, 0⟩, ⟨1, ltx i, 0, 0⟩, ⟨2, ltx i, 0, 0⟩, ⟨3, ltx i, 0, i⟩, ⟨4, ltx i, 0, i⟩, ⟨1, ktx i, 2, 0⟩, ⟨3, mainName, 0, i⟩]
def blocks (thr : Nat → Bool) : Nat → List RecD
  | 0 => []
  | i + 1 => blocks thr i ++ block thr i
def endF (thr : Nat → Bool) (i : Nat) : StateD := if thr i = true then ⟨ltx i, 3, 0, 6⟩ else ⟨ltx i, 2, i, 0⟩
def ends (thr : Nat → Bool) (k : Nat) : List StateD := ⟨mainName, 1, 0, 0⟩ :: (List.range k).map (endF thr)
structure At (thr : Nat → Bool) (k : Nat) (s : St) : Prop where
  recs : s.recs = ⟨1, mainName, 0, 0⟩ :: ⟨2, mainName, 0, 0⟩ :: blocks thr k
  states : s.states = ends thr k
  reads : s.reads = 1 + 3 * k
  rings : s.rings = []
  stack : s.stack = [mainName]
theorem endF_name (i : Nat) : (endF thr i).name = ltx i := by unfold endF; split <;> rfl
theorem ends_at {k i : Nat} (h : i < k) : (ends thr k)[i + 1]? = some (endF thr i) := by simp [ends, h]
theorem ends_len (k : Nat) : (ends thr k).length = k + 1 := by simp [ends]
theorem ends_cases {k j : Nat} {u : StateD} (h : (ends thr k)[j]? = some u) : (j = 0 ∧ u = ⟨mainName, 1, 0, 0⟩) ∨ ∃ i, j = i + 1 ∧ i < k ∧ u = endF thr i := by
  cases j with
  | zero => exact .inl ⟨rfl, (Option.some.inj h).symm⟩
  | succ i =>
    have hi : i < k := by
      rcases Nat.lt_or_ge i k with h1 | h1
      · exact h1
      · rw [List.getElem?_eq_none (by rw [ends_len]; omega)] at h; cases h
    rw [ends_at hi] at h
    exact .inr ⟨i, rfl, hi, (Option.some.inj h).symm⟩
theorem stAt_k (k i : Nat) : stAt (ends thr k) (ktx i) = none := stAt_no (fun j u hu e => by
  rcases ends_cases hu with ⟨_, rfl⟩ | ⟨q, _, _, rfl⟩
  · exact ktx_ne_main i e.symm
  · rw [endF_name] at e; exact ltx_ne_ktx q i e)
theorem stAt_new {k i : Nat} (h : k ≤ i) : stAt (ends thr k) (ltx i) = none := stAt_no (fun j u hu e => by
  rcases ends_cases hu with ⟨_, rfl⟩ | ⟨q, _, hq, rfl⟩
  · exact ltx_ne_main i e.symm
  · rw [endF_name] at e; have := ltx_inj e; omega)
theorem stAt_old {k i : Nat} (h : i < k) : stAt (ends thr k) (ltx i) = some (i + 1) := stAt_at (ends_at h) (endF_name i) (fun j hj u hu e => by
  rcases ends_cases hu with ⟨_, rfl⟩ | ⟨q, rfl, hq, rfl⟩
  · exact ltx_ne_main i e.symm
  · rw [endF_name] at e; have := ltx_inj e; omega)
theorem ends_succ (k : Nat) : ends thr k ++ [endF thr k] = ends thr (k + 1) := by simp [ends, List.range_succ]
/-- looking for one that was not tried yet -/
theorem find_new {k : Nat} {s : St} (hk : k < n) (hn : n ≤ 14) (hs : s.states = ends thr k) (hr : s.reads ≤ 50) : find (fan n thr) mainName (ktx k) s = (ltx k, 0, (s.read.note ⟨1, ktx k, 2, 0⟩).read.note ⟨1, ltx k, 0, 0⟩) := by
  unfold find
  rw [show (fan n thr).roots = [⟨#[]⟩, ⟨#[108, 105, 98]⟩] from rfl, ktx_tries (by omega), if_neg (by simp)]
  unfold Ld.look
  rw [hs, stAt_k, if_neg (by simp), if_neg (by omega), if_neg (by simp [fan]), modAt_k, if_neg (by simp)]
  unfold Ld.look
  rw [show (s.read.note ⟨1, ktx k, 2, 0⟩).states = s.states from rfl, show (s.read.note ⟨1, ktx k, 2, 0⟩).reads = s.reads + 1 from rfl, hs, stAt_new (Nat.le_refl k), if_neg (by simp), if_neg (by omega), if_neg (by simp [fan]), modAt_l hk, if_pos (show (some k).isSome = true from rfl)]
theorem find_old {k j : Nat} {s : St} (hk : k < n) (hkj : k < j) (hn : n ≤ 14) (hs : s.states = ends thr j) (hr : s.reads ≤ 50) : find (fan n thr) mainName (ktx k) s = (ltx k, 0, s.read.note ⟨1, ktx k, 2, 0⟩) := by
  unfold find
  rw [show (fan n thr).roots = [⟨#[]⟩, ⟨#[108, 105, 98]⟩] from rfl, ktx_tries (by omega), if_neg (by simp)]
  unfold Ld.look
  rw [hs, stAt_k, if_neg (by simp), if_neg (by omega), if_neg (by simp [fan]), modAt_k, if_neg (by simp)]
  unfold Ld.look
  rw [show (s.read.note ⟨1, ktx k, 2, 0⟩).states = s.states from rfl, hs, stAt_old hkj, if_pos (show (some (k + 1)).isSome = true from rfl)]
/-- one body -/
theorem body_f {get : Get} {k : Nat} {s : St} (hk : k < n) (hs : s.states = ends thr k) : ∃ s', body get (fan n thr) (ltx k) s = (if thr k = true then 6 else 0, s') ∧ s'.states = ends thr (k + 1) ∧ s'.reads = s.reads ∧ s'.rings = s.rings ∧ s'.stack = s.stack ∧
    s'.recs = s.recs ++ [⟨2, ltx k, 0, 0⟩, ⟨3, ltx k, 0, k⟩, if thr k = true then ⟨5, ltx k, 6, k⟩ else ⟨4, ltx k, 0, k⟩] := by
  have hl : (ends thr k).length = k + 1 := ends_len k
  have hset : ∀ a b : StateD, ((ends thr k ++ [a]).set (k + 1) b) = ends thr k ++ [b] := fun a b => by
    have := set_mid (ends thr k) [] a b
    rw [hl] at this; exact this
  have hgv : ∀ a : StateD, giveAt (ends thr k ++ [a]) (k + 1) = a.give := fun a => by
    unfold giveAt
    rw [List.getElem?_append_right (by rw [hl]; exact Nat.le_refl _), hl]; simp
  unfold body
  rw [linesOf_l hk]
  cases ht : thr k with
  | true =>
    have hls : linesF thr k = [⟨1, ⟨#[]⟩, k, 0⟩, ⟨6, ⟨#[]⟩, k, 0⟩] := by unfold linesF; rw [if_pos ht]
    refine ⟨fin s.states.length (ltx k) 6 { (s.begin (ltx k)).note ⟨3, ltx k, 0, k⟩ with thrown := k }, by rw [hls]; simp [lines, line], ?_, ?_, ?_, ?_, ?_⟩
    · simp only [fin, St.put, St.pop, St.note, St.begin, hs, hl]
      rw [if_neg (by decide)]
      simp only [hset]
      rw [← ends_succ]
      simp [endF, ht]
    · simp [fin, St.put, St.pop, St.note, St.begin]
    · simp [fin, St.put, St.pop, St.note, St.begin]
    · simp [fin, St.put, St.pop, St.note, St.begin]
    · simp [fin, St.put, St.pop, St.note, St.begin]
  | false =>
    have hls : linesF thr k = [⟨1, ⟨#[]⟩, k, 0⟩, ⟨2, ⟨#[]⟩, k, 0⟩] := by unfold linesF; rw [if_neg (by rw [ht]; simp)]
    refine ⟨fin s.states.length (ltx k) 0 (((s.begin (ltx k)).note ⟨3, ltx k, 0, k⟩).give s.states.length (ltx k) k), by rw [hls]; simp [lines, line], ?_, ?_, ?_, ?_, ?_⟩
    · simp only [fin, St.put, St.pop, St.note, St.begin, St.give, hs, hl, hset, hgv, if_true]
      rw [← ends_succ]
      simp [endF, ht]
    · simp [fin, St.put, St.pop, St.note, St.begin, St.give]
    · simp [fin, St.put, St.pop, St.note, St.begin, St.give]
    · simp [fin, St.put, St.pop, St.note, St.begin, St.give]
    · simp [fin, St.put, St.pop, St.note, St.begin, St.give, hs, hl, hset, hgv]
theorem get_new {f k : Nat} {s : St} (hk : k < n) (hn : n ≤ 14) (hA : At thr k s) : ∃ s', get (fan n thr) (f + 1) mainName (ktx k) s = (ltx k, if thr k = true then 6 else 0, s') ∧ s'.states = ends thr (k + 1) ∧ s'.reads = s.reads + 2 ∧ s'.rings = s.rings ∧ s'.stack = s.stack ∧
    s'.recs = s.recs ++ [⟨1, ktx k, 2, 0⟩, ⟨1, ltx k, 0, 0⟩, ⟨2, ltx k, 0, 0⟩, ⟨3, ltx k, 0, k⟩, if thr k = true then ⟨5, ltx k, 6, k⟩ else ⟨4, ltx k, 0, k⟩] := by
  have hr := hA.reads
  have hfd := find_new (thr := thr) hk hn hA.states (by omega)
  obtain ⟨s', hb, h1, h2, h3, h4, h5⟩ := body_f (get := get (fan n thr) f) (thr := thr) (s := (s.read.note ⟨1, ktx k, 2, 0⟩).read.note ⟨1, ltx k, 0, 0⟩) hk hA.states
  refine ⟨s', ?_, h1, h2, h3, h4, ?_⟩
  · unfold Ld.get
    rw [hfd]
    simp only [ne_eq, not_true_eq_false, if_false]
    unfold enter
    rw [show ((s.read.note ⟨1, ktx k, 2, 0⟩).read.note ⟨1, ltx k, 0, 0⟩).states = s.states from rfl, hA.states, stAt_new (Nat.le_refl k), hb]
  · rw [h5]
    show ((s.recs ++ [_]) ++ [_]) ++ _ = _
    simp
theorem get_old {f k : Nat} {s : St} (hk : k < n) (hn : n ≤ 14) (hs : s.states = ends thr (k + 1)) (hr : s.reads ≤ 50) : get (fan n thr) (f + 1) mainName (ktx k) s = (ltx k, if thr k = true then 5 else 0, s.read.note ⟨1, ktx k, 2, 0⟩) := by
  unfold Ld.get
  rw [find_old (thr := thr) hk (Nat.lt_succ_self k) hn hs hr]
  simp only [ne_eq, not_true_eq_false, if_false]
  unfold enter
  rw [show (s.read.note ⟨1, ktx k, 2, 0⟩).states = s.states from rfl, hs, stAt_old (Nat.lt_succ_self k)]
  cases ht : thr k <;> simp [ends_at (Nat.lt_succ_self k), endF, ht]
theorem known_f {k : Nat} {s : St} (hk : k < n) (hn : n ≤ 14) (hs : s.states = ends thr (k + 1)) : known (fan n thr) mainName (ktx k) s = if thr k = true then (none, 2) else (some (ltx k, k + 1), 0) := by
  unfold known
  rw [show (fan n thr).roots = [⟨#[]⟩, ⟨#[108, 105, 98]⟩] from rfl, ktx_tries (by omega), hs]
  unfold knownIn
  rw [if_neg (by simp)]
  have hko : knownOf (ends thr (k + 1)) [ktx k, ltx k] = if thr k = true then none else some (ltx k, k + 1) := by
    unfold knownOf
    rw [stAt_k]
    show knownOf _ [ltx k] = _
    unfold knownOf
    rw [stAt_old (Nat.lt_succ_self k)]
    cases ht : thr k <;> simp [ends_at (Nat.lt_succ_self k), endF, ht, knownOf]
  rw [hko]
  cases thr k <;> rfl
/-- one round of main's -/
theorem round_f {f g k : Nat} {s : St} (hk : k < n) (hn : n ≤ 14) (hA : At thr k s) : ∃ s' h, g ≤ h ∧ lines (get (fan n thr) (f + 1)) (fan n thr) 0 mainName (mlines n) (g + 4) (4 * k) s = lines (get (fan n thr) (f + 1)) (fan n thr) 0 mainName (mlines n) h (4 * (k + 1)) s' ∧ At thr (k + 1) s' := by
  have hr := hA.reads
  have e0 := mlines_at (n := n) (i := k) 0 hk (by omega)
  have e1 := mlines_at (n := n) (i := k) 1 hk (by omega)
  have e2 := mlines_at (n := n) (i := k) 2 hk (by omega)
  have e3 := mlines_at (n := n) (i := k) 3 hk (by omega)
  simp only [four, List.getElem?_cons_zero, List.getElem?_cons_succ] at e0 e1 e2 e3
  obtain ⟨s1, g1, h1, h2, h3, h4, h5⟩ := get_new (f := f) hk hn hA
  have lstep : ∀ (l : LineD) (F i : Nat) (s s' : St) (sk : Nat), (mlines n)[i]? = some l → line (get (fan n thr) (f + 1)) (fan n thr) 0 mainName l s = (0, sk, s') → lines (get (fan n thr) (f + 1)) (fan n thr) 0 mainName (mlines n) (F + 1) i s = lines (get (fan n thr) (f + 1)) (fan n thr) 0 mainName (mlines n) F (i + 1 + sk) s' := fun l F i s s' sk hi hl => by
    conv => lhs; unfold lines
    rw [hi]
    simp [hl]
  cases ht : thr k with
  | true =>
    rw [ht, if_pos rfl] at g1 h5
    have l1 : line (get (fan n thr) (f + 1)) (fan n thr) 0 mainName ⟨4, ktx k, 0, 0⟩ s = (0, 0, s1.note ⟨6, ltx k, 6, 0⟩) := by simp [line, g1]
    have g2 := get_old (f := f) (s := s1.note ⟨6, ltx k, 6, 0⟩) hk hn h1 (by show s1.reads ≤ 50; omega)
    rw [ht, if_pos rfl] at g2
    have l2 : line (get (fan n thr) (f + 1)) (fan n thr) 0 mainName ⟨4, ktx k, 0, 0⟩ (s1.note ⟨6, ltx k, 6, 0⟩) = (0, 0, ((s1.note ⟨6, ltx k, 6, 0⟩).read.note ⟨1, ktx k, 2, 0⟩).note ⟨6, ltx k, 5, 0⟩) := by simp [line, g2]
    have hkn := known_f (s := ((s1.note ⟨6, ltx k, 6, 0⟩).read.note ⟨1, ktx k, 2, 0⟩).note ⟨6, ltx k, 5, 0⟩) hk hn h1
    rw [ht, if_pos rfl] at hkn
    have l3 : line (get (fan n thr) (f + 1)) (fan n thr) 0 mainName ⟨7, ktx k, 0, 1⟩ (((s1.note ⟨6, ltx k, 6, 0⟩).read.note ⟨1, ktx k, 2, 0⟩).note ⟨6, ltx k, 5, 0⟩) = (0, 1, ((s1.note ⟨6, ltx k, 6, 0⟩).read.note ⟨1, ktx k, 2, 0⟩).note ⟨6, ltx k, 5, 0⟩) := by simp [line, hkn]
    refine ⟨((s1.note ⟨6, ltx k, 6, 0⟩).read.note ⟨1, ktx k, 2, 0⟩).note ⟨6, ltx k, 5, 0⟩, g + 1, by omega, (lstep _ (g + 3) (4 * k) _ _ 0 e0 l1).trans ((lstep _ (g + 2) (4 * k + 1) _ _ 0 e1 l2).trans ((lstep _ (g + 1) (4 * k + 2) _ _ 1 e2 l3).trans ?_)), ?_, h1, ?_, h3.trans hA.rings, h4.trans hA.stack⟩
    · rw [show 4 * k + 2 + 1 + 1 = 4 * (k + 1) by omega]
    · show ((s1.recs ++ [_]) ++ [_]) ++ [_] = _
      rw [h5, hA.recs, blocks, block, if_pos ht]
      simp
    · show s1.reads + 1 = _; omega
  | false =>
    rw [ht, if_neg (by simp)] at g1 h5
    have l1 : line (get (fan n thr) (f + 1)) (fan n thr) 0 mainName ⟨4, ktx k, 0, 0⟩ s = (0, 0, s1) := by simp [line, g1]
    have g2 := get_old (f := f) (s := s1) hk hn h1 (by omega)
    rw [ht, if_neg (by simp)] at g2
    have l2 : line (get (fan n thr) (f + 1)) (fan n thr) 0 mainName ⟨4, ktx k, 0, 0⟩ s1 = (0, 0, s1.read.note ⟨1, ktx k, 2, 0⟩) := by simp [line, g2]
    have hkn := known_f (s := s1.read.note ⟨1, ktx k, 2, 0⟩) hk hn h1
    rw [ht, if_neg (by simp)] at hkn
    have l3 : line (get (fan n thr) (f + 1)) (fan n thr) 0 mainName ⟨7, ktx k, 0, 1⟩ (s1.read.note ⟨1, ktx k, 2, 0⟩) = (0, 0, s1.read.note ⟨1, ktx k, 2, 0⟩) := by simp [line, hkn]
    have hgv : giveAt (s1.read.note ⟨1, ktx k, 2, 0⟩).states (k + 1) = k := by
      unfold giveAt
      rw [show (s1.read.note ⟨1, ktx k, 2, 0⟩).states = s1.states from rfl, h1, ends_at (Nat.lt_succ_self k)]
      simp [endF, ht]
    have l4 : line (get (fan n thr) (f + 1)) (fan n thr) 0 mainName ⟨5, ktx k, 0, 0⟩ (s1.read.note ⟨1, ktx k, 2, 0⟩) = (0, 0, (s1.read.note ⟨1, ktx k, 2, 0⟩).note ⟨3, mainName, 0, k⟩) := by simp [line, hkn, hgv]
    refine ⟨(s1.read.note ⟨1, ktx k, 2, 0⟩).note ⟨3, mainName, 0, k⟩, g, Nat.le_refl _, (lstep _ (g + 3) (4 * k) _ _ 0 e0 l1).trans ((lstep _ (g + 2) (4 * k + 1) _ _ 0 e1 l2).trans ((lstep _ (g + 1) (4 * k + 2) _ _ 0 e2 l3).trans ((lstep _ g (4 * k + 3) _ _ 0 e3 l4).trans ?_))), ?_, h1, ?_, h3.trans hA.rings, h4.trans hA.stack⟩
    · rw [show 4 * k + 3 + 1 + 0 = 4 * (k + 1) by omega]
    · show (s1.recs ++ [_]) ++ [_] = _
      rw [h5, hA.recs, blocks, block, if_neg (by rw [ht]; simp)]
      simp
    · show s1.reads + 1 = _; omega
theorem rounds_f {f : Nat} (hn : n ≤ 14) : ∀ (d k g : Nat) (s : St), k + d = n → 4 * d ≤ g → At thr k s → ∃ s', lines (get (fan n thr) (f + 1)) (fan n thr) 0 mainName (mlines n) g (4 * k) s = (0, s') ∧ At thr n s'
  | 0, k, g, s, hk, _, hA => by
    obtain rfl : k = n := by omega
    refine ⟨s, ?_, hA⟩
    cases g with
    | zero => rfl
    | succ g =>
      unfold lines
      rw [List.getElem?_eq_none (by rw [mlines_len]; exact Nat.le_refl _)]
  | d + 1, k, g, s, hk, hg, hA => by
    obtain ⟨g', rfl⟩ : ∃ g', g = g' + 4 := ⟨g - 4, by omega⟩
    obtain ⟨s1, h, hh, e1, hA1⟩ := round_f (f := f) (g := g') (by omega) hn hA
    obtain ⟨s2, e2, hA2⟩ := rounds_f hn d (k + 1) h s1 (by omega) (by omega) hA1
    exact ⟨s2, e1.trans e2, hA2⟩
/-- the whole loading -/
theorem fan_load (hn : n ≤ 14) : ∃ s', Ld.load (fan n thr) mainName = (0, s') ∧ s'.recs = (⟨1, mainName, 0, 0⟩ :: ⟨2, mainName, 0, 0⟩ :: blocks thr n) ++ [⟨4, mainName, 0, 0⟩] ∧ s'.states.length = n + 1 ∧ s'.rings = [] := by
  have hmt : Nm.tries [⟨#[]⟩, ⟨#[108, 105, 98]⟩] mainName mainName = [mainName, Nm.mk ([108, 105, 98] ++ 47 :: [109, 97, 105, 110])] := Nm.tries_lib (q := [109, 97, 105, 110]) (by decide) (by simp) mainName
  have hfd : find (fan n thr) mainName mainName St.start = (mainName, 0, St.start.read.note ⟨1, mainName, 0, 0⟩) := by
    unfold find
    rw [show (fan n thr).roots = [⟨#[]⟩, ⟨#[108, 105, 98]⟩] from rfl, hmt, if_neg (by simp)]
    unfold Ld.look
    rw [show St.start.states = [] from rfl, show stAt [] mainName = none from rfl, if_neg (by simp), if_neg (by simp [St.start]), if_neg (by simp [fan]), modAt_main, if_pos (show (some n).isSome = true from rfl)]
  obtain ⟨s1, e1, hA⟩ := rounds_f (thr := thr) (f := 38) hn n 0 (mlines n).length ((St.start.read.note ⟨1, mainName, 0, 0⟩).begin mainName) (by omega) (by rw [mlines_len]; exact Nat.le_refl _) ⟨rfl, rfl, rfl, rfl, rfl⟩
  have hb : body (get (fan n thr) 39) (fan n thr) mainName (St.start.read.note ⟨1, mainName, 0, 0⟩) = (0, fin 0 mainName 0 s1) := by
    unfold body
    rw [linesOf_main, show (St.start.read.note ⟨1, mainName, 0, 0⟩).states.length = 0 from rfl]
    rw [show (4 * 0 : Nat) = 0 from rfl] at e1
    rw [e1]
  have hg : get (fan n thr) 40 mainName mainName St.start = (mainName, 0, fin 0 mainName 0 s1) := by
    unfold Ld.get
    rw [hfd]
    simp only [ne_eq, not_true_eq_false, if_false]
    unfold enter
    rw [show (St.start.read.note ⟨1, mainName, 0, 0⟩).states = [] from rfl, show stAt [] mainName = none from rfl, hb]
  have hgv : giveAt s1.states 0 = 0 := by rw [hA.states]; rfl
  refine ⟨fin 0 mainName 0 s1, ?_, ?_, ?_, ?_⟩
  · unfold Ld.load
    rw [ok_f hn, hg, if_neg (by simp)]
  · unfold fin
    rw [if_pos rfl, hgv]
    show s1.recs ++ [_] = _
    rw [hA.recs]
  · unfold fin
    rw [if_pos rfl]
    show (s1.states.set 0 _).length = _
    rw [List.length_set, hA.states, ends_len]
  · unfold fin
    rw [if_pos rfl]
    exact hA.rings
/-- what the law counts -/
def psay (i : Nat) (x : RecD) : Bool := decide (x.kind = 3) && decide (x.name ≠ mainName) && decide (x.num = i)
def pthr (x : RecD) : Bool := decide (x.kind = 6) && decide (x.code = 6)
def pcat (x : RecD) : Bool := decide (x.kind = 6) && decide (x.code = 5)
def pshow (x : RecD) : Bool := decide (x.kind = 3) && decide (x.name = mainName)
def bad (thr : Nat → Bool) : Nat → Nat
  | 0 => 0
  | n + 1 => bad thr n + if thr n = true then 1 else 0
theorem bad_le (thr : Nat → Bool) : ∀ n, bad thr n ≤ n
  | 0 => Nat.le_refl _
  | n + 1 => by
    have := bad_le thr n
    unfold bad
    split <;> omega
theorem say_block (i k : Nat) : (block thr k).countP (psay i) = if i = k then 1 else 0 := by
  have h1 := ltx_ne_main k
  by_cases hik : i = k
  · subst hik
    cases ht : thr i <;> simp [block, ht, psay, h1]
  · have hki : ¬ ((k : Int) = (i : Int)) := by omega
    cases ht : thr k <;> simp [block, ht, psay, hik, hki]
theorem say_blocks (i : Nat) : ∀ n, (blocks thr n).countP (psay i) = if i < n then 1 else 0
  | 0 => by simp [blocks]
  | n + 1 => by
    rw [blocks, List.countP_append, say_blocks i n, say_block]
    by_cases h1 : i < n
    · rw [if_pos h1, if_neg (by omega), if_pos (by omega)]
    · by_cases h2 : i = n
      · rw [if_neg h1, if_pos h2, if_pos (by omega)]
      · rw [if_neg h1, if_neg h2, if_neg (by omega)]
theorem thr_blocks : ∀ n, (blocks thr n).countP pthr = bad thr n
  | 0 => by simp [blocks, bad]
  | n + 1 => by
    rw [blocks, List.countP_append, thr_blocks n, bad]
    congr 1
    cases ht : thr n <;> simp [block, ht, pthr]
theorem cat_blocks : ∀ n, (blocks thr n).countP pcat = bad thr n
  | 0 => by simp [blocks, bad]
  | n + 1 => by
    rw [blocks, List.countP_append, cat_blocks n, bad]
    congr 1
    cases ht : thr n <;> simp [block, ht, pcat]
theorem show_blocks : ∀ n, (blocks thr n).countP pshow + bad thr n = n
  | 0 => by simp [blocks, bad]
  | n + 1 => by
    have ih := show_blocks n
    have h1 := ltx_ne_main n
    rw [blocks, List.countP_append, bad]
    have : (block thr n).countP pshow + (if thr n = true then 1 else 0) = 1 := by
      cases ht : thr n <;> simp [block, ht, pshow, h1]
    omega
theorem say_small : ∀ n, ∀ x ∈ blocks thr n, x.kind = 3 → x.name ≠ mainName → ∃ i, i < n ∧ x.num = (i : Nat)
  | 0, x, hx, _, _ => by simp [blocks] at hx
  | n + 1, x, hx, hk, hm => by
    rcases List.mem_append.1 (show x ∈ blocks thr n ++ block thr n from hx) with hx | hx
    · obtain ⟨i, hi, h⟩ := say_small n x hx hk hm
      exact ⟨i, by omega, h⟩
    · refine ⟨n, by omega, ?_⟩
      unfold block at hx
      split at hx
      · simp only [List.mem_cons, List.not_mem_nil, or_false] at hx
        rcases hx with rfl | rfl | rfl | rfl | rfl | rfl | rfl | rfl <;> first | rfl | (exfalso; simp at hk; done)
      · simp only [List.mem_cons, List.not_mem_nil, or_false] at hx
        rcases hx with rfl | rfl | rfl | rfl | rfl | rfl | rfl <;> first | rfl | (exfalso; simp at hk; done) | exact absurd rfl hm
/-- the law's counts -/
theorem fan_counts (hn : n ≤ 14) : ∃ s', Ld.load (fan n thr) mainName = (0, s') ∧ s'.states.length = n + 1 ∧ s'.recs.length ≤ 1000 ∧ s'.rings = [] ∧
    (∀ x ∈ s'.recs, x.kind = 3 → x.name ≠ mainName → ∃ i, i < n ∧ x.num = (i : Nat)) ∧ (∀ i, i < n → s'.recs.countP (psay i) = 1) ∧ s'.recs.countP pthr = bad thr n ∧ s'.recs.countP pcat = bad thr n ∧ s'.recs.countP pshow + bad thr n = n := by
  obtain ⟨s', h1, h2, h3, h4⟩ := fan_load (thr := thr) hn
  have hlen : ∀ m, (blocks thr m).length ≤ 8 * m := fun m => by
    induction m with
    | zero => simp [blocks]
    | succ m ih =>
      rw [blocks, List.length_append]
      have : (block thr m).length ≤ 8 := by unfold block; split <;> simp
      omega
  refine ⟨s', h1, h3, ?_, h4, fun x hx hk hm => ?_, fun i hi => ?_, ?_, ?_, ?_⟩
  · rw [h2]; have := hlen n; simp; omega
  · rw [h2] at hx
    rcases List.mem_append.1 hx with hx | hx
    · rcases List.mem_cons.1 hx with rfl | hx
      · exfalso; revert hk; decide
      · rcases List.mem_cons.1 hx with rfl | hx
        · exfalso; revert hk; decide
        · exact say_small n x hx hk hm
    · obtain rfl := List.mem_singleton.1 hx
      exfalso; revert hk; decide
  · have := say_blocks (thr := thr) i n
    rw [if_pos hi] at this
    rw [h2, List.countP_append, List.countP_cons, List.countP_cons, this]
    simp [psay]
  · rw [h2, List.countP_append, List.countP_cons, List.countP_cons, thr_blocks]
    simp [pthr]
  · rw [h2, List.countP_append, List.countP_cons, List.countP_cons, cat_blocks]
    simp [pcat]
  · have := show_blocks (thr := thr) n
    rw [h2, List.countP_append, List.countP_cons, List.countP_cons]
    simp [pshow]; omega
end Fan
end Go.Proofs.YtkhlicmlnjccdaaDoor
