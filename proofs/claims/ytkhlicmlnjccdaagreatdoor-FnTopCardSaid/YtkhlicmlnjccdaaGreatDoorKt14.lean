/-
  Plain loading of a chain of modules: what becomes of it. No walk.
-/
import Derived.Test.YtkhlicmlnjccdaaGreatDoorKt6
import Derived.Test.YtkhlicmlnjccdaaGreatDoorKt8
namespace Go.Proofs.YtkhlicmlnjccdaaGreatDoor
namespace Nm
theorem okByte_47 : okByte 47 = false := by decide
theorem okByte_46 : okByte 46 = false := by decide
theorem plain_mem {l : Bs} (h : plain l = true) : l ≠ [] ∧ ∀ c ∈ l, okByte c = true := by
  unfold plain at h
  rw [Bool.and_eq_true] at h
  exact ⟨fun e => by rw [e] at h; simp at h, List.all_eq_true.1 h.2⟩
theorem plain_parts {l : Bs} (h : plain l = true) : parts l = [l] := parts_one l (fun j _ e => by
  have := (plain_mem h).2 47 (List.mem_of_getElem? e)
  rw [okByte_47] at this; simp at this)
theorem plain_dot {l : Bs} (h : plain l = true) : l ≠ [46] ∧ l ≠ [46, 46] := by
  constructor <;> (intro e; have := (plain_mem h).2 46 (by rw [e]; simp); rw [okByte_46] at this; simp at this)
/-- a name of one part -/
theorem clean_part {l : Bs} (h : plain l = true) (hl : l.length ≤ 60) : clean (mk l) = (0, mk l) := by
  have hd := plain_dot h
  have hw : walk [] (parts l) = (0, [l]) := by
    rw [plain_parts h]
    unfold walk
    rw [if_neg hd.1, if_neg hd.2, if_pos h]; rfl
  have hn : named [] l = (0, l) := by
    have := named_ok (at_ := []) (by omega) hw rfl (by rw [join_one]; exact (plain_mem h).1) (by rw [join_one]; omega)
    rw [join_one] at this; exact this
  unfold clean
  rw [bs_mk, hn]
theorem near_part {l : Bs} (h : plain l = true) : near (mk l) = false := by
  have hd := plain_dot h
  have hh : ∀ (q : List Bs) (hq : q ≠ []), q = [l] → q.head hq = l := fun q hq e => by subst e; rfl
  unfold near
  have := hh (parts (bs (mk l))) (parts_ne _) (by rw [bs_mk]; exact plain_parts h)
  rw [this]
  simp [hd.1, hd.2]
end Nm
def val (l : List UInt8) : Nat := l.foldl (fun a b => a * 10 + (b.toNat - 48)) 0
theorem val_snoc (l : List UInt8) (b : UInt8) : val (l ++ [b]) = val l * 10 + (b.toNat - 48) := by simp [val, List.foldl_append]
theorem digit_nat (k : Nat) (h : k < 10) : (UInt8.ofNat (48 + k)).toNat = 48 + k := by
  rw [UInt8.toNat_ofNat']; omega
theorem val_digits : ∀ n, val (digits n) = n := by
  intro n
  induction n using Nat.strongRecOn with
  | _ n ih =>
    by_cases h : n = 0
    · subst h; rw [digits_zero]; rfl
    · rw [digits_pos h, val_snoc, ih (n / 10) (by omega), digit_nat _ (by omega)]; omega
theorem digits_ok : ∀ n, ∀ c ∈ digits n, Nm.okByte c = true := by
  intro n
  induction n using Nat.strongRecOn with
  | _ n ih =>
    by_cases h : n = 0
    · subst h; rw [digits_zero]; simp
    · intro c hc
      rw [digits_pos h] at hc
      rcases List.mem_append.1 hc with hc | hc
      · exact ih (n / 10) (by omega) c hc
      · have hc' : c = UInt8.ofNat (48 + n % 10) := List.mem_singleton.1 hc
        subst hc'
        unfold Nm.okByte
        rw [digit_nat _ (by omega)]
        simp; omega
theorem digits_len : ∀ n, n < 100 → (digits n).length ≤ 2 := by
  intro n hn
  by_cases h : n = 0
  · subst h; rw [digits_zero]; simp
  · rw [digits_pos h]
    by_cases h1 : n / 10 = 0
    · rw [h1, digits_zero]; simp
    · rw [digits_pos h1, show n / 10 / 10 = 0 by omega, digits_zero]; simp
def mtl (k : Nat) : List UInt8 := if k = 0 then [109, 48] else 109 :: digits k
theorem mtx_mtl (k : Nat) : mtx k = Nm.mk (mtl k) := by
  unfold mtx mtl
  split <;> rfl
theorem mtl_val (k : Nat) : val (mtl k).tail = k := by
  unfold mtl
  split
  · rename_i h; subst h; rfl
  · exact val_digits k
theorem mtx_inj {i j : Nat} (h : mtx i = mtx j) : i = j := by
  rw [mtx_mtl, mtx_mtl] at h
  have := Nm.mk_inj h
  rw [← mtl_val i, ← mtl_val j, this]
theorem mtl_plain (k : Nat) : Nm.plain (mtl k) = true := by
  unfold mtl Nm.plain
  split
  · decide
  · rw [Bool.and_eq_true]
    refine ⟨rfl, List.all_eq_true.2 fun c hc => ?_⟩
    rcases List.mem_cons.1 hc with rfl | hc
    · decide
    · exact digits_ok k c hc
theorem mtl_len {k : Nat} (h : k < 100) : (mtl k).length ≤ 3 := by
  unfold mtl
  split
  · simp
  · have := digits_len k h; simp; omega
theorem mtx_clean {k : Nat} (h : k < 100) : Nm.clean (mtx k) = (0, mtx k) := by
  rw [mtx_mtl]; exact Nm.clean_part (mtl_plain k) (by have := mtl_len h; omega)
theorem mtx_size {k : Nat} (h : k < 100) : (mtx k).size ≤ 3 := by
  rw [mtx_mtl, Nm.mk_size]; exact mtl_len h
theorem mtx_ne (k : Nat) : mtx k ≠ ⟨#[]⟩ := by
  rw [mtx_mtl]
  intro e
  have := Nm.mk_inj (b := []) e
  unfold mtl at this
  split at this <;> simp at this
/-- looked for at the only, empty root -/
theorem mtx_tries {k : Nat} (h : k < 100) (frm : Str) : Nm.tries [⟨#[]⟩] frm (mtx k) = [mtx k] := by
  have hc := mtx_clean h
  have hn : Nm.near (mtx k) = false := by rw [mtx_mtl]; exact Nm.near_part (mtl_plain k)
  have hr : Nm.rooted ⟨#[]⟩ (mtx k) = (0, mtx k) := by
    unfold Nm.rooted
    rw [if_pos (show (⟨#[]⟩ : Str) = Nm.mk [] from rfl), hc]
  unfold Nm.tries
  rw [if_neg (by simp), hn, if_neg (by simp), hc, if_neg (by simp)]
  unfold Nm.triesOf
  rw [hr, if_pos ⟨rfl, rfl⟩]
  rfl
namespace Ch
open Ld
def nxt (n : Nat) (back : Int) (i : Nat) : Int := if i + 1 = n then back else i + 1
def linesC (n : Nat) (back : Int) (i : Nat) : List LineD :=
  if 0 ≤ nxt n back i then [⟨1, ⟨#[]⟩, i, 0⟩, ⟨3, mtx (nxt n back i).toNat, 0, 0⟩, ⟨2, ⟨#[]⟩, 10 * i, 0⟩] else [⟨1, ⟨#[]⟩, i, 0⟩, ⟨2, ⟨#[]⟩, 10 * i, 0⟩]
def modC (n : Nat) (back : Int) (i : Nat) : ModD := ⟨mtx i, linesC n back i⟩
def chain (n : Nat) (back : Int) : WorldD := ⟨[⟨#[]⟩], (List.range n).map (modC n back), []⟩
variable {n : Nat} {back : Int}
theorem mods_len : (chain n back).mods.length = n := by simp [chain]
theorem mods_at {i : Nat} (h : i < n) : (chain n back).mods[i]? = some (modC n back i) := by simp [chain, h]
theorem mods_lt {i : Nat} {m : ModD} (h : (chain n back).mods[i]? = some m) : i < n ∧ m = modC n back i := by
  have hi : i < n := by
    rcases Nat.lt_or_ge i n with h1 | h1
    · exact h1
    · rw [List.getElem?_eq_none (by rw [mods_len]; exact h1)] at h; simp at h
  rw [mods_at hi] at h
  exact ⟨hi, (Option.some.inj h).symm⟩
theorem modAt_c {i : Nat} (h : i < n) : modAt (chain n back).mods (mtx i) = some i :=
  modAt_at (mods_at h) rfl (fun j hj u hu e => by
    obtain ⟨_, rfl⟩ := mods_lt hu
    have := mtx_inj e
    omega)
theorem linesOf_c {i : Nat} (h : i < n) : linesOf (chain n back) (mtx i) = linesC n back i := by
  unfold linesOf
  rw [modAt_c h]
  simp only [mods_at h, modC]
theorem lines_le (i : Nat) : (linesC n back i).length ≤ 3 := by unfold linesC; split <;> simp
theorem nxt_lt {i : Nat} (hi : i < n) (hb : back < n) : nxt n back i < n := by unfold nxt; split <;> omega
theorem ok_c (hn : n ≤ 60) (hb : back < n) : Wd.worldOk (chain n back) = (0, 0, 0) := by
  refine Wd.worldOk_zero (by rw [mods_len]; simp [chain]; omega) (fun j hj => ?_) (fun j hj => by simp [chain] at hj) (fun j hj => ?_) (fun j hj => ?_)
  · have : j = 0 := by simp [chain] at hj; omega
    subst this
    simp [Wd.badRoot, chain]
  · rw [mods_len] at hj
    unfold Wd.badMod
    rw [mods_at hj]
    have hc := mtx_clean (k := j) (by omega)
    have hmet : Wd.metMod (chain n back).mods j (modC n back j).name = false := by
      unfold Wd.metMod
      rw [List.any_eq_false]
      intro x hx
      obtain ⟨i, hi⟩ := List.getElem?_of_mem hx
      rw [List.getElem?_take] at hi
      split at hi
      · obtain ⟨_, rfl⟩ := mods_lt hi
        simp only [decide_eq_true_eq]
        intro e
        have := mtx_inj e
        omega
      · simp at hi
    have hl := lines_le (n := n) (back := back) j
    have hl2 : ¬ 60 < (linesC n back j).length := by omega
    simp only [hmet]
    simp [modC, hc, hl2]
  · rw [mods_len] at hj
    unfold Wd.badLineOf
    rw [mods_at hj]
    refine Wd.first_none fun k hk => ?_
    unfold Wd.badLineAt
    have hnl := nxt_lt hj hb
    have hsz : 0 ≤ nxt n back j → (mtx (nxt n back j).toNat).size ≤ 3 := fun h => mtx_size (by omega)
    simp only [modC] at hk ⊢
    unfold linesC at hk ⊢
    split
    · rfl
    · rename_i l hl
      split at hl
      · rename_i h0
        have := hsz h0
        rcases k with _ | _ | _ | k
        · obtain rfl := Option.some.inj hl; simp [Wd.lineOk]
        · obtain rfl := Option.some.inj hl; simp [Wd.lineOk]; omega
        · obtain rfl := Option.some.inj hl; simp [Wd.lineOk]
        · simp at hl
      · rcases k with _ | _ | k
        · obtain rfl := Option.some.inj hl; simp [Wd.lineOk]
        · obtain rfl := Option.some.inj hl; simp [Wd.lineOk]
        · simp at hl
theorem body_import {D : WorldD} {get : Get} {me nm : Str} {s s2 : St} {a b c : Int} {x : Str} (hls : linesOf D me = [⟨1, ⟨#[]⟩, a, 0⟩, ⟨3, nm, 0, 0⟩, ⟨2, ⟨#[]⟩, b, 0⟩]) (hg : get me nm ((s.begin me).note ⟨3, me, 0, a⟩) = (x, c, s2)) :
    body get D me s = if c ≠ 0 then (c, fin s.states.length me c s2) else (0, fin s.states.length me 0 (s2.give s.states.length me b)) := by
  unfold body
  rw [hls]
  by_cases hc : c = 0
  · subst hc; simp [lines, line, hg]
  · simp [lines, line, hg, hc]
theorem body_plain {D : WorldD} {get : Get} {me : Str} {s : St} {a b : Int} (hls : linesOf D me = [⟨1, ⟨#[]⟩, a, 0⟩, ⟨2, ⟨#[]⟩, b, 0⟩]) :
    body get D me s = (0, fin s.states.length me 0 (((s.begin me).note ⟨3, me, 0, a⟩).give s.states.length me b)) := by
  unfold body
  rw [hls]
  simp [lines, line]
def loading (k : Nat) : List StateD := (List.range k).map fun i => ⟨mtx i, 1, 0, 0⟩
def names (k : Nat) : List Str := (List.range k).map mtx
structure At (k : Nat) (s : St) : Prop where
  states : s.states = loading k
  stack : s.stack = names k
  reads : s.reads = k
  rings : s.rings = []
theorem loading_len (k : Nat) : (loading k).length = k := by simp [loading]
theorem loading_at {k i : Nat} (h : i < k) : (loading k)[i]? = some ⟨mtx i, 1, 0, 0⟩ := by simp [loading, h]
theorem loading_lt {k i : Nat} {t : StateD} (h : (loading k)[i]? = some t) : i < k ∧ t = ⟨mtx i, 1, 0, 0⟩ := by
  have hi : i < k := by
    rcases Nat.lt_or_ge i k with h1 | h1
    · exact h1
    · rw [List.getElem?_eq_none (by rw [loading_len]; exact h1)] at h; simp at h
  rw [loading_at hi] at h
  exact ⟨hi, (Option.some.inj h).symm⟩
theorem stAt_in {k i : Nat} (h : i < k) : stAt (loading k) (mtx i) = some i := stAt_at (loading_at h) rfl (fun j hj u hu e => by
  obtain ⟨_, rfl⟩ := loading_lt hu
  have := mtx_inj e
  omega)
theorem stAt_out {k i : Nat} (h : k ≤ i) : stAt (loading k) (mtx i) = none := stAt_no (fun j u hu e => by
  obtain ⟨hj, rfl⟩ := loading_lt hu
  have := mtx_inj e
  omega)
theorem loading_succ (k : Nat) : loading k ++ [(⟨mtx k, 1, 0, 0⟩ : StateD)] = loading (k + 1) := by simp [loading, List.range_succ]
theorem names_succ (k : Nat) : names k ++ [mtx k] = names (k + 1) := by simp [names, List.range_succ]
theorem find_new {k : Nat} {s : St} (h : At k s) (hk : k < n) (hk2 : k < 100) (frm : Str) : find (chain n back) frm (mtx k) s = (mtx k, 0, s.read.note ⟨1, mtx k, 0, 0⟩) := by
  have hm := modAt_c (back := back) hk
  have hr := h.reads
  unfold find
  rw [show (chain n back).roots = [⟨#[]⟩] from rfl, mtx_tries hk2, if_neg (by simp)]
  unfold Ld.look
  rw [h.states, stAt_out (Nat.le_refl k), if_neg (by simp), if_neg (by omega), if_neg (by simp [chain]), hm]
  rfl
theorem find_old {k i : Nat} {s : St} (h : At k s) (hi : i < k) (hk2 : i < 100) (frm : Str) : find (chain n back) frm (mtx i) s = (mtx i, 0, s) := by
  unfold find
  rw [show (chain n back).roots = [⟨#[]⟩] from rfl, mtx_tries hk2, if_neg (by simp)]
  unfold Ld.look
  rw [h.states, stAt_in hi]
  rfl
/-- how a module stands at the end -/
def ended (c : Int) (i : Nat) : StateD := if c = 0 then ⟨mtx i, 2, 10 * i, 0⟩ else ⟨mtx i, 3, 0, c⟩
structure Done (c : Int) (T R k : Nat) (G : List (List Str)) (s s' : St) : Prop where
  states : s'.states = s.states ++ (List.range' k (T - k)).map (ended c)
  stack : s'.stack = s.stack
  reads : s'.reads = R
  rings : s'.rings = G
/-- what the last one comes to -/
def Base (n : Nat) (back : Int) (c : Int) (T R : Nat) (G : List (List Str)) : Prop :=
  (back = -1 ∧ n ≤ 40 ∧ c = 0 ∧ T = n ∧ R = n ∧ G = []) ∨ (back = -1 ∧ 40 < n ∧ n ≤ 60 ∧ c = 7 ∧ T = 40 ∧ R = 41 ∧ G = []) ∨
    (∃ b : Nat, back = b ∧ b < n ∧ n ≤ 40 ∧ c = 4 ∧ T = n ∧ R = n ∧ G = [(names n).dropWhile fun x => decide (x ≠ mtx b)])
theorem fin_states {k : Nat} {pre more : List StateD} {t : StateD} {s : St} {me : Str} {c : Int} (hp : pre.length = k) (hs : s.states = pre ++ t :: more) :
    (fin k me c s).states = pre ++ (if c = 0 then ⟨me, 2, t.give, 0⟩ else ⟨me, 3, 0, c⟩) :: more := by
  subst hp
  have hg : giveAt s.states pre.length = t.give := by
    unfold giveAt
    rw [hs, List.getElem?_append_right (Nat.le_refl _)]; simp
  unfold fin
  split
  · show (s.states.set _ _) = _
    rw [hg, hs, set_mid]
  · show (s.states.set _ _) = _
    rw [hs, set_mid]
theorem fin_stack {k : Nat} {s : St} {me : Str} {c : Int} : (fin k me c s).stack = s.stack.dropLast := by unfold fin; split <;> rfl
theorem fin_reads {k : Nat} {s : St} {me : Str} {c : Int} : (fin k me c s).reads = s.reads := by unfold fin; split <;> rfl
theorem fin_rings {k : Nat} {s : St} {me : Str} {c : Int} : (fin k me c s).rings = s.rings := by unfold fin; split <;> rfl
theorem At.read {k : Nat} {s : St} (h : At k s) (r : RecD) : (s.read.note r).states = loading k ∧ (s.read.note r).stack = names k ∧ (s.read.note r).reads = k + 1 ∧ (s.read.note r).rings = [] :=
  ⟨h.states, h.stack, by show s.reads + 1 = _; rw [h.reads], h.rings⟩
theorem begin_at {k : Nat} {s : St} (hs : s.states = loading k) (hk : s.stack = names k) (hr : s.reads = k + 1) (hg : s.rings = []) (r : RecD) : At (k + 1) ((s.begin (mtx k)).note r) :=
  ⟨by show s.states ++ [_] = _; rw [hs, loading_succ], by show s.stack ++ [_] = _; rw [hk, names_succ], hr, hg⟩
theorem ended_range (c : Int) {T k : Nat} (h : k < T) : (List.range' k (T - k)).map (ended c) = ended c k :: (List.range' (k + 1) (T - (k + 1))).map (ended c) := by
  rw [show T - k = (T - (k + 1)) + 1 by omega, List.range'_succ]; rfl
/-- a body behind its import -/
theorem body_done {c : Int} {T R k : Nat} {G : List (List Str)} {get : Get} {s s2 : St} {x : Str} (hkT : k < T) (hkn : k < n) (hs : s.states = loading k) (_hk : s.stack = names k) (hnx : 0 ≤ nxt n back k)
    (hg : get (mtx k) (mtx (nxt n back k).toNat) ((s.begin (mtx k)).note ⟨3, mtx k, 0, k⟩) = (x, c, s2)) (h2 : Done c T R (k + 1) G ((s.begin (mtx k)).note ⟨3, mtx k, 0, k⟩) s2) :
    ∃ s', body get (chain n back) (mtx k) s = (c, s') ∧ Done c T R k G s s' := by
  have hb := body_import (D := chain n back) (s := s) (by rw [linesOf_c hkn]; unfold linesC; rw [if_pos hnx]) hg
  have hl : s.states.length = k := by rw [hs, loading_len]
  have hst : s2.states = s.states ++ ⟨mtx k, 1, 0, 0⟩ :: (List.range' (k + 1) (T - (k + 1))).map (ended c) := by rw [h2.states]; simp [St.note, St.begin]
  have hsk : s2.stack = s.stack ++ [mtx k] := h2.stack
  by_cases hc : c = 0
  · subst hc
    rw [if_neg (by simp)] at hb
    refine ⟨_, hb, ?_, ?_, ?_, ?_⟩
    · rw [hl, fin_states (pre := s.states) (t := ⟨mtx k, 1, 10 * k, 0⟩) hl (by
        show (s2.states.set k _) = _
        have h9 := set_mid s.states ((List.range' (k + 1) (T - (k + 1))).map (ended 0)) ⟨mtx k, 1, 0, 0⟩ ⟨mtx k, 1, 10 * k, 0⟩
        rw [hl] at h9
        rw [hst]; exact h9), ended_range 0 hkT]
      rfl
    · rw [fin_stack]; show s2.stack.dropLast = _; rw [hsk, List.dropLast_concat]
    · rw [fin_reads]; exact h2.reads
    · rw [fin_rings]; exact h2.rings
  · rw [if_pos hc] at hb
    refine ⟨_, hb, ?_, ?_, ?_, ?_⟩
    · rw [hl, fin_states (pre := s.states) hl hst, ended_range c hkT, if_neg hc]
      congr 1
      unfold ended
      rw [if_neg hc]
    · rw [fin_stack, hsk, List.dropLast_concat]
    · rw [fin_reads]; exact h2.reads
    · rw [fin_rings]; exact h2.rings
theorem enter_new {get : Get} {D : WorldD} {k : Nat} {s : St} (hs : s.states = loading k) : enter get D (mtx k) s = body get D (mtx k) s := by
  unfold enter
  rw [hs, stAt_out (Nat.le_refl k)]
theorem chain_get {c : Int} {T R : Nat} {G : List (List Str)} (hB : Base n back c T R G) : ∀ (f k : Nat) (frm : Str) (s : St), f + k = 40 → k < T → At k s → ∃ s', Ld.get (chain n back) f frm (mtx k) s = (mtx k, c, s') ∧ Done c T R k G s s'
  | 0, k, frm, s, hf, hT, _ => by
    have : T ≤ 40 := by rcases hB with ⟨_, _, _, _, _⟩ | ⟨_, _, _, _, _, _⟩ | ⟨b, _, _, _, _, _, _⟩ <;> omega
    omega
  | f + 1, k, frm, s, hf, hT, hA => by
    have hTn : T ≤ n ∧ T ≤ 40 := by rcases hB with ⟨_, _, _, _, _⟩ | ⟨_, _, _, _, _, _⟩ | ⟨b, _, _, _, _, _, _⟩ <;> omega
    have hkn : k < n := by omega
    have hfd := find_new (back := back) hA hkn (by omega) frm
    have hget : Ld.get (chain n back) (f + 1) frm (mtx k) s = (mtx k, body (Ld.get (chain n back) f) (chain n back) (mtx k) (s.read.note ⟨1, mtx k, 0, 0⟩)) := by
      unfold Ld.get
      rw [hfd]
      simp only [ne_eq, not_true_eq_false, if_false]
      exact congrArg (Prod.mk (mtx k)) (enter_new (k := k) hA.states)
    rw [hget]
    obtain ⟨r1, r2, r3, r4⟩ := hA.read ⟨1, mtx k, 0, 0⟩
    have hA1 := begin_at r1 r2 r3 r4 ⟨3, mtx k, 0, k⟩
    have hdone : ∀ s', Done c T R k G (s.read.note ⟨1, mtx k, 0, 0⟩) s' → Done c T R k G s s' := fun s' d => ⟨d.states, d.stack, d.reads, d.rings⟩
    generalize s.read.note ⟨1, mtx k, 0, 0⟩ = s1 at *
    by_cases hk1 : k + 1 < T
    · have hnx : nxt n back k = ((k + 1 : Nat) : Int) := by unfold nxt; rw [if_neg (by omega)]; rfl
      obtain ⟨s2, hg2, hd2⟩ := chain_get hB f (k + 1) (mtx k) _ (by omega) hk1 hA1
      obtain ⟨s', hb, hd⟩ := body_done (back := back) (x := mtx (k + 1)) hT hkn r1 r2 (by rw [hnx]; omega) (by rw [hnx]; exact hg2) hd2
      exact ⟨s', by rw [hb], hdone s' hd⟩
    · have hkT : k + 1 = T := by omega
      rcases hB with ⟨rfl, hn, rfl, rfl, rfl, rfl⟩ | ⟨rfl, hn, hn2, rfl, rfl, rfl, rfl⟩ | ⟨b, rfl, hbn, hn, rfl, rfl, rfl, rfl⟩
      · have hnx : nxt R (-1) k = -1 := by unfold nxt; rw [if_pos hkT]
        have hb := body_plain (get := Ld.get (chain R (-1)) f) (D := chain R (-1)) (me := mtx k) (s := s1) (a := k) (b := 10 * k) (by rw [linesOf_c hkn]; unfold linesC; rw [if_neg (by rw [hnx]; omega)])
        have hl : s1.states.length = k := by rw [r1, loading_len]
        refine ⟨_, by rw [hb], hdone _ ⟨?_, ?_, ?_, ?_⟩⟩
        · rw [hl, fin_states (pre := s1.states) (t := ⟨mtx k, 1, 10 * k, 0⟩) (more := []) hl (by
            show ((s1.states ++ [_]).set k _) = _
            have h9 := set_mid s1.states [] ⟨mtx k, 1, 0, 0⟩ ⟨mtx k, 1, 10 * k, 0⟩
            rw [hl] at h9
            exact h9), ended_range 0 hT, show R - (k + 1) = 0 by omega]
          rfl
        · rw [fin_stack]; show (s1.stack ++ [_]).dropLast = _; rw [List.dropLast_concat]
        · rw [fin_reads]; show s1.reads = _; omega
        · rw [fin_rings]; exact r4
      · have hnx : nxt n (-1) k = ((k + 1 : Nat) : Int) := by unfold nxt; rw [if_neg (by omega)]; rfl
        obtain rfl : f = 0 := by omega
        have hfd2 := find_new (n := n) (back := -1) hA1 (by omega) (by omega) (mtx k)
        have hg2 : Ld.get (chain n (-1)) 0 (mtx k) (mtx (k + 1)) ((s1.begin (mtx k)).note ⟨3, mtx k, 0, k⟩) = (mtx (k + 1), 7, ((s1.begin (mtx k)).note ⟨3, mtx k, 0, k⟩).read.note ⟨1, mtx (k + 1), 0, 0⟩) := by
          unfold Ld.get
          rw [hfd2]
          simp only [ne_eq, not_true_eq_false, if_false]
          unfold deep
          rw [show ((((s1.begin (mtx k)).note ⟨3, mtx k, 0, k⟩).read.note ⟨1, mtx (k + 1), 0, 0⟩)).states = loading (k + 1) from hA1.states, stAt_out (Nat.le_refl _)]
        have hd2 : Done 7 40 41 (k + 1) [] ((s1.begin (mtx k)).note ⟨3, mtx k, 0, k⟩) (((s1.begin (mtx k)).note ⟨3, mtx k, 0, k⟩).read.note ⟨1, mtx (k + 1), 0, 0⟩) :=
          ⟨by rw [show 40 - (k + 1) = 0 by omega]; simp [St.note, St.read], rfl, by show s1.reads + 1 = 41; omega, r4⟩
        obtain ⟨s', hb, hd⟩ := body_done (n := n) (back := -1) hT hkn r1 r2 (by rw [hnx]; omega) (by rw [hnx]; exact hg2) hd2
        exact ⟨s', by rw [hb], hdone s' hd⟩
      · have hnx : nxt R b k = b := by unfold nxt; rw [if_pos hkT]
        have hfd2 := find_old (n := R) (back := b) hA1 (show b < k + 1 by omega) (by omega) (mtx k)
        have hany : ((loading (k + 1))[b]?).any (fun t => decide (t.now = 1)) = true := by rw [loading_at (by omega)]; rfl
        have hg2 : Ld.get (chain R b) f (mtx k) (mtx b) ((s1.begin (mtx k)).note ⟨3, mtx k, 0, k⟩) = (mtx b, 4, ((s1.begin (mtx k)).note ⟨3, mtx k, 0, k⟩).ring (mtx b)) := by
          cases f with
          | zero =>
            unfold Ld.get
            rw [hfd2]
            simp only [ne_eq, not_true_eq_false, if_false]
            unfold deep
            rw [hA1.states, stAt_in (by omega)]
            simp only [hany, if_true]
          | succ f =>
            unfold Ld.get
            rw [hfd2]
            simp only [ne_eq, not_true_eq_false, if_false]
            unfold enter
            rw [hA1.states, stAt_in (by omega)]
            simp only [hany, if_true]
        have hd2 : Done 4 R R (k + 1) [(names R).dropWhile fun x => decide (x ≠ mtx b)] ((s1.begin (mtx k)).note ⟨3, mtx k, 0, k⟩) (((s1.begin (mtx k)).note ⟨3, mtx k, 0, k⟩).ring (mtx b)) :=
          ⟨by rw [show R - (k + 1) = 0 by omega]; simp [St.note, St.ring], rfl, by show s1.reads = R; omega, by
            show s1.rings ++ [(s1.stack ++ [mtx k]).dropWhile _] = _
            rw [r4, r2, names_succ, hkT]; rfl⟩
        obtain ⟨s', hb, hd⟩ := body_done (n := R) (back := b) hT hkn r1 r2 (by rw [hnx]; omega) (by rw [hnx]; exact hg2) hd2
        exact ⟨s', by rw [hb], hdone s' hd⟩
/-- the whole loading -/
theorem chain_load {c : Int} {T R : Nat} {G : List (List Str)} (hB : Base n back c T R G) (hn : 0 < n) : ∃ s', Ld.load (chain n back) (mtx 0) = (c, s') ∧ s'.states = (List.range T).map (ended c) ∧ s'.reads = R ∧ s'.rings = G := by
  have hbn : back < n ∧ n ≤ 60 ∧ 0 < T := by
    rcases hB with ⟨_, _, _, _, _⟩ | ⟨_, _, _, _, _, _⟩ | ⟨b, _, _, _, _, _, _⟩ <;> omega
  have hok := ok_c (n := n) (back := back) hbn.2.1 hbn.1
  obtain ⟨s', hg, hd⟩ := chain_get hB 40 0 mainName St.start rfl hbn.2.2 ⟨rfl, rfl, rfl, rfl⟩
  refine ⟨s', ?_, ?_, hd.reads, hd.rings⟩
  · unfold Ld.load
    rw [hok, hg, if_neg (by simp)]
  · rw [hd.states, List.range_eq_range']; rfl
end Ch
end Go.Proofs.YtkhlicmlnjccdaaGreatDoor
