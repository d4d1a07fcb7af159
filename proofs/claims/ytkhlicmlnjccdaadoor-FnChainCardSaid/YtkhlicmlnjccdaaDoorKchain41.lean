/-
  Plain graph of a chain of modules: its edges, its order, its shortest ring. No walk.
-/
import Derived.Test.YtkhlicmlnjccdaaDoorKchain11
import Derived.Test.YtkhlicmlnjccdaaDoorKchain34
namespace Go.Proofs.YtkhlicmlnjccdaaDoor
namespace Ch
open Gr
variable {n : Nat} {back : Int}
theorem nxt_mid {i : Nat} (h : i + 1 < n) : nxt n back i = ((i + 1 : Nat) : Int) := by unfold nxt; rw [if_neg (by omega)]; rfl
theorem nxt_end {i : Nat} (h : i + 1 = n) : nxt n back i = back := by unfold nxt; rw [if_pos h]
theorem to_c {j : Nat} (hj : j < n) (hn : n ≤ 60) (frm : Str) : Gr.to (chain n back) frm (mtx j) = some j := by
  unfold Gr.to
  rw [show (chain n back).roots = [⟨#[]⟩] from rfl, mtx_tries (by omega)]
  exact toOf_some (modAt_c hj)
def ced (n : Nat) (back : Int) (i : Nat) : List EdgeD := if 0 ≤ nxt n back i then [⟨i, 1, nxt n back i⟩] else []
def ce (n : Nat) (back : Int) : Nat → List EdgeD
  | 0 => []
  | i + 1 => ce n back i ++ ced n back i
theorem edgesIn_c {i : Nat} (hi : i < n) (hb : back < n) (hn : n ≤ 60) : edgesIn (chain n back) i (modC n back i) (modC n back i).lines.length = ced n back i := by
  have hnl := nxt_lt hi hb
  by_cases h : 0 ≤ nxt n back i
  · have hl : (modC n back i).lines = [⟨1, ⟨#[]⟩, i, 0⟩, ⟨3, mtx (nxt n back i).toNat, 0, 0⟩, ⟨2, ⟨#[]⟩, 10 * i, 0⟩] := by
      show linesC n back i = _
      unfold linesC; rw [if_pos h]
    have ht := fun frm => to_c (n := n) (back := back) (j := (nxt n back i).toNat) (by omega) hn frm
    have h1 : edgesIn (chain n back) i (modC n back i) 1 = [] := by rw [edgesIn_at (k := 0) (by rw [hl]; rfl)]; simp [edgesIn, edge1]
    have h2 : edgesIn (chain n back) i (modC n back i) 2 = [⟨i, 1, nxt n back i⟩] := by
      rw [edgesIn_at (k := 1) (by rw [hl]; rfl), h1]
      simp only [edge1, ht, idxI]
      rw [if_pos (by simp)]
      simp only [List.nil_append]
      rw [Int.toNat_of_nonneg h]; rfl
    have h3 : edgesIn (chain n back) i (modC n back i) 3 = [⟨i, 1, nxt n back i⟩] := by rw [edgesIn_at (k := 2) (by rw [hl]; rfl), h2]; simp [edge1]
    rw [show (modC n back i).lines.length = 3 by rw [hl]; rfl, h3]
    unfold ced; rw [if_pos h]
  · have hl : (modC n back i).lines = [⟨1, ⟨#[]⟩, i, 0⟩, ⟨2, ⟨#[]⟩, 10 * i, 0⟩] := by
      show linesC n back i = _
      unfold linesC; rw [if_neg h]
    have h1 : edgesIn (chain n back) i (modC n back i) 1 = [] := by rw [edgesIn_at (k := 0) (by rw [hl]; rfl)]; simp [edgesIn, edge1]
    have h2 : edgesIn (chain n back) i (modC n back i) 2 = [] := by rw [edgesIn_at (k := 1) (by rw [hl]; rfl), h1]; simp [edge1]
    rw [show (modC n back i).lines.length = 2 by rw [hl]; rfl, h2]
    unfold ced; rw [if_neg h]
theorem edgesUp_c (hb : back < n) (hn : n ≤ 60) : ∀ i, i ≤ n → edgesUp (chain n back) i = ce n back i
  | 0, _ => rfl
  | i + 1, h => by
    rw [edgesUp_at (mods_at (by omega)), edgesUp_c hb hn i (by omega), edgesIn_c (by omega) hb hn]; rfl
theorem edges_c (hb : back < n) (hn : n ≤ 60) : edges (chain n back) = ce n back n := by
  rw [edges_ok (by rw [ok_c hn hb]), mods_len, edgesUp_c hb hn n (Nat.le_refl _)]
theorem ced_src {i : Nat} {e : EdgeD} (h : e ∈ ced n back i) : e.src = i := by
  unfold ced at h
  split at h
  · obtain rfl : e = _ := by simpa using h
    rfl
  · simp at h
theorem ce_lt : ∀ (i : Nat) (e : EdgeD), e ∈ ce n back i → e.src < i
  | 0, e, h => by simp [ce] at h
  | i + 1, e, h => by
    rcases List.mem_append.1 (show e ∈ ce n back i ++ ced n back i from h) with h | h
    · have := ce_lt i e h; omega
    · have := ced_src h; omega
theorem ce_split {j : Nat} : ∀ i, j < i → ∃ r, ce n back i = ce n back j ++ (ced n back j ++ r) ∧ ∀ e ∈ r, (j : Int) < e.src
  | 0, h => by omega
  | i + 1, h => by
    by_cases hj : j = i
    · subst hj
      exact ⟨[], by simp [ce], by simp⟩
    · obtain ⟨r, hr, hs⟩ := ce_split (j := j) i (by omega)
      refine ⟨r ++ ced n back i, by show ce n back i ++ ced n back i = _; rw [hr]; simp, fun e he => ?_⟩
      rcases List.mem_append.1 he with he | he
      · exact hs e he
      · have := ced_src he; omega
theorem over_none {v : Nat → VS → VS} {k : Nat} : ∀ (E : List EdgeD) (s : VS), (∀ e ∈ E, e.src ≠ (k : Int)) → over v k E s = s
  | [], s, _ => rfl
  | e :: r, s, h => by
    unfold over
    rw [if_neg (fun c => h e (by simp) c.1)]
    exact over_none r s (fun e he => h e (by simp [he]))
theorem over_app {v : Nat → VS → VS} {k : Nat} : ∀ (A B : List EdgeD) (s : VS), over v k (A ++ B) s = over v k B (over v k A s)
  | [], B, s => rfl
  | e :: r, B, s => by
    show over v k (r ++ B) (if e.src = (k : Int) ∧ 0 ≤ e.dst then v e.dst.toNat s else s) = over v k B (over v k r (if e.src = (k : Int) ∧ 0 ≤ e.dst then v e.dst.toNat s else s))
    exact over_app r B _
theorem over_c {v : Nat → VS → VS} {k : Nat} {s : VS} (hk : k < n) : over v k (ce n back n) s = if 0 ≤ nxt n back k then v (nxt n back k).toNat s else s := by
  obtain ⟨r, hr, hs⟩ := ce_split (n := n) (back := back) n hk
  rw [hr, over_app, over_app, over_none _ s (fun e he => by have := ce_lt _ e he; omega), over_none r _ (fun e he => by have := hs e he; omega)]
  unfold ced
  split
  · rename_i h
    unfold over
    rw [if_pos ⟨rfl, h⟩]; rfl
  · rfl
theorem visit_c (hb : back < n) : ∀ (f k : Nat) (s : VS), n ≤ f + k → k < n → s.seen = (List.range k).reverse → visit (ce n back n) f k s = ⟨(List.range n).reverse, s.out ++ (List.range' k (n - k)).reverse⟩
  | 0, k, s, hf, hk, _ => by omega
  | f + 1, k, s, hf, hk, hs => by
    have hm : (s.mark k).seen = (List.range (k + 1)).reverse := by
      show k :: s.seen = _
      rw [hs, List.range_succ, List.reverse_append]; rfl
    have ho : (s.mark k).out = s.out := rfl
    rw [visit_new (by rw [hs]; simp), over_c hk]
    generalize s.mark k = s1 at hm ho ⊢
    by_cases h1 : k + 1 < n
    · rw [nxt_mid h1, if_pos (by omega), Int.toNat_natCast, visit_c hb f (k + 1) s1 (by omega) h1 hm, ho]
      show (⟨_, _ ++ [k]⟩ : VS) = _
      rw [show n - k = (n - (k + 1)) + 1 by omega, List.range'_succ, List.reverse_cons, List.append_assoc]
    · have h2 : k + 1 = n := by omega
      have hfin : s1.put k = ⟨(List.range n).reverse, s.out ++ (List.range' k (n - k)).reverse⟩ := by
        show (⟨s1.seen, s1.out ++ [k]⟩ : VS) = _
        rw [hm, ho, show n - k = 1 by omega, h2]; rfl
      rw [nxt_end h2]
      by_cases h3 : 0 ≤ back
      · rw [if_pos h3, visit_seen (by rw [hm]; simp; omega), hfin]
      · rw [if_neg h3, hfin]
theorem nameAt_c {i : Nat} (h : i < n) : nameAt (chain n back) i = mtx i := by
  unfold nameAt
  rw [mods_at h]; rfl
theorem order_c (hb : back < n) (hn : n ≤ 60) (h0 : 0 < n) : order (chain n back) (mtx 0) = ((List.range n).reverse).map mtx := by
  unfold order
  rw [if_neg (by rw [ok_c hn hb]; simp), to_c h0 hn]
  show (visit _ _ 0 _).out.map _ = _
  rw [edges_c hb hn, visit_c hb _ 0 ⟨[], []⟩ (by rw [mods_len]; omega) h0 rfl]
  show ([] ++ (List.range' 0 (n - 0)).reverse).map _ = _
  rw [List.nil_append, Nat.sub_zero, ← List.range_eq_range']
  refine List.map_congr_left fun x hx => nameAt_c ?_
  simpa using hx

theorem scan_none {k x : Nat} : ∀ (E : List EdgeD) (s : BS), (∀ e ∈ E, e.src ≠ (x : Int)) → scan k x E s = (false, s)
  | [], s, _ => rfl
  | e :: r, s, h => by
    unfold scan
    rw [if_neg (fun c => h e (by simp) c.1)]
    exact scan_none r s (fun e he => h e (by simp [he]))
theorem scan_skip {k x : Nat} : ∀ (A B : List EdgeD) (s : BS), (∀ e ∈ A, e.src ≠ (x : Int)) → scan k x (A ++ B) s = scan k x B s
  | [], B, s, _ => rfl
  | e :: r, B, s, h => by
    have h1 : scan k x (e :: (r ++ B)) s = scan k x (r ++ B) s := if_neg (fun c => h e (by simp) c.1)
    exact h1.trans (scan_skip r B s (fun e he => h e (by simp [he])))
theorem scan_c {k x : Nat} {s : BS} (hx : x < n) : scan k x (ce n back n) s = if 0 ≤ nxt n back x then (if nxt n back x = k then (true, s) else (false, if (s.fr (nxt n back x).toNat).isSome = true then s else s.met (nxt n back x).toNat x)) else (false, s) := by
  obtain ⟨r, hr, hs⟩ := ce_split (n := n) (back := back) n hx
  rw [hr, scan_skip _ _ s (fun e he => by have := ce_lt _ e he; omega)]
  have hn := fun s => scan_none (k := k) (x := x) r s (fun e he => by have := hs e he; omega)
  unfold ced
  by_cases h : 0 ≤ nxt n back x
  · rw [if_pos h, if_pos h]
    show scan k x (⟨x, 1, nxt n back x⟩ :: r) s = _
    unfold scan
    rw [if_pos ⟨rfl, h⟩]
    split
    · rfl
    · exact hn _
  · rw [if_neg h, if_neg h]; exact hn s
/-- the search from k on, i modules met -/
def bst (k i : Nat) : BS := ⟨List.range' k (i + 1), fun y => if k < y ∧ y ≤ k + i then some (y - 1) else none⟩
theorem bst_at (k i : Nat) : (bst k i).q[i]? = some (k + i) := by simp [bst]
theorem bst_met (k i : Nat) : (bst k i).met (k + i + 1) (k + i) = bst k (i + 1) := by
  unfold BS.met bst
  congr 1
  · show List.range' k (i + 1) ++ [k + i + 1] = _
    rw [List.range'_1_concat (s := k) (n := i + 1)]; rfl
  · funext y
    show (if y = k + i + 1 then some (k + i) else if k < y ∧ y ≤ k + i then some (y - 1) else none) = (if k < y ∧ y ≤ k + (i + 1) then some (y - 1) else none)
    by_cases h : y = k + i + 1
    · subst h
      rw [if_pos rfl, if_pos (by omega)]; simp
    · rw [if_neg h]
      by_cases h2 : k < y ∧ y ≤ k + i
      · rw [if_pos h2, if_pos (by omega)]
      · rw [if_neg h2, if_neg (by omega)]
theorem scan_mid {k x : Nat} {s : BS} (hx : x + 1 < n) (hk : x + 1 ≠ k) : scan k x (ce n back n) s = (false, if (s.fr (x + 1)).isSome = true then s else s.met (x + 1) x) := by
  rw [scan_c (by omega), nxt_mid hx, if_pos (by omega), if_neg (by omega), Int.toNat_natCast]
theorem scan_mid_hit {k x : Nat} {s : BS} (hx : x + 1 < n) (hk : x + 1 = k) : scan k x (ce n back n) s = (true, s) := by
  rw [scan_c (by omega), nxt_mid hx, if_pos (by omega), if_pos (by omega)]
theorem scan_end_none {k x : Nat} {s : BS} (hx : x + 1 = n) (hb : back < 0) : scan k x (ce n back n) s = (false, s) := by
  rw [scan_c (by omega), nxt_end hx, if_neg (by omega)]
theorem scan_end {k x b : Nat} {s : BS} (hx : x + 1 = n) (hk : b ≠ k) : scan k x (ce n b n) s = (false, if (s.fr b).isSome = true then s else s.met b x) := by
  rw [scan_c (by omega), nxt_end hx, if_pos (by omega), if_neg (by omega), Int.toNat_natCast]
theorem scan_end_hit {k x : Nat} {s : BS} (hx : x + 1 = n) : scan k x (ce n k n) s = (true, s) := by
  rw [scan_c (by omega), nxt_end hx, if_pos (by omega), if_pos rfl]
theorem bfs_go {k : Nat} {E : List EdgeD} {f i x : Nat} {s s' : BS} (h : s.q[i]? = some x) (hs : scan k x E s = (false, s')) : bfs k E (f + 1) i s = bfs k E f (i + 1) s' := by
  rw [bfs_step h, hs]; rfl
theorem bfs_hit {k : Nat} {E : List EdgeD} {f i x : Nat} {s s' : BS} (h : s.q[i]? = some x) (hs : scan k x E s = (true, s')) : bfs k E (f + 1) i s = (some x, s') := by
  rw [bfs_step h, hs]; rfl
/-- along the chain to its end -/
theorem bfs_up {k : Nat} : ∀ (d f i : Nat), k + i + d + 1 = n → d ≤ f → bfs k (ce n back n) f i (bst k i) = bfs k (ce n back n) (f - d) (i + d) (bst k (i + d))
  | 0, f, i, _, _ => by simp
  | d + 1, f, i, h, hf => by
    obtain ⟨f, rfl⟩ : ∃ f', f = f' + 1 := ⟨f - 1, by omega⟩
    have hfr : (bst k i).fr (k + i + 1) = none := by show (if _ then _ else _) = _; rw [if_neg (by omega)]
    have hsc := scan_mid (n := n) (back := back) (k := k) (x := k + i) (s := bst k i) (by omega) (by omega)
    rw [hfr, if_neg (by simp), bst_met] at hsc
    rw [bfs_go (bst_at k i) hsc, bfs_up d f (i + 1) (by omega) (by omega), show i + (d + 1) = i + 1 + d by omega, show f + 1 - (d + 1) = f - d by omega]
theorem bst_start (k : Nat) : (⟨[k], fun _ => none⟩ : BS) = bst k 0 := by
  unfold bst
  congr 1
  funext y
  rw [if_neg (by omega)]
theorem bfs_to_end {k : Nat} (hk : k < n) : bfs k (ce n back n) n 0 ⟨[k], fun _ => none⟩ = bfs k (ce n back n) (k + 1) (n - 1 - k) (bst k (n - 1 - k)) := by
  rw [bst_start, bfs_up (n - 1 - k) n 0 (by omega) (by omega), Nat.zero_add, show n - (n - 1 - k) = k + 1 by omega]
theorem bst_past (k i : Nat) : (bst k i).q.length ≤ i + 1 := by simp [bst]
/-- without a ring -/
theorem ringOf_none {k : Nat} (hk : k < n) (h : back < 0 ∨ (k : Int) < back ∧ back < n) : ringOf (ce n back n) n k = [] := by
  have hb : bfs k (ce n back n) n 0 ⟨[k], fun _ => none⟩ = (none, bst k (n - 1 - k)) := by
    have hat := bst_at k (n - 1 - k)
    rw [show k + (n - 1 - k) = n - 1 by omega] at hat
    rw [bfs_to_end hk]
    rcases h with h | ⟨h1, h2⟩
    · rw [bfs_go hat (scan_end_none (by omega) h)]
      exact bfs_end (bst_past _ _)
    · obtain ⟨b, rfl⟩ : ∃ b : Nat, back = b := ⟨back.toNat, by omega⟩
      have hsc := scan_end (n := n) (k := k) (x := n - 1) (b := b) (s := bst k (n - 1 - k)) (by omega) (by omega)
      have hfr : ((bst k (n - 1 - k)).fr b).isSome = true := by show (if _ then _ else _ : Option Nat).isSome = _; rw [if_pos (by omega)]; rfl
      rw [if_pos hfr] at hsc
      rw [bfs_go hat hsc]
      exact bfs_end (bst_past _ _)
  unfold ringOf
  rw [hb]
theorem way_up {fr : Nat → Option Nat} {k i0 : Nat} (h : ∀ y, k < y → y ≤ k + i0 → fr y = some (y - 1)) : ∀ i, i ≤ i0 → Gr.Way fr k (k + i) (List.range' (k + 1) i).reverse
  | 0, _ => Gr.Way.stop
  | i + 1, hi => by
    have ih := way_up h i (by omega)
    rw [List.range'_1_concat, List.reverse_append]
    have hw := Gr.Way.go (k := k) (x := k + (i + 1)) (by omega) (h (k + (i + 1)) (by omega) (by omega)) (by rw [show k + (i + 1) - 1 = k + i by omega]; exact ih)
    rw [show k + 1 + i = k + (i + 1) by omega]
    exact hw
theorem ringOf_at {b : Nat} (hb : b < n) : ringOf (ce n b n) n b = List.range' b (n - b) := by
  have hs : bfs b (ce n b n) n 0 ⟨[b], fun _ => none⟩ = (some (n - 1), bst b (n - 1 - b)) := by
    have hat := bst_at b (n - 1 - b)
    rw [show b + (n - 1 - b) = n - 1 by omega] at hat
    rw [bfs_to_end hb, bfs_hit hat (scan_end_hit (by omega))]
  unfold ringOf
  rw [hs]
  have hw := way_up (fr := (bst b (n - 1 - b)).fr) (k := b) (i0 := n - 1 - b) (fun y h1 h2 => by show (if _ then _ else _) = _; rw [if_pos ⟨h1, h2⟩]) (n - 1 - b) (Nat.le_refl _)
  rw [show b + (n - 1 - b) = n - 1 by omega] at hw
  show b :: (Gr.back _ b n (n - 1)).reverse = _
  rw [way_back hw n (by simp; omega), List.reverse_reverse, show n - b = (n - 1 - b) + 1 by omega, List.range'_succ]
/-- behind the end, from b on: j more -/
def bst2 (n k b j : Nat) : BS := ⟨List.range' k (n - k) ++ List.range' b (j + 1), fun y => if k < y ∧ y < n then some (y - 1) else if y = b then some (n - 1) else if b < y ∧ y ≤ b + j then some (y - 1) else none⟩
theorem bst2_at {n k b j : Nat} (_h : k ≤ n) : (bst2 n k b j).q[n - k + j]? = some (b + j) := by
  unfold bst2
  rw [List.getElem?_append_right (by simp)]
  simp
theorem bst2_met {n k b j : Nat} (h : b + j + 1 < k) : (bst2 n k b j).met (b + j + 1) (b + j) = bst2 n k b (j + 1) := by
  unfold BS.met bst2
  congr 1
  · show (List.range' k (n - k) ++ List.range' b (j + 1)) ++ [b + j + 1] = _
    rw [List.append_assoc]
    congr 1
    rw [List.range'_1_concat (s := b) (n := j + 1)]; rfl
  · funext y
    show (if y = b + j + 1 then some (b + j) else if k < y ∧ y < n then some (y - 1) else if y = b then some (n - 1) else if b < y ∧ y ≤ b + j then some (y - 1) else none) = (if k < y ∧ y < n then some (y - 1) else if y = b then some (n - 1) else if b < y ∧ y ≤ b + (j + 1) then some (y - 1) else none)
    by_cases hy : y = b + j + 1
    · subst hy
      rw [if_pos rfl, if_neg (by omega), if_neg (by omega), if_pos (by omega)]; simp
    · rw [if_neg hy]
      by_cases h1 : k < y ∧ y < n
      · rw [if_pos h1, if_pos h1]
      · rw [if_neg h1, if_neg h1]
        by_cases h2 : y = b
        · rw [if_pos h2, if_pos h2]
        · rw [if_neg h2, if_neg h2]
          by_cases h3 : b < y ∧ y ≤ b + j
          · rw [if_pos h3, if_pos (by omega)]
          · rw [if_neg h3, if_neg (by omega)]
theorem bfs_down {k b : Nat} (hk : k < n) : ∀ (d f j : Nat), b + j + d + 1 = k → d < f → bfs k (ce n b n) f (n - k + j) (bst2 n k b j) = (some (k - 1), bst2 n k b (j + d))
  | 0, f, j, h, hf => by
    obtain ⟨f, rfl⟩ : ∃ f', f = f' + 1 := ⟨f - 1, by omega⟩
    rw [bfs_hit (bst2_at (by omega)) (scan_mid_hit (by omega) (by omega)), show b + j = k - 1 by omega]; rfl
  | d + 1, f, j, h, hf => by
    obtain ⟨f, rfl⟩ : ∃ f', f = f' + 1 := ⟨f - 1, by omega⟩
    have hfr : (bst2 n k b j).fr (b + j + 1) = none := by
      show (if _ then _ else _) = _
      rw [if_neg (by omega), if_neg (by omega), if_neg (by omega)]
    have hsc := scan_mid (n := n) (back := b) (k := k) (x := b + j) (s := bst2 n k b j) (by omega) (by omega)
    rw [hfr, if_neg (by simp), bst2_met (n := n) (show b + j + 1 < k by omega)] at hsc
    rw [bfs_go (bst2_at (by omega)) hsc, show n - k + j + 1 = n - k + (j + 1) by omega, bfs_down hk d f (j + 1) (by omega) (by omega), show j + (d + 1) = j + 1 + d by omega]
theorem way_down {fr : Nat → Option Nat} {k b j0 : Nat} {l : List Nat} (hkb : b + j0 < k) (h : ∀ y, b < y → y ≤ b + j0 → fr y = some (y - 1)) (hw : Gr.Way fr k b l) : ∀ j, j ≤ j0 → ∃ l', Gr.Way fr k (b + j) l' ∧ l'.length = l.length + j
  | 0, _ => ⟨l, hw, rfl⟩
  | j + 1, hj => by
    obtain ⟨l', h1, h2⟩ := way_down hkb h hw j (by omega)
    exact ⟨(b + (j + 1)) :: l', Gr.Way.go (by omega) (h (b + (j + 1)) (by omega) (by omega)) (by rw [show b + (j + 1) - 1 = b + j by omega]; exact h1), by simp [h2]; omega⟩
theorem ringOf_len {k b : Nat} (hk : k < n) (hb : b < k) : (ringOf (ce n b n) n k).length = n - b := by
  have hfr0 : (bst k (n - 1 - k)).fr b = none := by show (if _ then _ else _) = _; rw [if_neg (by omega)]
  have hmet : (bst k (n - 1 - k)).met b (n - 1) = bst2 n k b 0 := by
    unfold BS.met bst bst2
    congr 1
    · rw [show n - 1 - k + 1 = n - k by omega]; rfl
    · funext y
      show (if y = b then some (n - 1) else if k < y ∧ y ≤ k + (n - 1 - k) then some (y - 1) else none) = _
      by_cases h1 : y = b
      · rw [if_pos h1, if_neg (by omega), if_pos h1]
      · rw [if_neg h1]
        by_cases h2 : k < y ∧ y < n
        · rw [if_pos (by omega), if_pos h2]
        · rw [if_neg (by omega), if_neg h2, if_neg h1, if_neg (by omega)]
  have hs : bfs k (ce n b n) n 0 ⟨[k], fun _ => none⟩ = (some (k - 1), bst2 n k b (0 + (k - 1 - b))) := by
    have hat := bst_at k (n - 1 - k)
    rw [show k + (n - 1 - k) = n - 1 by omega] at hat
    have hsc := scan_end (n := n) (k := k) (x := n - 1) (b := b) (s := bst k (n - 1 - k)) (by omega) (by omega)
    rw [hfr0, if_neg (by simp), hmet] at hsc
    rw [bfs_to_end hk, bfs_go hat hsc, show n - 1 - k + 1 = n - k + 0 by omega]
    exact bfs_down hk (k - 1 - b) k 0 (by omega) (by omega)
  unfold ringOf
  rw [hs]
  obtain ⟨fr, hfr⟩ : ∃ fr, fr = (bst2 n k b (0 + (k - 1 - b))).fr := ⟨_, rfl⟩
  have hf : ∀ y, fr y = if k < y ∧ y < n then some (y - 1) else if y = b then some (n - 1) else if b < y ∧ y ≤ b + (0 + (k - 1 - b)) then some (y - 1) else none := fun y => by rw [hfr]; rfl
  have hw1 := way_up (fr := fr) (k := k) (i0 := n - 1 - k) (fun y h1 h2 => by rw [hf, if_pos (by omega)]) (n - 1 - k) (Nat.le_refl _)
  rw [show k + (n - 1 - k) = n - 1 by omega] at hw1
  have hw2 : Gr.Way fr k b (b :: (List.range' (k + 1) (n - 1 - k)).reverse)   := Gr.Way.go (by omega) (by rw [hf, if_neg (by omega), if_pos rfl]) hw1
  obtain ⟨l, hl, hll⟩ := way_down (j0 := k - 1 - b) (by omega) (fun y h1 h2 => by rw [hf, if_neg (by omega), if_neg (by omega), if_pos (by omega)]) hw2 (k - 1 - b) (Nat.le_refl _)
  rw [show b + (k - 1 - b) = k - 1 by omega] at hl
  have hlen : l.length = n - 1 - b := by rw [hll]; simp; omega
  show (k :: (Gr.back (bst2 n k b (0 + (k - 1 - b))).fr k n (k - 1)).reverse).length = _
  rw [← hfr, way_back hl n (by omega)]
  simp [hlen]; omega
theorem best_none (h : back < 0) : ∀ m, m ≤ n → bestUp (ce n back n) n m = []
  | 0, _ => rfl
  | m + 1, hm => by
    show better (bestUp _ n m) (ringOf _ n m) = _
    rw [best_none h m (by omega), ringOf_none (by omega) (.inl h)]; rfl
theorem best_c {b : Nat} (hb : b < n) : ∀ m, m ≤ n → bestUp (ce n b n) n m = if m ≤ b then [] else List.range' b (n - b)
  | 0, _ => rfl
  | m + 1, hm => by
    show better (bestUp _ n m) (ringOf _ n m) = _
    rw [best_c hb m (by omega)]
    rcases Nat.lt_trichotomy m b with h | h | h
    · rw [if_pos (by omega), if_pos (by omega), ringOf_none (by omega) (.inr (by omega))]; rfl
    · subst h
      rw [if_pos (Nat.le_refl _), if_neg (by omega), ringOf_at hb]
      unfold better
      rw [if_pos ⟨fun e => by have := congrArg List.length e; simp at this; omega, .inl rfl⟩]
    · rw [if_neg (by omega), if_neg (by omega)]
      unfold better
      rw [if_neg (fun c => by
        rcases c.2 with e | e
        · have := congrArg List.length e; simp at this; omega
        · rw [ringOf_len (by omega) h] at e; simp at e)]
theorem shortest_none (hn : n ≤ 60) (h : back < 0) : shortest (chain n back) = [] := by
  unfold shortest
  rw [edges_c (by omega) hn, mods_len, best_none h n (Nat.le_refl _)]; rfl
theorem shortest_c (hn : n ≤ 60) {b : Nat} (hb : b < n) : shortest (chain n b) = (List.range' b (n - b)).map mtx := by
  unfold shortest
  rw [edges_c (by omega) hn, mods_len, best_c hb n (Nat.le_refl _), if_neg (by omega)]
  refine List.map_congr_left fun x hx => nameAt_c ?_
  rw [List.mem_range'_1] at hx
  omega
theorem names_drop {b : Nat} (hb : b < n) : (names n).dropWhile (fun x => decide (x ≠ mtx b)) = (List.range' b (n - b)).map mtx := by
  have h : List.range n = List.range' 0 b ++ List.range' b (n - b) := by
    have h1 := List.range'_append_1 (s := 0) (m := b) (n := n - b)
    rw [Nat.zero_add, show b + (n - b) = n by omega] at h1
    rw [List.range_eq_range', h1]
  unfold names
  rw [h, List.map_append, List.dropWhile_append_of_pos]
  · rw [show n - b = (n - b - 1) + 1 by omega, List.range'_succ, List.map_cons, List.dropWhile_cons_of_neg (by simp)]
  · intro a ha
    obtain ⟨i, hi, rfl⟩ := List.mem_map.1 ha
    have hib : i < b := by have := List.mem_range'_1.1 hi; omega
    simp only [decide_eq_true_eq]
    exact fun e => by have := mtx_inj e; omega
end Ch
end Go.Proofs.YtkhlicmlnjccdaaDoor
