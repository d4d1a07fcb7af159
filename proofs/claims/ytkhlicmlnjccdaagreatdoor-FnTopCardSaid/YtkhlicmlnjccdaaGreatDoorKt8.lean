/-
  Walks: the laws' helpers that copy, measure, mark and hold lists of texts.
-/
import Derived.Test.YtkhlicmlnjccdaaGreatDoorKt1
import Derived.Test.YtkhlicmlnjccdaaGreatDoorKt3
import Derived.Deep.RegionHeld3
import Derived.Laws.BytesArg
import Derived.Deep.OwnRows
namespace Go.Proofs.YtkhlicmlnjccdaaGreatDoor
open Go.RowKit Mem

def digits (n : Nat) : List UInt8 := if n = 0 then [] else digits (n / 10) ++ [UInt8.ofNat (48 + n % 10)]
termination_by n
decreasing_by omega
theorem digits_pos {n : Nat} (h : n ≠ 0) : digits n = digits (n / 10) ++ [UInt8.ofNat (48 + n % 10)] := by
  rw [digits]; exact if_neg h
theorem digits_zero : digits 0 = [] := by rw [digits]; rfl
/-- the text by which a law marks its cells -/
def mtx (k : Nat) : Str := if k = 0 then ⟨#[109, 48]⟩ else Nm.mk ([109] ++ digits k)

/-- the sum of what a list of texts holds -/
def strsSize : List Str → Nat
  | [] => 0
  | s :: r => s.size + strsSize r
theorem strsSize_take (xs : List Str) (k : Nat) (hk : k < xs.length) : strsSize (xs.take (k + 1)) = strsSize (xs.take k) + xs[k].size := by
  induction xs generalizing k with
  | nil => simp at hk
  | cons x r ih =>
    cases k with
    | zero => simp [strsSize]
    | succ k =>
      have := ih k (by simpa using hk)
      simp only [List.take_succ_cons, strsSize, List.getElem_cons_succ]
      omega
theorem strsSize_le (xs : List Str) (k : Nat) : strsSize (xs.take k) ≤ strsSize xs := by
  induction xs generalizing k with
  | nil => simp [strsSize]
  | cons x r ih =>
    cases k with
    | zero => simp [strsSize]
    | succ k => have := ih k; simp only [List.take_succ_cons, strsSize]; omega
def left (total : Nat) (l : Nat) : Int := if total ≤ l then ((l - total : Nat) : Int) else -1

set_option maxHeartbeats 400000 in
theorem szStringS_calls (A : Option Addr) (c n : Nat) (xs : List Str) (S : Nat → Prop) (l : Nat) (w : World) (h : Sl kStr w S A xs) (hn : xs.length = n) (hl : n ≤ maxLen) (hs : ∀ x ∈ xs, x.size ≤ maxLen) (hL : l ≤ 1048576) :
    Calls Tryz.prog 33 #[.slice A n c, .int .i64 l] w fun e w' => e = .returned (.int .i64 (left (xs.length + strsSize xs) l)) ∧ w = w' := by
  subst hn
  unfold maxLen at hl hs
  by_cases h0 : l < xs.length
  · have hq : left (xs.length + strsSize xs) l = -1 := by unfold left; rw [if_neg (by omega)]
    have HQ := hide hq
    clear hq
    go_enter Tryz.func33, Tryz.ntmps33
    go_wp2_with fail
    go_ret
    exact ⟨ret_int (by rw [HQ.out]), rfl⟩
  · have hlc : ((l : Int) - (xs.length : Int)) = ((l - xs.length : Nat) : Int) := by omega
    go_enter Tryz.func33, Tryz.ntmps33
    go_wp2_with fail
    go_loop [1, 5] (fun t i => ∃ (k m : Nat), i = .int .i64 k ∧ k ≤ xs.length ∧ t = .int .i64 m ∧ m + xs.length + strsSize (xs.take k) = l) (fun _ i => xs.length - (intOf i).toNat)
    case atStart => exact ⟨0, l - xs.length, rfl, by omega, by first | rfl | (simp; omega), by simp [strsSize]; omega⟩
    case round =>
      obtain ⟨k, m, rfl, hk, rfl, hm⟩ := hrel
      by_cases hlt : k < xs.length
      · obtain ⟨ad, rfl, hc⟩ := h.get hlt
        have e1 : w.cell? (ad.add k) = some (.string xs[k]) := by simpa [kStr] using hc.2
        have hst := strsSize_take xs k hlt
        have hsl := strsSize_le xs (k + 1)
        have hsz := hs xs[k] (List.getElem_mem _)
        generalize xs[k] = x at e1 hst hsz
        have hmb : m ≤ 1048576 := by omega
        have HM := hide hm
        have HST := hide hst
        clear hc h hs hst hm hlc
        by_cases hx : m < x.size
        · have hq : left (xs.length + strsSize xs) l = -1 := by unfold left; rw [if_neg (by have := HM.out; have := HST.out; omega)]
          have HQ := hide hq
          clear hq
          go_wp2_with fail
          go_ret
          exact ⟨ret_int (by rw [HQ.out]), rfl⟩
        · go_wp2_with fail
          go_round
          case rel => exact ⟨k + 1, m - x.size, by go_num, by omega, by congr 1; omega, by have := HM.out; have := HST.out; omega⟩
          case measure => simp [intOf]; omega
      · obtain rfl : k = xs.length := by omega
        rw [List.take_length] at hm
        have hq : left (xs.length + strsSize xs) l = m := by unfold left; rw [if_pos (by omega)]; omega
        have HQ := hide hq
        clear hq hm
        go_wp2_with fail
        go_ret
        exact ⟨ret_int (by rw [HQ.out]), rfl⟩

set_option maxRecDepth 100000 in
set_option maxHeartbeats 400000 in
theorem markText_calls (k : Nat) (w : World) (hk : k ≤ 1099511627776) : Calls Tryz.prog 84 #[.int .i64 k] w fun e w' => e = .returned (.string (mtx k)) ∧ Below w.heap.size w w' := by
  by_cases h0 : k = 0
  · subst h0
    go_enter Tryz.func84, Tryz.ntmps84
    go_wp2_with fail
    go_ret
    exact ⟨rfl, by (repeat (first | with_reducible exact Below.refl _ _ | with_reducible assumption | with_reducible refine Below.alloc ?_ (by first | exact Nat.le_refl _ | exact Below.size (by assumption) | exact Nat.le_trans (Below.size (by assumption)) (by simp; done) | (simp; done) | (simp; omega) | omega) _ | with_reducible refine below_drewN ?_ _ | with_reducible refine Below.drew ?_ | with_reducible refine Below.setCell ?_ (by first | exact Nat.le_refl _ | (simp; done) | (simp; omega) | omega) _))⟩
  · have hq : mtx k = Nm.mk ([109] ++ digits k) := by unfold mtx; rw [if_neg h0]
    have HQ := hide hq
    have hpos : 0 < k := by omega
    clear hq h0
    go_enter Tryz.func84, Tryz.ntmps84
    go_wp2_with fail
    go_loopw [0, 3] (fun t o wr => ∃ (m : Nat) (s : Str), t = .int .i64 m ∧ o = .string s ∧ m ≤ 1099511627776 ∧ s.size + m ≤ 1099511627776 ∧ Hid (digits k = digits m ++ Nm.bs s) ∧ Below w.heap.size w wr) (fun t _ _ => (intOf t).toNat)
    case atStart => exact ⟨k, ⟨#[]⟩, rfl, rfl, hk, by show 0 + k ≤ _; omega, by show _ = _ ++ []; simp, by (repeat (first | with_reducible exact Below.refl _ _ | with_reducible assumption | with_reducible refine Below.alloc ?_ (by first | exact Nat.le_refl _ | exact Below.size (by assumption) | exact Nat.le_trans (Below.size (by assumption)) (by simp; done) | (simp; done) | (simp; omega) | omega) _ | with_reducible refine below_drewN ?_ _ | with_reducible refine Below.drew ?_ | with_reducible refine Below.setCell ?_ (by first | exact Nat.le_refl _ | (simp; done) | (simp; omega) | omega) _))⟩
    case round =>
      obtain ⟨m, s, rfl, rfl, hm, hs, HD, HB⟩ := hrel
      by_cases hz : m = 0
      · subst hz
        have hk1 := fun W : World => run_string_add_sum (P := Tryz.prog) (w := W) ⟨#[109]⟩ s (by show 1 + _ ≤ _; omega)
        go_wp2_with fail
        go_ret
        refine ⟨?_, HB⟩
        rw [HQ.out, HD.out, digits_zero]
        refine ret_str (Nm.bs_inj ?_)
        rw [Nm.bs_mk]; simp [Nm.bs]
      · have hmp : 0 < m := by omega
        have hd := digits_pos hz
        have HD2 := hide hd
        clear hd hz
        have hkc := fun W : World => run_convert_bytes_arg (P := Tryz.prog) (W.alloc (Obj.cells #[.int .u8 (48 + (m : Int) % 10)] 5)) 22 5 Tryz.underlying22 Tryz.underlying5 W.heap.size 0 1 1 [48 + (m : Int) % 10] rfl (fun i hi => by
          obtain rfl : i = 0 := by omega
          exact blk_cell (heap_alloc_new W _) 0) 9 Tryz.underlying9
        generalize hx : (48 + (m : Int) % 10) = x at hkc
        have HX := hide hx
        have hk2 := fun W : World => run_string_add_sum (P := Tryz.prog) (w := W) (strOfNums [x]) s (by rw [strOfNums_size]; simp; omega)
        go_wp2_with fail
        go_roundw
        case rel =>
          refine ⟨m / 10, strOfNums [x] ++ s, by first | rfl | go_num, rfl, by omega, by rw [ByteArray.size_append, strOfNums_size]; simp; omega, ?_, by (repeat (first | with_reducible exact Below.refl _ _ | with_reducible assumption | with_reducible refine Below.alloc ?_ (by first | exact Nat.le_refl _ | exact Below.size (by assumption) | exact Nat.le_trans (Below.size (by assumption)) (by simp; done) | (simp; done) | (simp; omega) | omega) _ | with_reducible refine below_drewN ?_ _ | with_reducible refine Below.drew ?_ | with_reducible refine Below.setCell ?_ (by first | exact Nat.le_refl _ | (simp; done) | (simp; omega) | omega) _))⟩
          show digits k = _
          rw [HD.out, HD2.out, List.append_assoc]
          congr 1
          have hxn : x.toNat = 48 + m % 10 := by have := HX.out; omega
          simp [Nm.bs, strOfNums, hxn]
        case measure => simp [intOf]; omega

/-- the marks from k on -/
def marks (k : Nat) : Nat → List Str
  | 0 => []
  | n + 1 => mtx k :: marks (k + 1) n
theorem marks_length (k n : Nat) : (marks k n).length = n := by
  induction n generalizing k with
  | zero => rfl
  | succ n ih => simp [marks, ih]
theorem marks_get (k n i : Nat) (hi : i < n) : (marks k n)[i]? = some (mtx (k + i)) := by
  induction n generalizing k i with
  | zero => omega
  | succ n ih =>
    cases i with
    | zero => rfl
    | succ i => rw [marks, List.getElem?_cons_succ, ih (k + 1) i (by omega)]; congr 2; omega

theorem Own.stored1 {w : World} {base g c n : Nat} {e : TypeId} {xs : List Str} (h : Own fStr w base e (.slice (some ⟨g, 0, none⟩) n c) xs) (hn : xs.length = n) (i : Nat) (s : Str) :
    Own fStr (w.setCell ⟨g, i, none⟩ (.string s)) base e (.slice (some ⟨g, 0, none⟩) n c) (xs.set i s) ∧ w.grownBy (w.setCell ⟨g, i, none⟩ (.string s)) (some g) := by
  unfold Own at h ⊢
  rw [List.length_set]
  rw [hn] at h ⊢
  have hs := World.ownsRow.stored h i (.string s)
  refine ⟨?_, hs.2⟩
  have he : ∀ (ys : List Str) (j : Nat), (fStr.all ys).set j (.string s) = fStr.all (ys.set j s) := fun ys => by
    induction ys with
    | nil => intro j; rfl
    | cons y r ih =>
      intro j
      cases j with
      | zero => rfl
      | succ j => show Value.string y :: (fStr.all r).set j _ = Value.string y :: fStr.all (r.set j s); rw [ih]
  rw [← he]
  exact hs.1

def RetMark (w : World) (v : Value) (k n : Nat) (e : Ending) (w' : World) : Prop := e = .returned (.int .i64 ((k + n : Nat) : Int)) ∧ (∃ base', Own fStr w' base' 9 v (marks k n)) ∧ w.grownBy w' v.ownBlock

set_option maxRecDepth 100000 in
set_option maxHeartbeats 1000000 in
theorem markStringS_calls (A : Option Addr) (c n base k : Nat) (xs : List Str) (w : World) (h : Own fStr w base 9 (.slice A n c) xs) (hn : xs.length = n) (hk : k + n ≤ 1099511627776) :
    Calls Tryz.prog 45 #[.slice A n c, .int .i64 k] w fun e w' => e = .returned (.int .i64 ((k + n : Nat) : Int)) ∧ Own fStr w' base 9 (.slice A n c) (marks k n) ∧ w.grownBy w' (Value.slice A n c).ownBlock := by
  rcases Nat.eq_zero_or_pos n with h0 | hpos
  · subst h0
    obtain rfl : xs = [] := List.eq_nil_of_length_eq_zero hn
    go_enter Tryz.func45, Tryz.ntmps45
    go_wp2_with fail
    go_loopw [1, 5] (fun j i wr => j = .int .i64 k ∧ i = .int .i64 0 ∧ w = wr) (fun _ _ _ => 0)
    case atStart => exact ⟨rfl, rfl, rfl⟩
    case round =>
      obtain ⟨rfl, rfl, rfl⟩ := hrel
      go_wp2_with fail
      go_ret
      exact ⟨rfl, h, World.grownBy.refl _ _⟩
  · have hx : xs ≠ [] := fun e => by rw [e] at hn; simp at hn; omega
    obtain ⟨g, c', hv, hg, hgl, hnc, hcm, hob, _⟩ := h.form hx
    injection hv with hA hll hcc
    subst hA hcc
    clear hll
    have HN := hide hn
    have hB : (Value.slice (some ⟨g, 0, none⟩) n c).ownBlock = some g := rfl
    rw [hB]
    rw [hn] at hnc
    clear hB hob hx hn
    go_enter Tryz.func45, Tryz.ntmps45
    go_wp2_with fail
    go_loopw [1, 5] (fun j i wr => ∃ (m : Nat) (ys : List Str), i = .int .i64 m ∧ j = .int .i64 ((k + m : Nat) : Int) ∧ m ≤ n ∧ Hid (ys.length = n ∧ ∀ q, q < m → ys[q]? = some (mtx (k + q))) ∧ Own fStr wr base 9 (.slice (some ⟨g, 0, none⟩) n c) ys ∧ w.grownBy wr (some g)) (fun _ i _ => n - (intOf i).toNat)
    case atStart => exact ⟨0, xs, rfl, rfl, by omega, ⟨HN.out, fun q hq => absurd hq (by omega)⟩, h, World.grownBy.refl _ _⟩
    case round =>
      clear h hg HN
      obtain ⟨m, ys, rfl, rfl, hm, HY, HO, HG⟩ := hrel
      by_cases hlt : m < n
      · go_wp2_with fail
        refine (markText_calls (k + m) wr (by omega)).mono ?_
        rintro e w1 ⟨rfl, hb1⟩
        have HO1 := HO.below hb1
        have HG1 : w.grownBy w1 (some g) := ⟨hb1.os.trans HG.os, hb1.tape.trans HG.tape, hb1.output.trans HG.output, Nat.le_trans HG.size hb1.size, fun i hi hn => (hb1.block i (Nat.lt_of_lt_of_le hi HG.size)).trans (HG.block i hi hn)⟩
        have hym : ys[m]? = some (ys[m]'(by have := HY.out.1; omega)) := List.getElem?_eq_getElem _
        have c0 : w1.cell? ⟨g, m, none⟩ = some (.string (ys[m]'(by have := HY.out.1; omega))) := by
          have := HO1.cellAt (j := 0) hym rfl
          rwa [show m * fStr.kind.size + 0 = m from Nat.mul_one m] at this
        generalize ys[m]'(by have := HY.out.1; omega) = yo at c0
        have f0 := HO1.free m
        have hst := Own.stored1 HO1 HY.out.1 m (mtx (k + m))
        have HST := hide hst
        clear hb1 hym hst HO HG
        go_wp2_with fail
        go_roundw
        case rel =>
          refine ⟨m + 1, ys.set m (mtx (k + m)), by go_num, by first | rfl | go_num, by omega, ⟨by rw [List.length_set]; exact HY.out.1, fun q hq => ?_⟩, HST.out.1, World.grownBy.trans HG1 HST.out.2⟩
          rcases Nat.lt_or_ge q m with h | h
          · rw [List.getElem?_set_ne (by omega)]; exact HY.out.2 q h
          · obtain rfl : q = m := by omega
            rw [List.getElem?_set_self (by have := HY.out.1; omega)]
        case measure => simp [intOf]; omega
      · obtain rfl : m = n := by omega
        have he : ys = marks k m := by
          refine List.ext_getElem? fun q => ?_
          rcases Nat.lt_or_ge q m with h | h
          · rw [HY.out.2 q h, marks_get k m q h]
          · rw [List.getElem?_eq_none (by rw [HY.out.1]; exact h), List.getElem?_eq_none (by rw [marks_length]; exact h)]
        have HE := hide he
        clear he
        go_wp2_with fail
        go_ret
        exact ⟨rfl, by rw [← HE.out]; exact HO, HG⟩

set_option maxRecDepth 100000 in
set_option maxHeartbeats 1000000 in
theorem heldStringS_calls (A : Option Addr) (c n k : Nat) (S : Nat → Prop) (w : World) (h : Sl kStr w S A (marks k n)) (hk : k + n ≤ 1099511627776) :
    Calls Tryz.prog 86 #[.slice A n c, .int .i64 k] w fun e w' => e = .returned (.int .i64 ((k + n : Nat) : Int)) ∧ Below w.heap.size w w' := by
  go_enter Tryz.func86, Tryz.ntmps86
  go_wp2_with fail
  go_loopw [1, 5] (fun j i wr => ∃ m : Nat, i = .int .i64 m ∧ j = .int .i64 ((k + m : Nat) : Int) ∧ m ≤ n ∧ Below w.heap.size w wr) (fun _ i _ => n - (intOf i).toNat)
  case atStart => exact ⟨0, rfl, rfl, by omega, by (repeat (first | with_reducible exact Below.refl _ _ | with_reducible assumption | with_reducible refine Below.alloc ?_ (by first | exact Nat.le_refl _ | exact Below.size (by assumption) | exact Nat.le_trans (Below.size (by assumption)) (by simp; done) | (simp; done) | (simp; omega) | omega) _ | with_reducible refine below_drewN ?_ _ | with_reducible refine Below.drew ?_ | with_reducible refine Below.setCell ?_ (by first | exact Nat.le_refl _ | (simp; done) | (simp; omega) | omega) _))⟩
  case round =>
    obtain ⟨m, rfl, rfl, hm, HB⟩ := hrel
    by_cases hlt : m < n
    · obtain ⟨ad, rfl, hc⟩ := (h.below HB).get (i := m) (by rw [marks_length]; exact hlt)
      have hg := marks_get k n m hlt
      have e1 : wr.cell? (ad.add m) = some (.string (mtx (k + m))) := by
        have h1 := hc.2
        rw [List.getElem?_eq_getElem (by rw [marks_length]; exact hlt)] at hg
        rw [Option.some.inj hg] at h1
        simpa [kStr] using h1
      clear hc hg h
      have hadb : ad.block < wr.heap.size := by have := World.block_lt_of_cell? wr _ e1; rwa [block_add] at this
      go_wp2_with fail
      go_region_held3 (fun w' => Below wr.heap.size wr w' ∧ w'.cell? (ad.add m) = some (.string (mtx (k + m)))) (first | exact ⟨Below.drew (Below.refl _ _), e1⟩ | exact held_step (by assumption) (by assumption)) (first | (go_at_call 84; refine (markText_calls (k + m) _ (by omega)).mono ?_; rintro e w1 ⟨rfl, hb1⟩))
      go_wp2_with fail
      go_roundw
      case rel => exact ⟨m + 1, by go_num, by first | rfl | go_num, by omega, below_then HB HB.size (And.left (by assumption))⟩
      case measure => simp [intOf]; omega
    · obtain rfl : m = n := by omega
      go_wp2_with fail
      go_ret
      exact ⟨rfl, HB⟩

theorem info_strs : (Tryz.prog.info? 9).map (fun i => (i.zero, i.size, i.bytes)) = some (some (.string ByteArray.empty), 1, 16) := by kernel_rfl

set_option maxRecDepth 100000 in
set_option maxHeartbeats 1000000 in
theorem toStringS_calls (A : Option Addr) (c n : Nat) (xs : List Str) (S : Nat → Prop) (w : World) (h : Sl kStr w S A xs) (hn : xs.length = n) (hl : n ≤ 1073741824) :
    Calls Tryz.prog 36 #[.slice A n c] w (RetOwn fStr w 9 xs) := by
  subst hn
  have hmk := fun W : World => run_make_row' (P := Tryz.prog) 23 9 (.string ByteArray.empty) 16 Tryz.underlying23 info_strs rfl .i64 .i64 xs.length (by omega) (by omega) W
  have hown : Own fStr (w.alloc (.cells (madeCells #[.string ByteArray.empty] xs.length) 9)) w.heap.size 9 (.slice (some ⟨w.heap.size, 0, none⟩) xs.length xs.length) (List.replicate xs.length ByteArray.empty) := by
    have h := World.ownsRow_lit (base := w.heap.size) (e := 9) (size := 1) w (madeCells #[.string ByteArray.empty] xs.length) xs.length (Nat.le_refl _) (by simp only [maxLen]; omega) (by simp [size_madeCells])
    have hl2 : (madeCells #[Value.string ByteArray.empty] xs.length).toList = fStr.all (List.replicate xs.length ByteArray.empty) := by
      have hall : ∀ m, fStr.all (List.replicate m ByteArray.empty) = List.replicate m (Value.string ByteArray.empty) := fun m => by
        induction m with
        | zero => rfl
        | succ m ih => rw [List.replicate_succ, List.replicate_succ, ← ih]; rfl
      rw [hall]
      apply List.ext_getElem
      · simp [madeCells]
      · intro i h1 h2
        simp [madeCells, Nat.mod_one]
    rw [hl2] at h
    unfold Own
    rw [List.length_replicate]
    exact h
  have hb1 : Below w.heap.size w (w.alloc (.cells (madeCells #[.string ByteArray.empty] xs.length) 9)) := by (repeat (first | with_reducible exact Below.refl _ _ | with_reducible assumption | with_reducible refine Below.alloc ?_ (by first | exact Nat.le_refl _ | exact Below.size (by assumption) | exact Nat.le_trans (Below.size (by assumption)) (by simp; done) | (simp; done) | (simp; omega) | omega) _ | with_reducible refine below_drewN ?_ _ | with_reducible refine Below.drew ?_ | with_reducible refine Below.setCell ?_ (by first | exact Nat.le_refl _ | (simp; done) | (simp; omega) | omega) _))
  go_enter Tryz.func36, Tryz.ntmps36
  go_wp2_with fail
  generalize (w.alloc (.cells (madeCells #[.string ByteArray.empty] xs.length) 9)) = W0 at hown hb1 ⊢
  clear hmk
  go_loopw [4] (fun i wr => ∃ (m : Nat) (ys : List Str), i = .int .i64 m ∧ m ≤ xs.length ∧ Hid (ys.length = xs.length ∧ ∀ q, q < m → ys[q]? = xs[q]?) ∧ Own fStr wr w.heap.size 9 (.slice (some ⟨w.heap.size, 0, none⟩) xs.length xs.length) ys ∧ Below w.heap.size w wr) (fun i _ => xs.length - (intOf i).toNat)
  case atStart => exact ⟨0, _, rfl, by omega, ⟨by simp, fun q hq => absurd hq (by omega)⟩, hown, hb1⟩
  case round =>
    clear hown hb1
    obtain ⟨m, ys, rfl, hm, HY, HO, HB⟩ := hrel
    by_cases hlt : m < xs.length
    · obtain ⟨ad, rfl, hc⟩ := (h.below HB).get hlt
      have e1 : wr.cell? (ad.add m) = some (.string xs[m]) := by simpa [kStr] using hc.2
      have hx : xs[m]? = some xs[m] := List.getElem?_eq_getElem hlt
      generalize xs[m] = x at e1 hx
      have HX := hide hx
      have hym : ys[m]? = some (ys[m]'(by have := HY.out.1; omega)) := List.getElem?_eq_getElem _
      have c0 : wr.cell? ⟨w.heap.size, m, none⟩ = some (.string (ys[m]'(by have := HY.out.1; omega))) := by
        have := HO.cellAt (j := 0) hym rfl
        rwa [show m * fStr.kind.size + 0 = m from Nat.mul_one m] at this
      generalize ys[m]'(by have := HY.out.1; omega) = yo at c0
      have f0 := HO.free m
      have hst := Own.stored1 HO HY.out.1 m x
      have HST := hide hst
      clear hc hx hym hst HO h
      go_wp2_with fail
      go_roundw
      case rel =>
        refine ⟨m + 1, ys.set m x, by go_num, by omega, ⟨by rw [List.length_set]; exact HY.out.1, fun q hq => ?_⟩, HST.out.1, by (repeat (first | with_reducible exact Below.refl _ _ | with_reducible assumption | with_reducible refine Below.alloc ?_ (by first | exact Nat.le_refl _ | exact Below.size (by assumption) | exact Nat.le_trans (Below.size (by assumption)) (by simp; done) | (simp; done) | (simp; omega) | omega) _ | with_reducible refine below_drewN ?_ _ | with_reducible refine Below.drew ?_ | with_reducible refine Below.setCell ?_ (by first | exact Nat.le_refl _ | (simp; done) | (simp; omega) | omega) _))⟩
        rcases Nat.lt_or_ge q m with h | h
        · rw [List.getElem?_set_ne (by omega)]; exact HY.out.2 q h
        · obtain rfl : q = m := by omega
          rw [List.getElem?_set_self (by have := HY.out.1; omega), HX.out]
      case measure => simp [intOf]; omega
    · obtain rfl : m = xs.length := by omega
      have he : ys = xs := by
        refine List.ext_getElem? fun q => ?_
        rcases Nat.lt_or_ge q xs.length with h | h
        · exact HY.out.2 q h
        · rw [List.getElem?_eq_none (by rw [HY.out.1]; exact h), List.getElem?_eq_none h]
      have HE := hide he
      clear he
      go_wp2_with fail
      go_ret
      exact ⟨_, rfl, by rw [← HE.out] at HO ⊢; exact HO, HB⟩
end Go.Proofs.YtkhlicmlnjccdaaGreatDoor
