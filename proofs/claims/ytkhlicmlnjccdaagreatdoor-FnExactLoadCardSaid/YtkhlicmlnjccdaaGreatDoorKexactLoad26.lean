/-
  Walks: the laws' helpers on rows of rings and on whole reports: compared, marked, held.
-/
import Derived.Test.YtkhlicmlnjccdaaGreatDoorKexactLoad17
import Derived.Test.YtkhlicmlnjccdaaGreatDoorKexactLoad25
import Derived.Test.YtkhlicmlnjccdaaGreatDoorKexactLoad12
namespace Go.Proofs.YtkhlicmlnjccdaaGreatDoor
open Go.RowKit Mem
namespace Mem
theorem OwnR.at_ {w : World} {B : Nat} {K : Nat → Prop} {v : Value} {xs : List (List Str)} {m : Nat} {x : List Str} (h : OwnR w B K v xs) (hm : xs[m]? = some x) :
    ∃ (g cap : Nat) (A : Option Addr) (c : Nat), v = .slice (some ⟨g, 0, none⟩) xs.length cap ∧ w.cell? ⟨g, m, none⟩ = some (.slice A x.length c) ∧ Own fStr w B 9 (.slice A x.length c) x ∧
      ∀ (w' : World) (y : List Str), y.length = x.length → Own fStr w' B 9 (.slice A x.length c) y → w.grownBy w' (Value.slice A x.length c).ownBlock → OwnR w' B K v (xs.set m y) := by
  obtain ⟨hs, h1, h2, h3⟩ := h
  obtain ⟨u, hu, ho, hk⟩ := h2 m x hm
  obtain ⟨A, c, hv, _, _, _⟩ := ho.slV
  subst hv
  have hr := h1.2
  rcases hr with ⟨_, h0⟩ | ⟨g, cap, cur, hv, hb, hh, hnc, hcm, hsz, ht⟩
  · rw [List.eq_nil_of_length_eq_zero h0] at hm; simp at hm
  · refine ⟨g, cap, A, c, hv, ?_, ho, fun w' y hy hoy hg => ?_⟩
    · have := World.ownsRow.cells h1 (g := g) (by rw [hv]; rfl) m _ hu
      rwa [add_plain, Nat.zero_add] at this
    · refine ⟨hs, ?_, fun i z hi => ?_, h3⟩
      · rw [List.length_set]; exact h1.kept hg (apart_ty h1 ho (by decide))
      · by_cases he : m = i
        · subst he
          rw [List.getElem?_set_self (by
            rcases Nat.lt_or_ge m xs.length with h | h
            · exact h
            · rw [List.getElem?_eq_none h] at hm; simp at hm)] at hi
          obtain rfl := Option.some.inj hi
          exact ⟨_, hu, hoy, hk⟩
        · rw [List.getElem?_set_ne he] at hi
          obtain ⟨u2, hu2, ho2, hk2⟩ := h2 i z hi
          refine ⟨u2, hu2, ho2.kept hg ?_, hk2⟩
          cases hb2 : u2.ownBlock with
          | none => exact .inl rfl
          | some b => exact .inr fun e => he (h3 m i _ u2 b hu hu2 e.symm hb2)
theorem OwnR.slV {w : World} {B : Nat} {K : Nat → Prop} {v : Value} {xs : List (List Str)} (h : OwnR w B K v xs) : SlV (kSl kStr) w (fun _ => True) v xs := by
  obtain ⟨hs, h1, h2, h3⟩ := h
  have hr := h1.2
  rcases hr with ⟨hv, h0⟩ | ⟨g, cap, cur, hv, hb, hh, hnc, hcm, hsz, ht⟩
  · obtain rfl := List.eq_nil_of_length_eq_zero h0
    exact ⟨none, 0, hv, Nat.le_refl _, Nat.zero_le _, Sl.nil⟩
  · refine ⟨_, cap, hv, hnc, hcm, fun _ => ⟨_, rfl, fun i x hi => ?_⟩⟩
    obtain ⟨u, hu, ho, hk⟩ := h2 i x hi
    obtain ⟨A4, c4, hv4, hl4, hc4, hs4⟩ := ho.slV
    subst hv4
    have := World.ownsRow.cells h1 (g := g) (by rw [hv]; rfl) i _ hu
    refine ⟨A4, c4, ⟨trivial, ?_⟩, hl4, hc4, hs4.more (fun _ _ => trivial)⟩
    rw [show i * (kSl kStr).size = i from Nat.mul_one i]
    exact this
/-- blocks of type T from base on have changed, no others -/
structure TyG (T : TypeId) (base : Nat) (w w' : World) : Prop where
  os : w'.os = w.os
  tape : w'.tape = w.tape
  output : w'.output = w.output
  size : w.heap.size ≤ w'.heap.size
  block : ∀ b, b < w.heap.size → (b < base ∨ ∀ cs, w.heap[b]? ≠ some (.cells cs T (0, 0))) → w'.heap[b]? = w.heap[b]?
theorem TyG.refl (T : TypeId) (base : Nat) (w : World) : TyG T base w w := ⟨rfl, rfl, rfl, Nat.le_refl _, fun _ _ _ => rfl⟩
theorem TyG.then {T : TypeId} {base : Nat} {w w1 w2 : World} (h : TyG T base w w1) (k : TyG T base w1 w2) : TyG T base w w2 :=
  ⟨k.os.trans h.os, k.tape.trans h.tape, k.output.trans h.output, Nat.le_trans h.size k.size, fun b hb ho => by
    have h1 := h.block b hb ho
    exact (k.block b (Nat.lt_of_lt_of_le hb h.size) (by rw [h1]; exact ho)).trans h1⟩
theorem TyG.of_grown {T : TypeId} {base sz n : Nat} {w w' : World} {v : Value} {cs : List Value} (ho : w.ownsRow base T sz v n cs) (hg : w.grownBy w' v.ownBlock) : TyG T base w w' :=
  ⟨hg.os, hg.tape, hg.output, hg.size, fun b hb hn => hg.block b hb (fun e => by
    obtain ⟨cur, hc⟩ := ownsRow_blk ho e.symm
    rcases hn with hn | hn
    · have := (ho.lt b e.symm).1; omega
    · exact hn cur hc)⟩
theorem TyG.below {T : TypeId} {base B : Nat} {w w' : World} (h : TyG T base w w') (hB : B ≤ base) (hs : B ≤ w.heap.size) : Below B w w' := ⟨h.os, h.tape, h.output, h.size, fun b hb => h.block b (by omega) (.inl (by omega))⟩
theorem Own.keptT {α : Type} {k : Flat α} {T e : TypeId} {base B : Nat} {w w' : World} {v : Value} {xs : List α} (h : Own k w B e v xs) (hg : TyG T base w w') (hne : e ≠ T) : Own k w' B e v xs :=
  h.same (fun b hb => by
    obtain ⟨cur, hc⟩ := ownsRow_blk h hb
    exact hg.block b (Array.getElem?_eq_some_iff.1 hc).1 (.inr fun cs e2 => by
      rw [hc] at e2
      injection e2 with e2
      injection e2 with _ e2 _
      exact hne e2))
/-- rows of another type have changed -/
theorem OwnR.apart {w w' : World} {B base sz n : Nat} {K : Nat → Prop} {v u : Value} {e : TypeId} {cs : List Value} {rings : List (List Str)} (h : OwnR w B K v rings) (hg : w.grownBy w' u.ownBlock) (ho : w.ownsRow base e sz u n cs) (h1 : 23 ≠ e) (h2 : 9 ≠ e) : OwnR w' B K v rings := by
  obtain ⟨hs, r1, r2, r3⟩ := h
  refine ⟨hs, r1.kept hg (apart_ty r1 ho h1), fun i x hi => ?_, r3⟩
  obtain ⟨a, ha, hoa, hk⟩ := r2 i x hi
  exact ⟨a, ha, hoa.kept hg (apart_ty hoa ho h2), hk⟩
end Mem

def totS (xs : List (List Str)) : Nat := sumOf (fun x : List Str => x.length) xs
/-- the marks of a row of rows -/
def mkss : Nat → List (List Str) → List (List Str)
  | _, [] => []
  | k, x :: r => marks k x.length :: mkss (k + x.length) r
theorem mkss_len (k : Nat) (xs : List (List Str)) : (mkss k xs).length = xs.length := by
  induction xs generalizing k with
  | nil => rfl
  | cons x r ih => simp [mkss, ih]
theorem mkss_get : ∀ (xs : List (List Str)) (k m : Nat) (x : List Str), xs[m]? = some x → (mkss k xs)[m]? = some (marks (k + totS (xs.take m)) x.length)
  | [], k, m, x, h => by simp at h
  | a :: r, k, 0, x, h => by
    obtain rfl : a = x := by simpa using h
    simp [mkss, totS, sumOf]
  | a :: r, k, m + 1, x, h => by
    have ih := mkss_get r (k + a.length) m x (by simpa using h)
    rw [mkss, List.getElem?_cons_succ, ih, List.take_succ_cons]
    simp only [totS, sumOf]
    rw [Nat.add_assoc]
theorem mkss_step : ∀ (xs : List (List Str)) (k m : Nat) (x : List Str), xs[m]? = some x → (mkss k (xs.take m) ++ xs.drop m).set m (marks (k + totS (xs.take m)) x.length) = mkss k (xs.take (m + 1)) ++ xs.drop (m + 1)
  | [], k, m, x, h => by simp at h
  | a :: r, k, 0, x, h => by
    obtain rfl : a = x := by simpa using h
    simp [mkss, totS, sumOf]
  | a :: r, k, m + 1, x, h => by
    have ih := mkss_step r (k + a.length) m x (by simpa using h)
    rw [List.take_succ_cons, List.take_succ_cons, List.drop_succ_cons, List.drop_succ_cons, mkss, mkss, List.cons_append, List.cons_append, List.set_cons_succ, ← ih]
    simp only [totS, sumOf]
    rw [Nat.add_assoc]
theorem mkss_mid {xs : List (List Str)} {k m : Nat} {x : List Str} (h : xs[m]? = some x) : (mkss k (xs.take m) ++ xs.drop m)[m]? = some x := by
  have hm : m < xs.length := by
    rcases Nat.lt_or_ge m xs.length with h1 | h1
    · exact h1
    · rw [List.getElem?_eq_none h1] at h; simp at h
  have hl : (mkss k (xs.take m)).length = m := by rw [mkss_len, List.length_take]; omega
  rw [List.getElem?_append_right (by omega), hl, Nat.sub_self, List.getElem?_drop, Nat.add_zero]
  exact h
theorem mkss_mid_len {xs : List (List Str)} {k m : Nat} (h : m ≤ xs.length) : (mkss k (xs.take m) ++ xs.drop m).length = xs.length := by
  rw [List.length_append, mkss_len, List.length_take, List.length_drop]; omega

set_option maxRecDepth 100000 in
set_option maxHeartbeats 1000000 in
theorem eqStringSS_same (A B : Option Addr) (c d n : Nat) (xs : List (List Str)) (w : World) (S T : Nat → Prop) (h1 : Sl (kSl kStr) w S A xs) (h2 : Sl (kSl kStr) w T B xs) (hn : xs.length = n) (hl : n ≤ maxLen) :
    Calls Tryz.prog 41 #[.slice A n c, .slice B n d] w fun e w' => e = .returned (.bool true) ∧ Below w.heap.size w w' := by
  subst hn
  replace hl := mem_maxLen _ hl
  go_enter Tryz.func41, Tryz.ntmps41
  go_wp2_with fail
  go_loopw [5] (fun i wr => ∃ k : Nat, i = .int .i64 k ∧ k ≤ xs.length ∧ Below w.heap.size w wr) (fun i _ => xs.length - (intOf i).toNat)
  case atStart => exact ⟨0, rfl, by omega, Below.refl _ _⟩
  case round =>
    obtain ⟨k, rfl, hk, HB⟩ := hrel
    by_cases hlt : k < xs.length
    · obtain ⟨ad, hA, A4, c4, hc4, hl4, hm4, hs4⟩ := (h1.below HB).get hlt
      subst hA
      obtain ⟨bd, hA, A5, c5, hc5, hl5, hm5, hs5⟩ := (h2.below HB).get hlt
      subst hA
      have e1 : wr.cell? (ad.add k) = some (.slice A4 xs[k].length c4) := by simpa [kSl] using hc4.2
      have d1 : wr.cell? (bd.add k) = some (.slice A5 xs[k].length c5) := by simpa [kSl] using hc5.2
      clear hc4 hc5 h1 h2
      generalize xs[k] = x at e1 d1 hs4 hs5 hl4 hl5
      go_wp2_with fail
      go_still_tail 8, (by kernel_rfl)
      change wpList _ _ _ _ _ wr.drew
      go_wp2_with fail
      refine (eqStringS_same A4 A5 c4 c5 x.length x _ S T (hs4.below (Below.drew (Below.refl _ _))) (hs5.below (Below.drew (Below.refl _ _))) rfl (by omega)).mono ?_
      rintro e w1 ⟨rfl, n1, rfl⟩
      clear e1 d1 hs4 hs5
      go_wp2_with fail
      go_roundw
      case rel => exact ⟨k + 1, by go_num, by omega, by (repeat (first | with_reducible exact Below.refl _ _ | with_reducible assumption | with_reducible refine Below.alloc ?_ (by first | exact Nat.le_refl _ | exact Below.size (by assumption) | exact Nat.le_trans (Below.size (by assumption)) (by simp; done) | (simp; done) | (simp; omega) | omega) _ | with_reducible refine below_drewN ?_ _ | with_reducible refine Below.drew ?_ | with_reducible refine Below.setCell ?_ (by first | exact Nat.le_refl _ | (simp; done) | (simp; omega) | omega) _))⟩
      case measure => simp [intOf]; omega
    · obtain rfl : k = xs.length := by omega
      go_wp2_with fail
      go_ret
      exact ⟨rfl, HB⟩

set_option maxRecDepth 100000 in
set_option maxHeartbeats 1000000 in
theorem markStringSS_calls (A : Option Addr) (c n base k : Nat) (K : Nat → Prop) (rings : List (List Str)) (w : World) (h : OwnR w base K (.slice A n c) rings) (hn : rings.length = n) (hl : n ≤ maxLen) (hk : k + totS rings ≤ 1099511627776) :
    Calls Tryz.prog 50 #[.slice A n c, .int .i64 k] w fun e w' => (∃ k' : Nat, k' = k + totS rings ∧ e = .returned (.int .i64 k')) ∧ OwnR w' base K (.slice A n c) (mkss k rings) ∧ TyG 9 base w w' := by
  subst hn
  replace hl := mem_maxLen _ hl
  go_enter Tryz.func50, Tryz.ntmps50
  go_wp2_with fail
  go_loopw [1, 5] (fun j i wr => ∃ m Q : Nat, i = .int .i64 m ∧ j = .int .i64 Q ∧ m ≤ rings.length ∧ Hid (Q = k + totS (rings.take m)) ∧ OwnR wr base K (.slice A rings.length c) (mkss k (rings.take m) ++ rings.drop m) ∧ TyG 9 base w wr) (fun _ i _ => rings.length - (intOf i).toNat)
  case atStart => exact ⟨0, k, rfl, rfl, by omega, hide (by simp [totS, sumOf]), by simpa [mkss] using h, TyG.refl _ _ _⟩
  case round =>
    clear h
    obtain ⟨m, Q, rfl, rfl, hm, HQ, HO, HG⟩ := hrel
    by_cases hlt : m < rings.length
    · have hst := sumOf_take (fun x : List Str => x.length) rings m hlt
      have hle := sumOf_le (fun x : List Str => x.length) rings (m + 1)
      have hx : rings[m]? = some rings[m] := List.getElem?_eq_getElem hlt
      have HST := hide (show totS (rings.take (m + 1)) = totS (rings.take m) + rings[m].length from hst)
      have hkb : Q + rings[m].length ≤ 1099511627776 := by
        have h1 := HQ.out
        have h2 := HST.out
        have h3 : totS (rings.take (m + 1)) ≤ totS rings := hle
        omega
      clear hst hle
      generalize rings[m] = x at hx HST hkb
      obtain ⟨g, cap, A4, c4, hv, hc, ho, hturn⟩ := HO.at_ (mkss_mid hx)
      have hA : A = some ⟨g, 0, none⟩ := by injection hv
      subst hA
      have HT := hide hturn
      have HX := hide hx
      have HOO := hide ho
      have hmk := markStringS_calls A4 c4 x.length base Q x wr ho rfl hkb
      clear hv ho hturn hx HO
      go_wp2_with fail
      refine hmk.mono ?_
      rintro e w1 ⟨rfl, ho1, hg1⟩
      have hN := HT.out w1 (marks Q x.length) (marks_length _ _) ho1 hg1
      rw [HQ.out, mkss_step rings k m x HX.out] at hN
      have hGN := HG.then (TyG.of_grown HOO.out hg1)
      have HON := hide hN
      clear ho1 hg1 hc hmk hN
      go_wp2_with fail
      go_roundw
      case rel => exact ⟨m + 1, Q + x.length, by go_num, rfl, by omega, hide (by rw [HQ.out, HST.out]; omega), HON.out, hGN⟩
      case measure => simp [intOf]; omega
    · obtain rfl : m = rings.length := by omega
      have HE := hide (show Q = k + totS rings by have := HQ.out; rwa [List.take_length] at this)
      have HON := hide (show OwnR wr base K (.slice A rings.length c) (mkss k rings) by rw [List.take_length, List.drop_length, List.append_nil] at HO; exact HO)
      clear HO
      go_wp2_with fail
      go_ret
      exact ⟨⟨Q, HE.out, rfl⟩, HON.out, HG⟩

set_option maxRecDepth 100000 in
set_option maxHeartbeats 1000000 in
theorem heldStringSS_calls (A : Option Addr) (c n k : Nat) (S : Nat → Prop) (rings : List (List Str)) (w : World) (h : Sl (kSl kStr) w S A (mkss k rings)) (hn : rings.length = n) (hl : n ≤ maxLen) (hk : k + totS rings ≤ 1099511627776) :
    Calls Tryz.prog 53 #[.slice A n c, .int .i64 k] w fun e w' => (∃ k' : Nat, k' = k + totS rings ∧ e = .returned (.int .i64 k')) ∧ Below w.heap.size w w' := by
  subst hn
  replace hl := mem_maxLen _ hl
  go_enter Tryz.func53, Tryz.ntmps53
  go_wp2_with fail
  go_loopw [1, 5] (fun j i wr => ∃ m Q : Nat, i = .int .i64 m ∧ j = .int .i64 Q ∧ m ≤ rings.length ∧ Hid (Q = k + totS (rings.take m)) ∧ Below w.heap.size w wr) (fun _ i _ => rings.length - (intOf i).toNat)
  case atStart => exact ⟨0, k, rfl, rfl, by omega, hide (by simp [totS, sumOf]), Below.refl _ _⟩
  case round =>
    obtain ⟨m, Q, rfl, rfl, hm, HQ, HB⟩ := hrel
    by_cases hlt : m < rings.length
    · have hst := sumOf_take (fun x : List Str => x.length) rings m hlt
      have hle := sumOf_le (fun x : List Str => x.length) rings (m + 1)
      have hx : rings[m]? = some rings[m] := List.getElem?_eq_getElem hlt
      have HST := hide (show totS (rings.take (m + 1)) = totS (rings.take m) + rings[m].length from hst)
      have hkb : Q + rings[m].length ≤ 1099511627776 := by
        have h1 := HQ.out
        have h2 := HST.out
        have h3 : totS (rings.take (m + 1)) ≤ totS rings := hle
        omega
      clear hst hle
      generalize rings[m] = x at hx HST hkb
      have hg := mkss_get rings k m x hx
      rw [← HQ.out] at hg
      have hml : m < (mkss k rings).length := by rw [mkss_len]; exact hlt
      obtain ⟨ad, hA, A4, c4, hc4, hl4, hm4, hs4⟩ := (h.below HB).get hml
      rw [List.getElem?_eq_getElem hml] at hg
      rw [Option.some.inj hg] at hc4 hl4 hs4
      rw [marks_length] at hc4 hl4
      subst hA
      have e1 : wr.cell? (ad.add m) = some (.slice A4 x.length c4) := by simpa [kSl] using hc4.2
      have hh := heldStringS_calls A4 c4 x.length Q S wr hs4 hkb
      have HX := hide hh
      clear hc4 hs4 hx hg hh h hml
      go_wp2_with fail
      refine HX.out.mono ?_
      rintro e w1 ⟨rfl, hb1⟩
      have HB1 := below_then HB HB.size hb1
      clear hb1 e1
      go_wp2_with fail
      go_roundw
      case rel => exact ⟨m + 1, Q + x.length, by go_num, rfl, by omega, hide (by rw [HQ.out, HST.out]; omega), HB1⟩
      case measure => simp [intOf]; omega
    · obtain rfl : m = rings.length := by omega
      have HE := hide (show Q = k + totS rings by have := HQ.out; rwa [List.take_length] at this)
      go_wp2_with fail
      go_ret
      exact ⟨⟨Q, HE.out, rfl⟩, HB⟩

/-- where a report's marks end -/
def repEnd (k : Nat) (s : Ld.St) : Nat := k + 4 * s.recs.length + 4 * s.states.length + totS s.rings
/-- the report that the marks leave -/
def markSt (k : Nat) (s : Ld.St) : Ld.St := { s with recs := mks mrec 4 k s.recs.length, states := mks mstate 4 (k + 4 * s.recs.length) s.states.length, rings := mkss (k + 4 * s.recs.length + 4 * s.states.length) s.rings }

theorem RepAt.form {w : World} {base : Nat} {vc vs vr : Value} {s : Ld.St} (h : RepAt w base vc vs vr s) : ∃ A1 c1 A2 c2 A3 c3, vc = .slice A1 s.recs.length c1 ∧ vs = .slice A2 s.states.length c2 ∧ vr = .slice A3 s.rings.length c3 ∧
    Sl kRec w (fun _ => True) A1 s.recs ∧ Sl kState w (fun _ => True) A2 s.states ∧ Sl (kSl kStr) w (fun _ => True) A3 s.rings ∧ s.recs.length ≤ maxLen ∧ s.states.length ≤ maxLen ∧ s.rings.length ≤ maxLen := by
  obtain ⟨A1, c1, h1, l1, m1, s1⟩ := h.recs.slV
  obtain ⟨A2, c2, h2, l2, m2, s2⟩ := h.states.slV
  obtain ⟨K, hr⟩ := h.rings
  obtain ⟨A3, c3, h3, l3, m3, s3⟩ := hr.slV
  exact ⟨A1, c1, A2, c2, A3, c3, h1, h2, h3, s1.more (fun _ _ => trivial), s2.more (fun _ _ => trivial), s3, by omega, by omega, by omega⟩

theorem RepAt.samelt {w w' : World} {base : Nat} {vc vs vr : Value} {s : Ld.St} (h : RepAt w base vc vs vr s) (hs : ∀ b, base ≤ b → b < w.heap.size → w'.heap[b]? = w.heap[b]?) : RepAt w' base vc vs vr s := by
  refine ⟨h.recs.same (fun b e => hs b (h.recs.le e) (h.recs.lt e)), h.states.same (fun b e => hs b (h.states.le e) (h.states.lt e)), ?_, h.ringsB⟩
  obtain ⟨K, rs, h1, h2, h3⟩ := h.rings
  refine ⟨K, rs, ⟨h1.1, ?_⟩, fun i x hi => ?_, h3⟩
  · rcases h1.2 with h0 | ⟨g, cap, cur, hv, hb, hh, hr⟩
    · exact .inl h0
    · exact .inr ⟨g, cap, cur, hv, hb, (hs g (h.ringsB g (by rw [hv]; rfl)) (Array.getElem?_eq_some_iff.1 hh).1).trans hh, hr⟩
  · obtain ⟨u, hu, ho, hk⟩ := h2 i x hi
    exact ⟨u, hu, ho.same (fun b e => hs b (ho.le e) (ho.lt e)), hk⟩
/-- a report that reads as s, in blocks of S -/
structure RepRd (w : World) (S : Nat → Prop) (vc vs vr : Value) (s : Ld.St) : Prop where
  recs : SlV kRec w S vc s.recs
  states : SlV kState w S vs s.states
  rings : SlV (kSl kStr) w S vr s.rings
theorem RepAt.rd {w : World} {base n : Nat} {vc vs vr : Value} {s : Ld.St} (h : RepAt w base vc vs vr s) (hn : w.heap.size ≤ n) : RepRd w (fun b => b < n) vc vs vr s :=
  ⟨SlV.lt h.recs.slV hn, SlV.lt h.states.slV hn, by obtain ⟨K, hr⟩ := h.rings; exact SlV.lt hr.slV hn⟩
theorem RepRd.same {w w' : World} {S : Nat → Prop} {vc vs vr : Value} {s : Ld.St} (h : RepRd w S vc vs vr s) (e : Same S w w') : RepRd w' S vc vs vr s := ⟨h.recs.same e, h.states.same e, h.rings.same e⟩
theorem RepRd.below {w w' : World} {S : Nat → Prop} {vc vs vr : Value} {s : Ld.St} (h : RepRd w S vc vs vr s) (e : Below w.heap.size w w') : RepRd w' S vc vs vr s := ⟨h.recs.below e, h.states.below e, h.rings.below e⟩

set_option maxRecDepth 100000 in
set_option maxHeartbeats 1000000 in
theorem eqReport_same (c R : Int) (s : Ld.St) (S T : Nat → Prop) (vc vs vr uc us ur : Value) (w : World) (h1 : RepRd w S vc vs vr s) (h2 : RepRd w T uc us ur s) :
    Calls Tryz.prog 15 #[.agg #[.int .i64 c, vc, vs, .int .i64 R, vr], .agg #[.int .i64 c, uc, us, .int .i64 R, ur]] w fun e w' => e = .returned (.bool true) ∧ Below w.heap.size w w' := by
  obtain ⟨⟨A1, c1, rfl, a1, b1, p1⟩, ⟨A2, c2, rfl, a2, b2, p2⟩, ⟨A3, c3, rfl, a3, b3, p3⟩⟩ := h1
  obtain ⟨⟨B1, d1, rfl, _, _, q1⟩, ⟨B2, d2, rfl, _, _, q2⟩, ⟨B3, d3, rfl, _, _, q3⟩⟩ := h2
  have l1 := Nat.le_trans a1 b1
  have l2 := Nat.le_trans a2 b2
  have l3 := Nat.le_trans a3 b3
  clear a1 b1 a2 b2 a3 b3
  go_enter Tryz.func15, Tryz.ntmps15
  go_wp2_with fail
  generalize hW : (w.alloc (Obj.cells #[.int .i64 c, .slice A1 s.recs.length c1, .slice A2 s.states.length c2, .int .i64 R, .slice A3 s.rings.length c3] 34)).alloc (Obj.cells #[.int .i64 c, .slice B1 s.recs.length d1, .slice B2 s.states.length d2, .int .i64 R, .slice B3 s.rings.length d3] 34) = W
  have hbW : Below w.heap.size w W := by rw [← hW]; (repeat (first | with_reducible exact Below.refl _ _ | with_reducible assumption | with_reducible refine Below.alloc ?_ (by first | exact Nat.le_refl _ | exact Below.size (by assumption) | exact Nat.le_trans (Below.size (by assumption)) (by simp; done) | (simp; done) | (simp; omega) | omega) _ | with_reducible refine below_drewN ?_ _ | with_reducible refine Below.drew ?_ | with_reducible refine Below.setCell ?_ (by first | exact Nat.le_refl _ | (simp; done) | (simp; omega) | omega) _))
  have hb := alloc_two w (Obj.cells #[.int .i64 c, .slice A1 s.recs.length c1, .slice A2 s.states.length c2, .int .i64 R, .slice A3 s.rings.length c3] 34) (Obj.cells #[.int .i64 c, .slice B1 s.recs.length d1, .slice B2 s.states.length d2, .int .i64 R, .slice B3 s.rings.length d3] 34)
  rw [hW] at hb
  have HBK := hide hb
  have hz : w.heap.size + 2 = W.heap.size := hb.2.2
  clear hb hW
  refine (eqRecS_same A1 B1 c1 d1 s.recs.length s.recs W _ _ (p1.below hbW) (q1.below hbW) rfl l1).mono ?_
  rintro e w1 ⟨rfl, hb1⟩
  have B1' := below_then hbW hbW.size hb1
  have x0 := (hb1.block _ (by omega)).trans HBK.out.1
  have x1 := (hb1.block _ (by omega)).trans HBK.out.2.1
  have k2 : w1.cell? ⟨w.heap.size, 2, none⟩ = some _ := blk_cell x0 2
  have j2 : w1.cell? ⟨w.heap.size + 1, 2, none⟩ = some _ := blk_cell x1 2
  have HX0 := hide x0
  have HX1 := hide x1
  have z1 := hb1.size
  clear hb1 x0 x1 HBK
  go_wp2_with fail
  refine (eqStateS_same A2 B2 c2 d2 s.states.length s.states w1 _ _ (p2.below B1') (q2.below B1') rfl l2).mono ?_
  rintro e w2 ⟨rfl, hb2⟩
  have B2' := below_then B1' B1'.size hb2
  have x0 := (hb2.block _ (by omega)).trans HX0.out
  have x1 := (hb2.block _ (by omega)).trans HX1.out
  have k3 : w2.cell? ⟨w.heap.size, 3, none⟩ = some _ := blk_cell x0 3
  have j3 : w2.cell? ⟨w.heap.size + 1, 3, none⟩ = some _ := blk_cell x1 3
  have k4 : w2.cell? ⟨w.heap.size, 4, none⟩ = some _ := blk_cell x0 4
  have j4 : w2.cell? ⟨w.heap.size + 1, 4, none⟩ = some _ := blk_cell x1 4
  clear hb2 x0 x1 HX0 HX1 k2 j2
  go_wp2_with fail
  refine (eqStringSS_same A3 B3 c3 d3 s.rings.length s.rings w2 _ _ (p3.below B2') (q3.below B2') rfl l3).mono ?_
  rintro e w3 ⟨rfl, hb3⟩
  have B3' := below_then B2' B2'.size hb3
  clear hb3
  go_wp2_with fail
  go_ret
  exact ⟨rfl, B3'⟩

set_option maxRecDepth 100000 in
set_option maxHeartbeats 1000000 in
theorem markReport_calls (k base : Nat) (c R : Int) (s : Ld.St) (vc vs vr : Value) (w : World) (h : RepAt w base vc vs vr s) (hbz : base ≤ w.heap.size) (hk : repEnd k s ≤ 1099511627776) :
    Calls Tryz.prog 18 #[.agg #[.int .i64 c, vc, vs, .int .i64 R, vr], .int .i64 k] w fun e w' => (∃ k' : Nat, k' = repEnd k s ∧ e = .returned (.int .i64 k')) ∧ RepAt w' base vc vs vr (markSt k s) ∧ Below base w w' ∧ ∀ (b : Nat) (cs : Array Value), w.heap[b]? = some (.cells cs 34 (0, 0)) → w'.heap[b]? = some (.cells cs 34 (0, 0)) := by
  obtain ⟨A1, c1, A2, c2, A3, c3, rfl, rfl, rfl, _, _, _, _, _, hl3⟩ := h.form
  unfold repEnd at hk ⊢
  have hbA : Below w.heap.size w (w.alloc (Obj.cells #[.int .i64 c, .slice A1 s.recs.length c1, .slice A2 s.states.length c2, .int .i64 R, .slice A3 s.rings.length c3] 34)) := by (repeat (first | with_reducible exact Below.refl _ _ | with_reducible assumption | with_reducible refine Below.alloc ?_ (by first | exact Nat.le_refl _ | exact Below.size (by assumption) | exact Nat.le_trans (Below.size (by assumption)) (by simp; done) | (simp; done) | (simp; omega) | omega) _ | with_reducible refine below_drewN ?_ _ | with_reducible refine Below.drew ?_ | with_reducible refine Below.setCell ?_ (by first | exact Nat.le_refl _ | (simp; done) | (simp; omega) | omega) _))
  have hnA := heap_alloc_new w (Obj.cells #[.int .i64 c, .slice A1 s.recs.length c1, .slice A2 s.states.length c2, .int .i64 R, .slice A3 s.rings.length c3] 34)
  have hzA : w.heap.size < (w.alloc (Obj.cells #[.int .i64 c, .slice A1 s.recs.length c1, .slice A2 s.states.length c2, .int .i64 R, .slice A3 s.rings.length c3] 34)).heap.size := by simp
  have HH := hide h
  clear h
  go_enter Tryz.func18, Tryz.ntmps18
  go_wp2_with fail
  generalize w.alloc (Obj.cells #[.int .i64 c, .slice A1 s.recs.length c1, .slice A2 s.states.length c2, .int .i64 R, .slice A3 s.rings.length c3] 34) = W at hbA hnA hzA ⊢
  have hr := HH.out.below hbA
  obtain ⟨K, hrg⟩ := hr.rings
  refine (markRecS_calls A1 c1 s.recs.length base k s.recs W hr.recs rfl (by omega)).mono ?_
  rintro e w1 ⟨⟨k1, hk1, rfl⟩, o1, g1⟩
  have hs1 := hr.states.kept g1 (apart_ty hr.states hr.recs (by decide))
  have hrg1 := hrg.apart g1 hr.recs (by decide) (by decide)
  have hb1 := (g1.block _ hzA (not_row (apart_blk hr.recs hnA (by decide)))).trans hnA
  have HB1 : Below base w w1 := (hbA.mono hbz).grown g1 (Nat.le_trans hbz hbA.size) (fun b e => hr.recs.le e)
  have hkp1 : ∀ (b : Nat) (cs : Array Value), w.heap[b]? = some (.cells cs 34 (0, 0)) → w1.heap[b]? = some (.cells cs 34 (0, 0)) := fun b cs hb => by
    have hl := (Array.getElem?_eq_some_iff.1 hb).1
    have h1 := (hbA.block b hl).trans hb
    exact (g1.block b (by omega) (not_row (apart_blk hr.recs h1 (by decide)))).trans h1
  have HKP1 := hide hkp1
  clear hkp1
  have m2 : w1.cell? ⟨w.heap.size, 2, none⟩ = some _ := blk_cell hb1 2
  have m4 : w1.cell? ⟨w.heap.size, 4, none⟩ = some _ := blk_cell hb1 4
  have hz1 : w.heap.size < w1.heap.size := Nat.lt_of_lt_of_le hzA g1.size
  have HK1 := hide hk1
  have HBX := hide hb1
  have HO1 := hide o1
  clear hk1 hb1 g1 hr hrg o1 hnA hbA
  go_wp2_with fail
  refine (markStateS_calls A2 c2 s.states.length base k1 s.states w1 hs1 rfl (by have := HK1.out; omega)).mono ?_
  rintro e w2 ⟨⟨k2, hk2, rfl⟩, o2, g2⟩
  have hrc2 := HO1.out.kept g2 (apart_ty HO1.out hs1 (by decide))
  have hrg2 := hrg1.apart g2 hs1 (by decide) (by decide)
  have hb2 := (g2.block _ hz1 (not_row (apart_blk hs1 HBX.out (by decide)))).trans HBX.out
  have HB2 : Below base w w2 := HB1.grown g2 (by omega) (fun b e => hs1.le e)
  have hkp2 : ∀ (b : Nat) (cs : Array Value), w.heap[b]? = some (.cells cs 34 (0, 0)) → w2.heap[b]? = some (.cells cs 34 (0, 0)) := fun b cs hb => by
    have h1 := HKP1.out b cs hb
    exact (g2.block b (Array.getElem?_eq_some_iff.1 h1).1 (not_row (apart_blk hs1 h1 (by decide)))).trans h1
  have HKP2 := hide hkp2
  clear hkp2
  have m4 : w2.cell? ⟨w.heap.size, 4, none⟩ = some _ := blk_cell hb2 4
  have HK2 := hide hk2
  have HO2 := hide o2
  have HRC := hide hrc2
  have hz2 : w.heap.size < w2.heap.size := Nat.lt_of_lt_of_le hz1 g2.size
  clear hk2 hb2 g2 hrg1 hs1 o2 hrc2 m2 HB1 HBX HO1
  go_wp2_with fail
  refine (markStringSS_calls A3 c3 s.rings.length base k2 K s.rings w2 hrg2 rfl hl3 (by have := HK1.out; have := HK2.out; omega)).mono ?_
  rintro e w3 ⟨⟨k3, hk3, rfl⟩, o3, t3⟩
  have HK3 := hide hk3
  have HB3 : Below base w w3 := HB2.trans (t3.below (Nat.le_refl _) (by omega))
  have HR3 := hide (show RepAt w3 base (.slice A1 s.recs.length c1) (.slice A2 s.states.length c2) (.slice A3 s.rings.length c3) (markSt k s) by
    obtain rfl := HK1.out
    obtain rfl := HK2.out
    exact ⟨HRC.out.keptT t3 (by decide), HO2.out.keptT t3 (by decide), ⟨K, o3⟩, HH.out.ringsB⟩)
  have HKP3 := hide (show ∀ (b : Nat) (cs : Array Value), w.heap[b]? = some (.cells cs 34 (0, 0)) → w3.heap[b]? = some (.cells cs 34 (0, 0)) from fun b cs hb => by
    have h1 := HKP2.out b cs hb
    exact (t3.block b (Array.getElem?_eq_some_iff.1 h1).1 (.inr fun cs2 e => by
      rw [h1] at e
      injection e with e
      injection e with _ e _
      exact absurd e (by decide))).trans h1)
  clear hk3 o3 t3 m4 hrg2 HRC HO2 HB2
  go_wp2_with fail
  go_ret
  exact ⟨⟨k3, by rw [HK3.out, HK2.out, HK1.out], rfl⟩, HR3.out, HB3, HKP3.out⟩

set_option maxRecDepth 100000 in
set_option maxHeartbeats 1000000 in
theorem heldReport_calls (k base : Nat) (c R : Int) (s : Ld.St) (vc vs vr : Value) (w : World) (h : RepAt w base vc vs vr (markSt k s)) (hk : repEnd k s ≤ 1099511627776) :
    Calls Tryz.prog 19 #[.agg #[.int .i64 c, vc, vs, .int .i64 R, vr], .int .i64 k] w fun e w' => (∃ k' : Nat, k' = repEnd k s ∧ e = .returned (.int .i64 k')) ∧ Below w.heap.size w w' := by
  obtain ⟨A1, c1, A2, c2, A3, c3, hv1, hv2, hv3, p1, p2, p3, _, _, hl3⟩ := h.form
  rw [show (markSt k s).rings.length = s.rings.length from mkss_len _ _] at hl3
  rw [show (markSt k s).recs.length = s.recs.length from mks_len _ _ _ _] at hv1
  rw [show (markSt k s).states.length = s.states.length from mks_len _ _ _ _] at hv2
  rw [show (markSt k s).rings.length = s.rings.length from mkss_len _ _] at hv3
  subst hv1 hv2 hv3
  unfold repEnd at hk ⊢
  have hbA : Below w.heap.size w (w.alloc (Obj.cells #[.int .i64 c, .slice A1 s.recs.length c1, .slice A2 s.states.length c2, .int .i64 R, .slice A3 s.rings.length c3] 34)) := by (repeat (first | with_reducible exact Below.refl _ _ | with_reducible assumption | with_reducible refine Below.alloc ?_ (by first | exact Nat.le_refl _ | exact Below.size (by assumption) | exact Nat.le_trans (Below.size (by assumption)) (by simp; done) | (simp; done) | (simp; omega) | omega) _ | with_reducible refine below_drewN ?_ _ | with_reducible refine Below.drew ?_ | with_reducible refine Below.setCell ?_ (by first | exact Nat.le_refl _ | (simp; done) | (simp; omega) | omega) _))
  have hnA := heap_alloc_new w (Obj.cells #[.int .i64 c, .slice A1 s.recs.length c1, .slice A2 s.states.length c2, .int .i64 R, .slice A3 s.rings.length c3] 34)
  have hzA : w.heap.size < (w.alloc (Obj.cells #[.int .i64 c, .slice A1 s.recs.length c1, .slice A2 s.states.length c2, .int .i64 R, .slice A3 s.rings.length c3] 34)).heap.size := by simp
  clear h
  go_enter Tryz.func19, Tryz.ntmps19
  go_wp2_with fail
  generalize w.alloc (Obj.cells #[.int .i64 c, .slice A1 s.recs.length c1, .slice A2 s.states.length c2, .int .i64 R, .slice A3 s.rings.length c3] 34) = W at hbA hnA hzA ⊢
  refine (heldRecS_calls A1 c1 s.recs.length k _ W (p1.below hbA) (by omega)).mono ?_
  rintro e w1 ⟨⟨k1, hk1, rfl⟩, hb1⟩
  have HB1 := below_then hbA hbA.size hb1
  have hx := (hb1.block _ hzA).trans hnA
  have m2 : w1.cell? ⟨w.heap.size, 2, none⟩ = some _ := blk_cell hx 2
  have HX := hide hx
  have hz1 : w.heap.size < w1.heap.size := Nat.lt_of_lt_of_le hzA hb1.size
  have HK1 := hide hk1
  clear hk1 hb1 hx hnA hbA
  go_wp2_with fail
  have p2' : Sl kState w1 (fun _ => True) A2 (mks mstate 4 k1 s.states.length) := by
    obtain rfl := HK1.out
    exact p2.below HB1
  refine (heldStateS_calls A2 c2 s.states.length k1 _ w1 p2' (by have := HK1.out; omega)).mono ?_
  rintro e w2 ⟨⟨k2, hk2, rfl⟩, hb2⟩
  have HB2 := below_then HB1 HB1.size hb2
  have hx := (hb2.block _ hz1).trans HX.out
  have m4 : w2.cell? ⟨w.heap.size, 4, none⟩ = some _ := blk_cell hx 4
  have HK2 := hide hk2
  clear hk2 hb2 hx HX p2' m2
  go_wp2_with fail
  have p3' : Sl (kSl kStr) w2 (fun _ => True) A3 (mkss k2 s.rings) := by
    obtain rfl := HK1.out
    obtain rfl := HK2.out
    exact p3.below HB2
  refine (heldStringSS_calls A3 c3 s.rings.length k2 _ s.rings w2 p3' rfl hl3 (by have := HK1.out; have := HK2.out; omega)).mono ?_
  rintro e w3 ⟨⟨k3, hk3, rfl⟩, hb3⟩
  have HB3 := below_then HB2 HB2.size hb3
  have HK3 := hide hk3
  clear hk3 hb3 p3' m4
  go_wp2_with fail
  go_ret
  exact ⟨⟨k3, by rw [HK3.out, HK2.out, HK1.out], rfl⟩, HB3⟩
end Go.Proofs.YtkhlicmlnjccdaaGreatDoor
