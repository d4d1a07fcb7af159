/-
  The reference's drawing: DrawTries (that it answers, and how great).
-/
import Derived.Test.YtkhlicmlnjccdaaDoorKd36
import Derived.Test.YtkhlicmlnjccdaaDoorKd3
namespace Go.Proofs.YtkhlicmlnjccdaaDoor
open Go.RowKit Mem

theorem Own.ne_blk {α : Type} {k : Flat α} {w : World} {base g : Nat} {e t : TypeId} {v : Value} {xs : List α} {cs : Array Value} {f : Nat × Nat} (h : Own k w base e v xs) (hg : w.heap[g]? = some (.cells cs t f)) (hne : e ≠ t) : v.ownBlock ≠ some g := by
  rcases h.2 with ⟨rfl, _⟩ | ⟨g', cap, cur, rfl, _, hh, _⟩
  · simp [Value.ownBlock]
  · intro he
    have : g' = g := by simpa [Value.ownBlock] using he
    subst this
    rw [hh] at hg
    injection hg with hg
    injection hg with _ ht _
    exact hne ht
theorem CurIn.ne {α : Type} {k : Flat α} {w : World} {g n cp m base : Nat} {A : Option Addr} {code : List Int} {e : TypeId} {v : Value} {xs : List α} (h : CurIn w g A n cp code m) (ho : Own k w base e v xs) (he : e ≠ 103) : v.ownBlock = none ∨ v.ownBlock ≠ some g := by
  obtain ⟨c, h1, _⟩ := h
  exact .inr (Own.ne_blk ho h1.blk he)
/-- the choices lie below B -/
def CodeBelow (A : Option Addr) (code : List Int) (B : Nat) : Prop := code ≠ [] → ∀ ad, A = some ad → ad.block < B
theorem CurIn.other {α : Type} {k : Flat α} {w w' : World} {g n cp m base : Nat} {A : Option Addr} {code : List Int} {e : TypeId} {v : Value} {xs : List α} (h : CurIn w g A n cp code m) (ho : Own k w base e v xs) (he : e ≠ 103) (hg : w.grownBy w' v.ownBlock) (hc : CodeBelow A code base) : CurIn w' g A n cp code m := by
  have hne := h.ne ho he
  obtain ⟨c, h1, h2, h3⟩ := h
  refine ⟨c, h1.grown hg (fun b hb => ⟨fun e => ?_, fun hcn ad hA e => ?_⟩), h2, h3⟩
  · subst e
    rcases hne with hn | hn
    · rw [hn] at hb; simp at hb
    · exact hn hb.symm
  · have hlt := hc (by rw [← h2]; exact hcn) ad hA
    have := ho.le hb.symm
    omega

/-- what DrawTries hands back -/
def RetDraw (w : World) (e : Ending) (w' : World) : Prop := ∃ (v : Value) (roots : List Str) (f s : Str), e = .returned (.tuple #[v, .string f, .string s]) ∧ Own fStr w' w.heap.size 9 v roots ∧ Below w.heap.size w w' ∧ roots.length ≤ 9 ∧ (∀ r ∈ roots, r.size ≤ 25) ∧ f.size ≤ 61 ∧ s.size ≤ 61

set_option maxRecDepth 100000 in
set_option maxHeartbeats 2000000 in
theorem drawTries_calls (w : World) (A : Option Addr) (n cp : Nat) (code : List Int) (S : Nat → Prop) (h : Sl kU8 w S A code) (hn : code.length = n) (hs : ∀ x ∈ code, 0 ≤ x ∧ x ≤ 255) (hf : n ≤ 1048576) :
    Calls Tryd.prog 34 #[.slice A n cp] w (RetDraw w) := by
  have hb0 : Below w.heap.size w (w.alloc (Obj.cells #[.slice A n cp, .int .i64 0, .int .u64 0] 103)) := by (repeat (first | with_reducible exact Below.refl _ _ | with_reducible assumption | with_reducible refine Below.alloc ?_ (by first | exact Nat.le_refl _ | exact Below.size (by assumption) | exact Nat.le_trans (Below.size (by assumption)) (by simp; done) | (simp; done) | (simp; omega) | omega) _ | with_reducible refine below_drewN ?_ _ | with_reducible refine Below.drew ?_ | with_reducible refine Below.setCell ?_ (by first | exact Nat.le_refl _ | (simp; done) | (simp; omega) | omega) _))
  have hc := CurIn.new (cp := cp) h hn hs hf
  have hcb : CodeBelow A code w.heap.size := fun hcn ad hA => by
    obtain ⟨ad', hA', hx⟩ := h hcn
    rw [hA] at hA'
    cases hA'
    have : Has w S (ad.add (0 * kU8.size)) (.int .u8 _) := hx 0 _ (List.getElem?_eq_getElem (List.length_pos_iff.2 hcn))
    have := this.lt
    rwa [block_add] at this
  have HCB := hide hcb
  clear h hcb
  go_enter Tryd.func34, Tryd.ntmps34
  go_wp2_with fail
  refine (pick_in 4 hc (by omega) (by omega) (by omega)).mono ?_
  rintro e w1 ⟨r1, rfl, hr1, hc1, hg1⟩
  have hb1 := hb0.grown hg1 (by simp) (fun k hk => by have := Option.some.inj hk; omega)
  clear hb0 hg1
  go_wp2_with fail
  refine (pick_in 20 hc1 (by omega) (by omega) (by omega)).mono ?_
  rintro e w2 ⟨r2, rfl, hr2, hc2, hg2⟩
  have hb2 := hb1.grown hg2 hb1.size (fun k hk => by have := Option.some.inj hk; omega)
  clear hb1 hg2 hc1
  have hcase : r2 = 0 ∨ ((r2 : Int) == 0) = false := by
    by_cases h0 : r2 = 0
    · exact .inl h0
    · exact .inr (by simp; omega)
  have HCASE := hide hcase
  clear hcase
  rcases HCASE.out with rfl | hr2b
  · go_wp2_with fail
    refine (pick_in 2 hc2 (by omega) (by omega) (by omega)).mono ?_
    rintro e w3 ⟨r3, rfl, hr3, hc3, hg3⟩
    have hb3 := hb2.grown hg3 hb2.size (fun k hk => by have := Option.some.inj hk; omega)
    clear hb2 hg3 hc2 HCASE
    go_wp2_with fail
    go_loopw [6, 7] (fun v i wr => ∃ (m : Nat) (roots : List Str), i = .int .i64 m ∧ m + roots.length ≤ 9 ∧ Own fStr wr w.heap.size 9 v roots ∧ Hid (∀ r ∈ roots, r.size ≤ 25) ∧ Below w.heap.size w wr ∧ CurIn wr w.heap.size A n cp code (10 + 20 * roots.length)) (fun _ i _ => (intOf i).toNat)
    case atStart => first | exact ⟨_, [], rfl, by simp; omega, Own.nil _ _ _, fun r hr => by simp at hr, hb3, hc3.more (by simp)⟩ | exact ⟨8 + r3, [], by go_num, by simp; omega, Own.nil _ _ _, fun r hr => by simp at hr, hb3, hc3.more (by simp)⟩
    case round =>
      clear hb3 hc3
      obtain ⟨m, roots, rfl, hm, HO, HR, HB, HC⟩ := hrel
      by_cases h0 : m = 0
      · subst h0
        go_wp2_with fail
        refine (name_in HC (by omega)).mono ?_
        rintro e w4 ⟨f, rfl, hf4, HC4, hg4⟩
        have HB4 := HB.grown hg4 HB.size (fun k hk => by have := Option.some.inj hk; omega)
        have HO4 := HO.kept hg4 (HC.ne HO (by decide))
        clear HB HO HC hg4
        go_wp2_with fail
        refine (pick_in 8 HC4 (by omega) (by omega) (by omega)).mono ?_
        rintro e w5 ⟨r5, rfl, hr5, HC5, hg5⟩
        have HB5 := HB4.grown hg5 HB4.size (fun k hk => by have := Option.some.inj hk; omega)
        have HO5 := HO4.kept hg5 (HC4.ne HO4 (by decide))
        clear HB4 HO4 HC4 hg5
        have hcase5 : r5 = 0 ∨ ((r5 : Int) == 0) = false := by
          by_cases h0 : r5 = 0
          · exact .inl h0
          · exact .inr (by simp; omega)
        have HCASE5 := hide hcase5
        clear hcase5
        rcases HCASE5.out with rfl | hr5b
        · go_wp2_with fail
          refine (ask_in HC5 (by omega)).mono ?_
          rintro e w6 ⟨f6, rfl, hf6, HC6, hg6⟩
          have HB6 := HB5.grown hg6 HB5.size (fun k hk => by have := Option.some.inj hk; omega)
          have HO6 := HO5.kept hg6 (HC5.ne HO5 (by decide))
          clear HB5 HO5 HC5 hg6 HCASE5
          go_wp2_with fail
          refine (pick_in 20 HC6 (by omega) (by omega) (by omega)).mono ?_
          rintro e w7 ⟨r7, rfl, hr7, HC7, hg7⟩
          have HB7 := HB6.grown hg7 HB6.size (fun k hk => by have := Option.some.inj hk; omega)
          have HO7 := HO6.kept hg7 (HC6.ne HO6 (by decide))
          clear HB6 HO6 HC6 hg7
          have hcase7 : r7 = 0 ∨ r7 = 1 ∨ (((r7 : Int) == 0) = false ∧ ((r7 : Int) == 1) = false) := by
            by_cases h0 : r7 = 0
            · exact .inl h0
            · by_cases h1 : r7 = 1
              · exact .inr (.inl h1)
              · exact .inr (.inr ⟨by simp; omega, by simp; omega⟩)
          have HCASE7 := hide hcase7
          clear hcase7
          rcases HCASE7.out with rfl | rfl | ⟨hr7a, hr7b⟩
          · clear HCASE7
            go_wp2_with fail
            refine (long_in HC7 (by omega)).mono ?_
            rintro e w8 ⟨s8, rfl, hs8, HC8, hg8⟩
            have HB8 := HB7.grown hg8 HB7.size (fun k hk => by have := Option.some.inj hk; omega)
            have HO8 := HO7.kept hg8 (HC7.ne HO7 (by decide))
            go_wp2_with fail
            go_ret3
            exact ⟨_, roots, _, _, rfl, HO8, HB8, by omega, HR.out, by omega, by omega⟩
          · clear HCASE7
            go_wp2_with fail
            refine (deep_in HC7 (by omega)).mono ?_
            rintro e w8 ⟨s8, rfl, hs8, HC8, hg8⟩
            have HB8 := HB7.grown hg8 HB7.size (fun k hk => by have := Option.some.inj hk; omega)
            have HO8 := HO7.kept hg8 (HC7.ne HO7 (by decide))
            clear HB7 HO7 HC7 hg8
            go_wp2_with fail
            refine (part_in HC8 (by omega)).mono ?_
            rintro e w9 ⟨s9, rfl, hs9, HC9, hg9⟩
            have HB9 := HB8.grown hg9 HB8.size (fun k hk => by have := Option.some.inj hk; omega)
            have HO9 := HO8.kept hg9 (HC8.ne HO8 (by decide))
            have hz : (⟨#[46, 47]⟩ : Str).size = 2 := rfl
            have k1 := fun W : World => run_string_add_sum (P := Tryd.prog) (w := W) ⟨#[46, 47]⟩ s9 (by omega)
            have hzz : ((⟨#[46, 47]⟩ : Str) ++ s9).size ≤ 61 := by rw [ByteArray.size_append]; omega
            clear hz
            go_wp2_with fail
            go_ret3
            exact ⟨_, roots, _, _, rfl, HO9, HB9, by omega, HR.out, by omega, hzz⟩
          · clear HCASE7
            go_wp2_with fail
            refine (ask_in HC7 (by omega)).mono ?_
            rintro e w8 ⟨s8, rfl, hs8, HC8, hg8⟩
            have HB8 := HB7.grown hg8 HB7.size (fun k hk => by have := Option.some.inj hk; omega)
            have HO8 := HO7.kept hg8 (HC7.ne HO7 (by decide))
            go_wp2_with fail
            go_ret3
            exact ⟨_, roots, _, _, rfl, HO8, HB8, by omega, HR.out, by omega, by omega⟩
        · clear HCASE5
          go_wp2_with fail
          refine (pick_in 20 HC5 (by omega) (by omega) (by omega)).mono ?_
          rintro e w7 ⟨r7, rfl, hr7, HC7, hg7⟩
          have HB7 := HB5.grown hg7 HB5.size (fun k hk => by have := Option.some.inj hk; omega)
          have HO7 := HO5.kept hg7 (HC5.ne HO5 (by decide))
          clear HB5 HO5 HC5 hg7
          have hcase7 : r7 = 0 ∨ r7 = 1 ∨ (((r7 : Int) == 0) = false ∧ ((r7 : Int) == 1) = false) := by
            by_cases h0 : r7 = 0
            · exact .inl h0
            · by_cases h1 : r7 = 1
              · exact .inr (.inl h1)
              · exact .inr (.inr ⟨by simp; omega, by simp; omega⟩)
          have HCASE7 := hide hcase7
          clear hcase7
          rcases HCASE7.out with rfl | rfl | ⟨hr7a, hr7b⟩
          · clear HCASE7
            go_wp2_with fail
            refine (long_in HC7 (by omega)).mono ?_
            rintro e w8 ⟨s8, rfl, hs8, HC8, hg8⟩
            have HB8 := HB7.grown hg8 HB7.size (fun k hk => by have := Option.some.inj hk; omega)
            have HO8 := HO7.kept hg8 (HC7.ne HO7 (by decide))
            go_wp2_with fail
            go_ret3
            exact ⟨_, roots, _, _, rfl, HO8, HB8, by omega, HR.out, by omega, by omega⟩
          · clear HCASE7
            go_wp2_with fail
            refine (deep_in HC7 (by omega)).mono ?_
            rintro e w8 ⟨s8, rfl, hs8, HC8, hg8⟩
            have HB8 := HB7.grown hg8 HB7.size (fun k hk => by have := Option.some.inj hk; omega)
            have HO8 := HO7.kept hg8 (HC7.ne HO7 (by decide))
            clear HB7 HO7 HC7 hg8
            go_wp2_with fail
            refine (part_in HC8 (by omega)).mono ?_
            rintro e w9 ⟨s9, rfl, hs9, HC9, hg9⟩
            have HB9 := HB8.grown hg9 HB8.size (fun k hk => by have := Option.some.inj hk; omega)
            have HO9 := HO8.kept hg9 (HC8.ne HO8 (by decide))
            have hz : (⟨#[46, 47]⟩ : Str).size = 2 := rfl
            have k1 := fun W : World => run_string_add_sum (P := Tryd.prog) (w := W) ⟨#[46, 47]⟩ s9 (by omega)
            have hzz : ((⟨#[46, 47]⟩ : Str) ++ s9).size ≤ 61 := by rw [ByteArray.size_append]; omega
            clear hz
            go_wp2_with fail
            go_ret3
            exact ⟨_, roots, _, _, rfl, HO9, HB9, by omega, HR.out, by omega, hzz⟩
          · clear HCASE7
            go_wp2_with fail
            refine (ask_in HC7 (by omega)).mono ?_
            rintro e w8 ⟨s8, rfl, hs8, HC8, hg8⟩
            have HB8 := HB7.grown hg8 HB7.size (fun k hk => by have := Option.some.inj hk; omega)
            have HO8 := HO7.kept hg8 (HC7.ne HO7 (by decide))
            go_wp2_with fail
            go_ret3
            exact ⟨_, roots, _, _, rfl, HO8, HB8, by omega, HR.out, by omega, by omega⟩
      · obtain ⟨m', rfl⟩ : ∃ m', m = m' + 1 := ⟨m - 1, by omega⟩
        go_wp2_with fail
        refine (pick_in 3 HC (by omega) (by omega) (by omega)).mono ?_
        rintro e w4 ⟨r4, rfl, hr4, HC4, hg4⟩
        have HB4 := HB.grown hg4 HB.size (fun k hk => by have := Option.some.inj hk; omega)
        have HO4 := HO.kept hg4 (HC.ne HO (by decide))
        clear HB HO HC hg4
        have hcase4 : r4 = 0 ∨ ((r4 : Int) == 0) = false := by
          by_cases h0 : r4 = 0
          · exact .inl h0
          · exact .inr (by simp; omega)
        have HCASE4 := hide hcase4
        clear hcase4 h0
        rcases HCASE4.out with rfl | hr4b
        · clear HCASE4
          go_wp2_with (at_builtin; refine append_own fStr w.heap.size rfl _ _ 29 9 (.string ByteArray.empty) 16 rfl Tryd.underlying29 info_str rfl (by omega) u6 roots ⟨#[]⟩ #[.string ⟨#[]⟩] rfl rfl rfl HO4 HB4 HB4.size (by omega) ?_; intro v1 w5 hown hbel hgr _)
          have HC5 := HC4.other HO4 (by decide) hgr HCB.out
          go_roundw
          case rel => exact ⟨m', roots ++ [⟨#[]⟩], by first | rfl | go_num, by simp; omega, hown, fun r hr => by
            rcases List.mem_append.1 hr with h | h
            · exact HR.out r h
            · rw [List.mem_singleton.1 h]; decide, hbel, HC5.more (by simp; omega)⟩
          case measure => first | (simp [intOf]; done) | (simp [intOf]; omega)
        · clear HCASE4
          go_wp2_with fail
          refine (ask_in HC4 (by omega)).mono ?_
          rintro e w5 ⟨q, rfl, hq, HC5, hg5⟩
          have HB5 := HB4.grown hg5 HB4.size (fun k hk => by have := Option.some.inj hk; omega)
          have HO5 := HO4.kept hg5 (HC4.ne HO4 (by decide))
          clear HB4 HO4 HC4 hg5
          go_wp2_with (at_builtin; refine append_own fStr w.heap.size rfl _ _ 29 9 (.string ByteArray.empty) 16 rfl Tryd.underlying29 info_str rfl (by omega) u6 roots q #[.string q] rfl rfl rfl HO5 HB5 HB5.size (by omega) ?_; intro v1 w6 hown hbel hgr _)
          have HC6 := HC5.other HO5 (by decide) hgr HCB.out
          go_roundw
          case rel => exact ⟨m', roots ++ [q], by first | rfl | go_num, by simp; omega, hown, fun r hr => by
            rcases List.mem_append.1 hr with h | h
            · exact HR.out r h
            · rw [List.mem_singleton.1 h]; exact hq, hbel, HC6.more (by simp; omega)⟩
          case measure => first | (simp [intOf]; done) | (simp [intOf]; omega)
  · clear HCASE
    go_wp2_with fail
    go_loopw [6, 7] (fun v i wr => ∃ (m : Nat) (roots : List Str), i = .int .i64 m ∧ m + roots.length ≤ 9 ∧ Own fStr wr w.heap.size 9 v roots ∧ Hid (∀ r ∈ roots, r.size ≤ 25) ∧ Below w.heap.size w wr ∧ CurIn wr w.heap.size A n cp code (10 + 20 * roots.length)) (fun _ i _ => (intOf i).toNat)
    case atStart => first | exact ⟨_, [], rfl, by simp; omega, Own.nil _ _ _, fun r hr => by simp at hr, hb2, hc2.more (by simp)⟩ | exact ⟨r1, [], by go_num, by simp; omega, Own.nil _ _ _, fun r hr => by simp at hr, hb2, hc2.more (by simp)⟩
    case round =>
      clear hb2 hc2
      obtain ⟨m, roots, rfl, hm, HO, HR, HB, HC⟩ := hrel
      by_cases h0 : m = 0
      · subst h0
        go_wp2_with fail
        refine (name_in HC (by omega)).mono ?_
        rintro e w4 ⟨f, rfl, hf4, HC4, hg4⟩
        have HB4 := HB.grown hg4 HB.size (fun k hk => by have := Option.some.inj hk; omega)
        have HO4 := HO.kept hg4 (HC.ne HO (by decide))
        clear HB HO HC hg4
        go_wp2_with fail
        refine (pick_in 8 HC4 (by omega) (by omega) (by omega)).mono ?_
        rintro e w5 ⟨r5, rfl, hr5, HC5, hg5⟩
        have HB5 := HB4.grown hg5 HB4.size (fun k hk => by have := Option.some.inj hk; omega)
        have HO5 := HO4.kept hg5 (HC4.ne HO4 (by decide))
        clear HB4 HO4 HC4 hg5
        have hcase5 : r5 = 0 ∨ ((r5 : Int) == 0) = false := by
          by_cases h0 : r5 = 0
          · exact .inl h0
          · exact .inr (by simp; omega)
        have HCASE5 := hide hcase5
        clear hcase5
        rcases HCASE5.out with rfl | hr5b
        · go_wp2_with fail
          refine (ask_in HC5 (by omega)).mono ?_
          rintro e w6 ⟨f6, rfl, hf6, HC6, hg6⟩
          have HB6 := HB5.grown hg6 HB5.size (fun k hk => by have := Option.some.inj hk; omega)
          have HO6 := HO5.kept hg6 (HC5.ne HO5 (by decide))
          clear HB5 HO5 HC5 hg6 HCASE5
          go_wp2_with fail
          refine (pick_in 20 HC6 (by omega) (by omega) (by omega)).mono ?_
          rintro e w7 ⟨r7, rfl, hr7, HC7, hg7⟩
          have HB7 := HB6.grown hg7 HB6.size (fun k hk => by have := Option.some.inj hk; omega)
          have HO7 := HO6.kept hg7 (HC6.ne HO6 (by decide))
          clear HB6 HO6 HC6 hg7
          have hcase7 : r7 = 0 ∨ r7 = 1 ∨ (((r7 : Int) == 0) = false ∧ ((r7 : Int) == 1) = false) := by
            by_cases h0 : r7 = 0
            · exact .inl h0
            · by_cases h1 : r7 = 1
              · exact .inr (.inl h1)
              · exact .inr (.inr ⟨by simp; omega, by simp; omega⟩)
          have HCASE7 := hide hcase7
          clear hcase7
          rcases HCASE7.out with rfl | rfl | ⟨hr7a, hr7b⟩
          · clear HCASE7
            go_wp2_with fail
            refine (long_in HC7 (by omega)).mono ?_
            rintro e w8 ⟨s8, rfl, hs8, HC8, hg8⟩
            have HB8 := HB7.grown hg8 HB7.size (fun k hk => by have := Option.some.inj hk; omega)
            have HO8 := HO7.kept hg8 (HC7.ne HO7 (by decide))
            go_wp2_with fail
            go_ret3
            exact ⟨_, roots, _, _, rfl, HO8, HB8, by omega, HR.out, by omega, by omega⟩
          · clear HCASE7
            go_wp2_with fail
            refine (deep_in HC7 (by omega)).mono ?_
            rintro e w8 ⟨s8, rfl, hs8, HC8, hg8⟩
            have HB8 := HB7.grown hg8 HB7.size (fun k hk => by have := Option.some.inj hk; omega)
            have HO8 := HO7.kept hg8 (HC7.ne HO7 (by decide))
            clear HB7 HO7 HC7 hg8
            go_wp2_with fail
            refine (part_in HC8 (by omega)).mono ?_
            rintro e w9 ⟨s9, rfl, hs9, HC9, hg9⟩
            have HB9 := HB8.grown hg9 HB8.size (fun k hk => by have := Option.some.inj hk; omega)
            have HO9 := HO8.kept hg9 (HC8.ne HO8 (by decide))
            have hz : (⟨#[46, 47]⟩ : Str).size = 2 := rfl
            have k1 := fun W : World => run_string_add_sum (P := Tryd.prog) (w := W) ⟨#[46, 47]⟩ s9 (by omega)
            have hzz : ((⟨#[46, 47]⟩ : Str) ++ s9).size ≤ 61 := by rw [ByteArray.size_append]; omega
            clear hz
            go_wp2_with fail
            go_ret3
            exact ⟨_, roots, _, _, rfl, HO9, HB9, by omega, HR.out, by omega, hzz⟩
          · clear HCASE7
            go_wp2_with fail
            refine (ask_in HC7 (by omega)).mono ?_
            rintro e w8 ⟨s8, rfl, hs8, HC8, hg8⟩
            have HB8 := HB7.grown hg8 HB7.size (fun k hk => by have := Option.some.inj hk; omega)
            have HO8 := HO7.kept hg8 (HC7.ne HO7 (by decide))
            go_wp2_with fail
            go_ret3
            exact ⟨_, roots, _, _, rfl, HO8, HB8, by omega, HR.out, by omega, by omega⟩
        · clear HCASE5
          go_wp2_with fail
          refine (pick_in 20 HC5 (by omega) (by omega) (by omega)).mono ?_
          rintro e w7 ⟨r7, rfl, hr7, HC7, hg7⟩
          have HB7 := HB5.grown hg7 HB5.size (fun k hk => by have := Option.some.inj hk; omega)
          have HO7 := HO5.kept hg7 (HC5.ne HO5 (by decide))
          clear HB5 HO5 HC5 hg7
          have hcase7 : r7 = 0 ∨ r7 = 1 ∨ (((r7 : Int) == 0) = false ∧ ((r7 : Int) == 1) = false) := by
            by_cases h0 : r7 = 0
            · exact .inl h0
            · by_cases h1 : r7 = 1
              · exact .inr (.inl h1)
              · exact .inr (.inr ⟨by simp; omega, by simp; omega⟩)
          have HCASE7 := hide hcase7
          clear hcase7
          rcases HCASE7.out with rfl | rfl | ⟨hr7a, hr7b⟩
          · clear HCASE7
            go_wp2_with fail
            refine (long_in HC7 (by omega)).mono ?_
            rintro e w8 ⟨s8, rfl, hs8, HC8, hg8⟩
            have HB8 := HB7.grown hg8 HB7.size (fun k hk => by have := Option.some.inj hk; omega)
            have HO8 := HO7.kept hg8 (HC7.ne HO7 (by decide))
            go_wp2_with fail
            go_ret3
            exact ⟨_, roots, _, _, rfl, HO8, HB8, by omega, HR.out, by omega, by omega⟩
          · clear HCASE7
            go_wp2_with fail
            refine (deep_in HC7 (by omega)).mono ?_
            rintro e w8 ⟨s8, rfl, hs8, HC8, hg8⟩
            have HB8 := HB7.grown hg8 HB7.size (fun k hk => by have := Option.some.inj hk; omega)
            have HO8 := HO7.kept hg8 (HC7.ne HO7 (by decide))
            clear HB7 HO7 HC7 hg8
            go_wp2_with fail
            refine (part_in HC8 (by omega)).mono ?_
            rintro e w9 ⟨s9, rfl, hs9, HC9, hg9⟩
            have HB9 := HB8.grown hg9 HB8.size (fun k hk => by have := Option.some.inj hk; omega)
            have HO9 := HO8.kept hg9 (HC8.ne HO8 (by decide))
            have hz : (⟨#[46, 47]⟩ : Str).size = 2 := rfl
            have k1 := fun W : World => run_string_add_sum (P := Tryd.prog) (w := W) ⟨#[46, 47]⟩ s9 (by omega)
            have hzz : ((⟨#[46, 47]⟩ : Str) ++ s9).size ≤ 61 := by rw [ByteArray.size_append]; omega
            clear hz
            go_wp2_with fail
            go_ret3
            exact ⟨_, roots, _, _, rfl, HO9, HB9, by omega, HR.out, by omega, hzz⟩
          · clear HCASE7
            go_wp2_with fail
            refine (ask_in HC7 (by omega)).mono ?_
            rintro e w8 ⟨s8, rfl, hs8, HC8, hg8⟩
            have HB8 := HB7.grown hg8 HB7.size (fun k hk => by have := Option.some.inj hk; omega)
            have HO8 := HO7.kept hg8 (HC7.ne HO7 (by decide))
            go_wp2_with fail
            go_ret3
            exact ⟨_, roots, _, _, rfl, HO8, HB8, by omega, HR.out, by omega, by omega⟩
      · obtain ⟨m', rfl⟩ : ∃ m', m = m' + 1 := ⟨m - 1, by omega⟩
        go_wp2_with fail
        refine (pick_in 3 HC (by omega) (by omega) (by omega)).mono ?_
        rintro e w4 ⟨r4, rfl, hr4, HC4, hg4⟩
        have HB4 := HB.grown hg4 HB.size (fun k hk => by have := Option.some.inj hk; omega)
        have HO4 := HO.kept hg4 (HC.ne HO (by decide))
        clear HB HO HC hg4
        have hcase4 : r4 = 0 ∨ ((r4 : Int) == 0) = false := by
          by_cases h0 : r4 = 0
          · exact .inl h0
          · exact .inr (by simp; omega)
        have HCASE4 := hide hcase4
        clear hcase4 h0
        rcases HCASE4.out with rfl | hr4b
        · clear HCASE4
          go_wp2_with (at_builtin; refine append_own fStr w.heap.size rfl _ _ 29 9 (.string ByteArray.empty) 16 rfl Tryd.underlying29 info_str rfl (by omega) u6 roots ⟨#[]⟩ #[.string ⟨#[]⟩] rfl rfl rfl HO4 HB4 HB4.size (by omega) ?_; intro v1 w5 hown hbel hgr _)
          have HC5 := HC4.other HO4 (by decide) hgr HCB.out
          go_roundw
          case rel => exact ⟨m', roots ++ [⟨#[]⟩], by first | rfl | go_num, by simp; omega, hown, fun r hr => by
            rcases List.mem_append.1 hr with h | h
            · exact HR.out r h
            · rw [List.mem_singleton.1 h]; decide, hbel, HC5.more (by simp; omega)⟩
          case measure => first | (simp [intOf]; done) | (simp [intOf]; omega)
        · clear HCASE4
          go_wp2_with fail
          refine (ask_in HC4 (by omega)).mono ?_
          rintro e w5 ⟨q, rfl, hq, HC5, hg5⟩
          have HB5 := HB4.grown hg5 HB4.size (fun k hk => by have := Option.some.inj hk; omega)
          have HO5 := HO4.kept hg5 (HC4.ne HO4 (by decide))
          clear HB4 HO4 HC4 hg5
          go_wp2_with (at_builtin; refine append_own fStr w.heap.size rfl _ _ 29 9 (.string ByteArray.empty) 16 rfl Tryd.underlying29 info_str rfl (by omega) u6 roots q #[.string q] rfl rfl rfl HO5 HB5 HB5.size (by omega) ?_; intro v1 w6 hown hbel hgr _)
          have HC6 := HC5.other HO5 (by decide) hgr HCB.out
          go_roundw
          case rel => exact ⟨m', roots ++ [q], by first | rfl | go_num, by simp; omega, hown, fun r hr => by
            rcases List.mem_append.1 hr with h | h
            · exact HR.out r h
            · rw [List.mem_singleton.1 h]; exact hq, hbel, HC6.more (by simp; omega)⟩
          case measure => first | (simp [intOf]; done) | (simp [intOf]; omega)
end Go.Proofs.YtkhlicmlnjccdaaDoor
