/-
  The reference's drawing: long, deep, ask.
-/
import Derived.Test.YtkhlicmlnjccdaaDoorDraw1
namespace Go.Proofs.YtkhlicmlnjccdaaDoor
open Go.RowKit Mem

def Cur.grow (lim : Nat) : Nat → Str → Cur → Str × Cur
  | 0, s, c => (s, c)
  | f + 1, s, c => if s.size < lim + (c.pick 3).1 then Cur.grow lim f (s ++ ⟨#[98]⟩) (c.pick 3).2 else (s, (c.pick 3).2)
theorem grow_ok (lim : Nat) : ∀ (f : Nat) (s : Str) (c : Cur), c.Bytes → s.size ≤ lim + 2 → c.Ok (Cur.grow lim f s c).2 (2 * f) ∧ (Cur.grow lim f s c).1.size ≤ lim + 2
  | 0, s, c, _, hs => ⟨Cur.Ok.refl c, hs⟩
  | f + 1, s, c, h, hs => by
    have hp := pick_ok c 3 h
    have hl := pick_lt c 3 h (by omega)
    unfold Cur.grow
    split
    · have ih := grow_ok lim f (s ++ ⟨#[98]⟩) (c.pick 3).2 (hp.bytes h) (by rw [ByteArray.size_append]; have h1 : (⟨#[98]⟩ : Str).size = 1 := rfl; omega)
      exact ⟨(hp.then ih.1).more (by omega), ih.2⟩
    · exact ⟨hp.more (by omega), hs⟩
def longStart (x : Nat) : Str := if x = 0 then ⟨#[46, 47, 97]⟩ else ⟨#[97]⟩
def Cur.long (c : Cur) : Str × Cur := Cur.grow 59 (64 - (longStart (c.pick 3).1).size) (longStart (c.pick 3).1) (c.pick 3).2
def Cur.deep (c : Cur) : Str × Cur := ((Cur.grow 56 63 ⟨#[97]⟩ c).1 ++ ⟨#[47, 99]⟩, (Cur.grow 56 63 ⟨#[97]⟩ c).2)
theorem longStart_size (x : Nat) : 1 ≤ (longStart x).size ∧ (longStart x).size ≤ 3 := by
  unfold longStart
  split
  · decide
  · decide
theorem long_ok (c : Cur) (h : c.Bytes) : c.Ok c.long.2 200 ∧ c.long.1.size ≤ 61 := by
  have hp := pick_ok c 3 h
  have hs := longStart_size (c.pick 3).1
  have hg := grow_ok 59 (64 - (longStart (c.pick 3).1).size) (longStart (c.pick 3).1) (c.pick 3).2 (hp.bytes h) (by omega)
  exact ⟨(hp.then hg.1).more (by omega), hg.2⟩
theorem deep_ok (c : Cur) (h : c.Bytes) : c.Ok c.deep.2 200 ∧ c.deep.1.size ≤ 60 := by
  have hg := grow_ok 56 63 ⟨#[97]⟩ c h (by decide)
  refine ⟨hg.1.more (by omega), ?_⟩
  have h2 : (⟨#[47, 99]⟩ : Str).size = 2 := rfl
  have := hg.2
  show ((Cur.grow 56 63 ⟨#[97]⟩ c).1 ++ (⟨#[47, 99]⟩ : Str)).size ≤ 60
  rw [ByteArray.size_append]; omega

set_option maxHeartbeats 400000 in
theorem long_calls (w : World) (g n cp : Nat) (A : Option Addr) (c : Cur) (h : CurAt w g A n cp c) (hp : c.pos ≤ 1073741000) :
    Calls Tryd.prog 66 #[.pointer (some ⟨g, 0, none⟩)] w (RetCur w g A n cp (.string c.long.1) c.long.2) := by
  have hc1 := pick_calls w g n cp 3 A c h (by omega) (by omega)
  have hp1 := pick_ok c 3 h.small
  have hl1 := pick_lt c 3 h.small (by omega)
  have hq : c.long = Cur.grow 59 (64 - (longStart (c.pick 3).1).size) (longStart (c.pick 3).1) (c.pick 3).2 := rfl
  have hpp := hp1.pos
  generalize (c.pick 3).1 = x at hc1 hl1 hq
  generalize (c.pick 3).2 = c1 at hc1 hq hpp
  have HC1 := hide hc1
  by_cases hx : x = 0
  · subst hx
    have hq2 : c.long = Cur.grow 59 61 ⟨#[46, 47, 97]⟩ c1 := hq
    have HQ := hide hq2
    have hst : 61 + (⟨#[46, 47, 97]⟩ : Str).size = 64 := rfl
    have hst3 : (⟨#[46, 47, 97]⟩ : Str).size ≤ 61 := by decide
    clear hc1 hq hq2 hp1 hl1
    go_enter Tryd.func66, Tryd.ntmps66
    go_wp2_with fail
    refine (unhide HC1).mono ?_
    rintro e w1 ⟨rfl, t⟩
    go_wp2_with fail
    go_loopw [3] (fun s wr => ∃ (f : Nat) (q : Str) (cr : Cur), s = .string q ∧ f + q.size = 64 ∧ q.size ≤ 61 ∧ cr.pos + 2 * f ≤ c.pos + 130 ∧ Hid (c.long = Cur.grow 59 f q cr) ∧ CurTo w wr g A n cp cr) (fun s _ => 64 - (match s with | .string q => q.size | _ => 0))
    case atStart => exact ⟨_, _, _, rfl, by assumption, by omega, by omega, HQ, t⟩
    case round =>
      clear t HQ
      obtain ⟨f, q, cr, rfl, hf, hqs, hcr, HN, t⟩ := hrel
      obtain ⟨f', rfl⟩ : ∃ f', f = f' + 1 := ⟨f - 1, by omega⟩
      have hc3 := pick_calls wr g n cp 3 A cr t.1 (by omega) (by omega)
      have hp3 := pick_ok cr 3 t.1.small
      have hl3 := pick_lt cr 3 t.1.small (by omega)
      have hn : c.long = if q.size < 59 + (cr.pick 3).1 then Cur.grow 59 f' (q ++ ⟨#[98]⟩) (cr.pick 3).2 else (q, (cr.pick 3).2) := HN.out
      have hpo := hp3.pos
      generalize (cr.pick 3).1 = x3 at hc3 hn hl3
      generalize (cr.pick 3).2 = c3 at hc3 hn hpo
      have HC3 := hide hc3
      have hf2 : f' + 1 + q.size = 64 := hf
      have HF := hide hf2
      have hfb : f' ≤ 64 := by omega
      by_cases hlt : q.size < 59 + x3
      · rw [if_pos hlt] at hn
        have HN2 := hide hn
        have h98 : (⟨#[98]⟩ : Str).size = 1 := rfl
        have hsz : (q ++ ⟨#[98]⟩).size = q.size + 1 := by rw [ByteArray.size_append, h98]
        have HSZ := hide hsz
        have k1 := fun W : World => run_string_add_sum (P := Tryd.prog) (w := W) q ⟨#[98]⟩ (by omega)
        clear hc3 hn h98 hsz hp3 HN hf hf2
        go_wp2_with fail
        refine (unhide HC3).mono ?_
        rintro e w4 ⟨rfl, t4⟩
        go_wp2_with fail
        go_roundw
        case rel => exact ⟨f', _, c3, rfl, by have := HF.out; have := HSZ.out; omega, by have := HSZ.out; omega, by omega, HN2, t.then t4⟩
        case measure =>
          have h1 := HF.out
          have h2 := HSZ.out
          show 64 - (q ++ ⟨#[98]⟩).size < 64 - q.size
          omega
      · rw [if_neg hlt] at hn
        have HN2 := hide hn
        clear hc3 hn hp3 HN hf hf2
        go_wp2_with fail
        refine (unhide HC3).mono ?_
        rintro e w4 ⟨rfl, t4⟩
        go_wp2_with fail
        go_ret
        rw [HN2.out]
        exact ⟨rfl, t.then t4⟩
  · have hq2 : c.long = Cur.grow 59 63 ⟨#[97]⟩ c1 := by rw [hq]; unfold longStart; rw [if_neg hx]; rfl
    have HQ := hide hq2
    have hst : 63 + (⟨#[97]⟩ : Str).size = 64 := rfl
    have hst3 : (⟨#[97]⟩ : Str).size ≤ 61 := by decide
    have hxb : ((x : Int) == 0) = false := by simp; omega
    clear hc1 hq hq2 hp1 hl1 hx
    go_enter Tryd.func66, Tryd.ntmps66
    go_wp2_with fail
    refine (unhide HC1).mono ?_
    rintro e w1 ⟨rfl, t⟩
    go_wp2_with fail
    go_loopw [3] (fun s wr => ∃ (f : Nat) (q : Str) (cr : Cur), s = .string q ∧ f + q.size = 64 ∧ q.size ≤ 61 ∧ cr.pos + 2 * f ≤ c.pos + 130 ∧ Hid (c.long = Cur.grow 59 f q cr) ∧ CurTo w wr g A n cp cr) (fun s _ => 64 - (match s with | .string q => q.size | _ => 0))
    case atStart => exact ⟨_, _, _, rfl, by assumption, by omega, by omega, HQ, t⟩
    case round =>
      clear t HQ
      obtain ⟨f, q, cr, rfl, hf, hqs, hcr, HN, t⟩ := hrel
      obtain ⟨f', rfl⟩ : ∃ f', f = f' + 1 := ⟨f - 1, by omega⟩
      have hc3 := pick_calls wr g n cp 3 A cr t.1 (by omega) (by omega)
      have hp3 := pick_ok cr 3 t.1.small
      have hl3 := pick_lt cr 3 t.1.small (by omega)
      have hn : c.long = if q.size < 59 + (cr.pick 3).1 then Cur.grow 59 f' (q ++ ⟨#[98]⟩) (cr.pick 3).2 else (q, (cr.pick 3).2) := HN.out
      have hpo := hp3.pos
      generalize (cr.pick 3).1 = x3 at hc3 hn hl3
      generalize (cr.pick 3).2 = c3 at hc3 hn hpo
      have HC3 := hide hc3
      have hf2 : f' + 1 + q.size = 64 := hf
      have HF := hide hf2
      have hfb : f' ≤ 64 := by omega
      by_cases hlt : q.size < 59 + x3
      · rw [if_pos hlt] at hn
        have HN2 := hide hn
        have h98 : (⟨#[98]⟩ : Str).size = 1 := rfl
        have hsz : (q ++ ⟨#[98]⟩).size = q.size + 1 := by rw [ByteArray.size_append, h98]
        have HSZ := hide hsz
        have k1 := fun W : World => run_string_add_sum (P := Tryd.prog) (w := W) q ⟨#[98]⟩ (by omega)
        clear hc3 hn h98 hsz hp3 HN hf hf2
        go_wp2_with fail
        refine (unhide HC3).mono ?_
        rintro e w4 ⟨rfl, t4⟩
        go_wp2_with fail
        go_roundw
        case rel => exact ⟨f', _, c3, rfl, by have := HF.out; have := HSZ.out; omega, by have := HSZ.out; omega, by omega, HN2, t.then t4⟩
        case measure =>
          have h1 := HF.out
          have h2 := HSZ.out
          show 64 - (q ++ ⟨#[98]⟩).size < 64 - q.size
          omega
      · rw [if_neg hlt] at hn
        have HN2 := hide hn
        clear hc3 hn hp3 HN hf hf2
        go_wp2_with fail
        refine (unhide HC3).mono ?_
        rintro e w4 ⟨rfl, t4⟩
        go_wp2_with fail
        go_ret
        rw [HN2.out]
        exact ⟨rfl, t.then t4⟩
set_option maxHeartbeats 400000 in
theorem deep_calls (w : World) (g n cp : Nat) (A : Option Addr) (c : Cur) (h : CurAt w g A n cp c) (hp : c.pos ≤ 1073741000) :
    Calls Tryd.prog 69 #[.pointer (some ⟨g, 0, none⟩)] w (RetCur w g A n cp (.string c.deep.1) c.deep.2) := by
  have hq : c.deep = ((Cur.grow 56 63 ⟨#[97]⟩ c).1 ++ ⟨#[47, 99]⟩, (Cur.grow 56 63 ⟨#[97]⟩ c).2) := rfl
  have HD := hide hq
  have hst : 63 + (⟨#[97]⟩ : Str).size = 64 := rfl
  have hst3 : (⟨#[97]⟩ : Str).size ≤ 58 := by decide
  have t := CurTo.refl h
  clear hq h
  go_enter Tryd.func69, Tryd.ntmps69
  go_wp2_with fail
  go_loopw [3] (fun s wr => ∃ (f : Nat) (q : Str) (cr : Cur), s = .string q ∧ f + q.size = 64 ∧ q.size ≤ 58 ∧ cr.pos + 2 * f ≤ c.pos + 130 ∧ Hid (Cur.grow 56 63 ⟨#[97]⟩ c = Cur.grow 56 f q cr) ∧ CurTo w wr g A n cp cr) (fun s _ => 64 - (match s with | .string q => q.size | _ => 0))
  case atStart => exact ⟨_, _, _, rfl, by assumption, by omega, by omega, rfl, t⟩
  case round =>
    clear t 
    obtain ⟨f, q, cr, rfl, hf, hqs, hcr, HN, t⟩ := hrel
    obtain ⟨f', rfl⟩ : ∃ f', f = f' + 1 := ⟨f - 1, by omega⟩
    have hc3 := pick_calls wr g n cp 3 A cr t.1 (by omega) (by omega)
    have hp3 := pick_ok cr 3 t.1.small
    have hl3 := pick_lt cr 3 t.1.small (by omega)
    have hn : Cur.grow 56 63 ⟨#[97]⟩ c = if q.size < 56 + (cr.pick 3).1 then Cur.grow 56 f' (q ++ ⟨#[98]⟩) (cr.pick 3).2 else (q, (cr.pick 3).2) := HN.out
    have hpo := hp3.pos
    generalize (cr.pick 3).1 = x3 at hc3 hn hl3
    generalize (cr.pick 3).2 = c3 at hc3 hn hpo
    have HC3 := hide hc3
    have hf2 : f' + 1 + q.size = 64 := hf
    have HF := hide hf2
    have hfb : f' ≤ 64 := by omega
    by_cases hlt : q.size < 56 + x3
    · rw [if_pos hlt] at hn
      have HN2 := hide hn
      have h98 : (⟨#[98]⟩ : Str).size = 1 := rfl
      have hsz : (q ++ ⟨#[98]⟩).size = q.size + 1 := by rw [ByteArray.size_append, h98]
      have HSZ := hide hsz
      have k1 := fun W : World => run_string_add_sum (P := Tryd.prog) (w := W) q ⟨#[98]⟩ (by omega)
      clear hc3 hn h98 hsz hp3 HN hf hf2
      go_wp2_with fail
      refine (unhide HC3).mono ?_
      rintro e w4 ⟨rfl, t4⟩
      go_wp2_with fail
      go_roundw
      case rel => exact ⟨f', _, c3, rfl, by have := HF.out; have := HSZ.out; omega, by have := HSZ.out; omega, by omega, HN2, t.then t4⟩
      case measure =>
        have h1 := HF.out
        have h2 := HSZ.out
        show 64 - (q ++ ⟨#[98]⟩).size < 64 - q.size
        omega
    · rw [if_neg hlt] at hn
      have HN2 := hide hn
      have k1 := fun W : World => run_string_add_sum (P := Tryd.prog) (w := W) q ⟨#[47, 99]⟩ (by have h2 : (⟨#[47, 99]⟩ : Str).size = 2 := rfl; omega)
      clear hc3 hn hp3 HN hf hf2
      go_wp2_with fail
      refine (unhide HC3).mono ?_
      rintro e w4 ⟨rfl, t4⟩
      go_wp2_with fail
      go_ret
      rw [HD.out, HN2.out]
      exact ⟨rfl, t.then t4⟩
end Go.Proofs.YtkhlicmlnjccdaaDoor
