/-
A law's argument that is a slice of bytes, opened.
The reference's drawing: part, name, long, deep.
The reference's drawing: long, deep, ask.
-/
import Derived.Test.YtkhlicmlnjccdaaDoorKd3
import Derived.Test.YtkhlicmlnjccdaaDoorKd4
import Derived.Test.YtkhlicmlnjccdaaDoorKd1
namespace Go.Proofs.YtkhlicmlnjccdaaDoor
open Go.ChangeShapes Go.WideShapes Go.ChangeAt Go.RowKit
open Mem in
/-- an argument that is a slice of bytes -/
theorem bytes_open {H : Type} {enc : TypeId × Value → H} {W : World} {d : DataW H} {p : List MemPlace} {a : Option Addr} {len cap : Nat} {spare : Nat → Bool} (h : DataW.Trod enc Tryd.prog W 0 spare true 35 (.slice a len cap) d p) :
    ∃ zs : List Int, Sl kU8 W (fun _ => True) a zs ∧ zs.length = len ∧ (∀ z ∈ zs, 0 ≤ z ∧ z ≤ 255) ∧ len ≤ maxLen := by
  obtain ⟨fuel, hf⟩ := h
  rcases open_ints Tryd.underlying35 Tryd.underlying5 (by kernel_rfl) hf with ⟨hcs, hx⟩ | ⟨a', len', cap', ss, hcs, _, hl, hm, hlen, hx, hcell, hws⟩
  · have hcs' : [Value.slice a len cap] = [.slice none 0 0] := hcs
    injection hcs' with hcs' _
    injection hcs' with h1 h2 h3
    subst h1 h2 h3
    exact ⟨[], Sl.nil, rfl, fun s hs => by simp at hs, Nat.zero_le _⟩
  · have hcs' : [Value.slice a len cap] = [.slice (some a') len' cap'] := hcs
    injection hcs' with hcs' _
    injection hcs' with h1 h2 h3
    subst h1 h2 h3
    have hle : len ≤ ss.length := by rw [hlen]; split <;> omega
    refine ⟨ss.take len, fun hne => ⟨a', rfl, fun i x hi => ?_⟩, by rw [List.length_take]; omega, fun s hs => ?_, by omega⟩
    · have hil : i < len := by
        rcases Nat.lt_or_ge i len with h | h
        · exact h
        · rw [List.getElem?_eq_none (by rw [List.length_take]; omega)] at hi; simp at hi
      have hc := hcell i (by omega)
      rw [List.getElem?_take, if_pos hil] at hi
      refine ⟨trivial, ?_⟩
      rw [show i * kU8.size = i from Nat.mul_one i, hc, List.getD_eq_getElem?_getD, hi]; rfl
    · have := hws s (List.mem_of_mem_take hs)
      simp [Lit.wf] at this
      have h1 : IntKind.u8.min = 0 := by decide
      have h2 : IntKind.u8.max = 255 := by decide
      omega
end Go.Proofs.YtkhlicmlnjccdaaDoor

namespace Go.Proofs.YtkhlicmlnjccdaaDoor
open Go.RowKit Mem

def partList : List Str := [⟨#[97]⟩, ⟨#[98]⟩, ⟨#[99]⟩, ⟨#[108, 105, 98]⟩, ⟨#[120, 45, 49]⟩, ⟨#[95]⟩]
def Cur.part (c : Cur) : Str × Cur := (partList.getD (c.pick 6).1 ⟨#[]⟩, (c.pick 6).2)
/-- what a drawing may do to its cursor -/
structure Cur.Ok (c c' : Cur) (k : Nat) : Prop where
  pos : c'.pos ≤ c.pos + k
  code : c'.code = c.code
theorem Cur.Ok.refl (c : Cur) : c.Ok c 0 := ⟨Nat.le_refl _, rfl⟩
theorem Cur.Ok.then {a b c : Cur} {k m : Nat} (h : a.Ok b k) (h2 : b.Ok c m) : a.Ok c (k + m) := ⟨by have := h.pos; have := h2.pos; omega, h2.code.trans h.code⟩
theorem Cur.Ok.more {a b : Cur} {k m : Nat} (h : a.Ok b k) (hm : k ≤ m) : a.Ok b m := ⟨by have := h.pos; omega, h.code⟩
def Cur.Bytes (c : Cur) : Prop := ∀ x ∈ c.code, 0 ≤ x ∧ x ≤ 255
theorem Cur.Ok.bytes {a b : Cur} {k : Nat} (h : a.Ok b k) (hb : a.Bytes) : b.Bytes := by unfold Cur.Bytes; rw [h.code]; exact hb
theorem pick_ok (c : Cur) (m : Nat) (h : c.Bytes) : c.Ok (c.pick m).2 2 := ⟨(pick_small c m h).2.1, (pick_small c m h).2.2⟩
theorem pick_lt (c : Cur) (m : Nat) (h : c.Bytes) (hm : 0 < m) : (c.pick m).1 < m := (pick_small c m h).1 hm
theorem partList_size (i : Nat) : (partList.getD i ⟨#[]⟩).size ≤ 3 := by
  rcases i with _ | _ | _ | _ | _ | _ | i
  all_goals first | decide | (show (⟨#[]⟩ : Str).size ≤ 3; decide)
theorem part_ok (c : Cur) (h : c.Bytes) : c.Ok c.part.2 2 ∧ c.part.1.size ≤ 3 := ⟨pick_ok c 6 h, partList_size _⟩

set_option maxHeartbeats 400000 in
theorem part_calls (w : World) (g n cp : Nat) (A : Option Addr) (c : Cur) (h : CurAt w g A n cp c) (hp : c.pos ≤ 1073741800) :
    Calls Tryd.prog 70 #[.pointer (some ⟨g, 0, none⟩)] w (RetCur w g A n cp (.string c.part.1) c.part.2) := by
  have hb0 : Below w.heap.size w (w.alloc (Obj.cells (partList.map Value.string).toArray 9)) := by (repeat (first | with_reducible exact Below.refl _ _ | with_reducible assumption | with_reducible refine Below.alloc ?_ (by first | exact Nat.le_refl _ | exact Below.size (by assumption) | exact Nat.le_trans (Below.size (by assumption)) (by simp; done) | (simp; done) | (simp; omega) | omega) _ | with_reducible refine below_drewN ?_ _ | with_reducible refine Below.drew ?_ | with_reducible refine Below.setCell ?_ (by first | exact Nat.le_refl _ | (simp; done) | (simp; omega) | omega) _))
  have hc := pick_calls _ g n cp 6 A c (h.below hb0) hp (by omega)
  have hlt := pick_lt c 6 h.small (by omega)
  have hgl := h.lt
  have hq : c.part = (partList.getD (c.pick 6).1 ⟨#[]⟩, (c.pick 6).2) := rfl
  rw [hq]
  generalize (c.pick 6).1 = r at hc hlt ⊢
  generalize (c.pick 6).2 = c1 at hc ⊢
  generalize hpp : partList.getD r ⟨#[]⟩ = p
  have HP := hide hpp
  have HC := hide hc
  clear hc hq hpp
  go_enter Tryd.func70, Tryd.ntmps70
  go_wp2_with fail
  refine (unhide HC).mono ?_
  rintro e w1 ⟨rfl, hc1⟩
  have hblk := (hc1.2.block w.heap.size (by simp) (fun e => by have := Option.some.inj e; omega)).trans (heap_alloc_new w _)
  have hcell : w1.cell? ⟨w.heap.size, r, none⟩ = some (.string p) := by
    rw [blk_cell hblk r, ← HP.out]
    rcases r with _ | _ | _ | _ | _ | _ | r
    all_goals first | rfl | (exfalso; omega)
  have hto : CurTo w w1 g A n cp c1 := ⟨hc1.1, World.grownBy.trans (World.grownBy_alloc w _ _) hc1.2⟩
  clear hblk hb0 hc1 HC
  go_wp2_with fail
  go_ret
  exact ⟨rfl, hto⟩

def Cur.nameLoop : Nat → Str → Cur → Str × Cur
  | 0, s, c => (s, c)
  | k + 1, s, c => Cur.nameLoop k (s ++ (⟨#[47]⟩ ++ c.part.1)) c.part.2
def Cur.name (c : Cur) : Str × Cur := Cur.nameLoop (c.part.2.pick 3).1 c.part.1 (c.part.2.pick 3).2
theorem nameLoop_ok : ∀ (k : Nat) (s : Str) (c : Cur), c.Bytes → c.Ok (Cur.nameLoop k s c).2 (2 * k) ∧ (Cur.nameLoop k s c).1.size ≤ s.size + 4 * k
  | 0, s, c, _ => ⟨Cur.Ok.refl c, Nat.le_refl _⟩
  | k + 1, s, c, h => by
    have hp := part_ok c h
    have ih := nameLoop_ok k (s ++ (⟨#[47]⟩ ++ c.part.1)) c.part.2 (hp.1.bytes h)
    have h47 : (⟨#[47]⟩ : Str).size = 1 := rfl
    rw [ByteArray.size_append, ByteArray.size_append, h47] at ih
    exact ⟨(hp.1.then ih.1).more (by omega), by have := ih.2; have := hp.2; unfold Cur.nameLoop; omega⟩
theorem name_ok (c : Cur) (h : c.Bytes) : c.Ok c.name.2 8 ∧ c.name.1.size ≤ 11 := by
  have hp := part_ok c h
  have h2 := pick_ok c.part.2 3 (hp.1.bytes h)
  have hl := pick_lt c.part.2 3 (hp.1.bytes h) (by omega)
  have h3 := nameLoop_ok (c.part.2.pick 3).1 c.part.1 (c.part.2.pick 3).2 (h2.bytes (hp.1.bytes h))
  exact ⟨((hp.1.then h2).then h3.1).more (by omega), by have := h3.2; have := hp.2; unfold Cur.name; omega⟩

set_option maxHeartbeats 400000 in
theorem name_calls (w : World) (g n cp : Nat) (A : Option Addr) (c : Cur) (h : CurAt w g A n cp c) (hp : c.pos ≤ 1073741000) :
    Calls Tryd.prog 68 #[.pointer (some ⟨g, 0, none⟩)] w (RetCur w g A n cp (.string c.name.1) c.name.2) := by
  have hc1 := part_calls w g n cp A c h (by omega)
  have hp1 := part_ok c h.small
  have hc2 := fun (W : World) (h : CurAt W g A n cp c.part.2) => pick_calls W g n cp 3 A c.part.2 h (by have := hp1.1.pos; omega) (by omega)
  have hp2 := pick_ok c.part.2 3 (hp1.1.bytes h.small)
  have hl2 := pick_lt c.part.2 3 (hp1.1.bytes h.small) (by omega)
  have hq : c.name = Cur.nameLoop (c.part.2.pick 3).1 c.part.1 (c.part.2.pick 3).2 := rfl
  have hpp := (hp1.1.then hp2).pos
  have hs1 := hp1.2
  generalize (c.part.2.pick 3).1 = k at hc2 hl2 hq
  generalize (c.part.2.pick 3).2 = c2 at hc2 hq hpp
  generalize c.part.1 = p at hc1 hq hs1
  generalize c.part.2 = c1 at hc1 hc2
  have HC1 := hide hc1
  have HC2 := hide hc2
  have HQ := hide hq
  clear hc1 hc2 hq hp1 hp2
  go_enter Tryd.func68, Tryd.ntmps68
  go_wp2_with fail
  refine (unhide HC1).mono ?_
  rintro e w1 ⟨rfl, t1⟩
  go_wp2_with fail
  refine (HC2.out w1 t1.1).mono ?_
  rintro e w2 ⟨rfl, t2⟩
  have t := t1.then t2
  clear t1 t2 HC1 HC2
  go_wp2_with fail
  go_loopw [3, 4] (fun s i wr => ∃ (m : Nat) (q : Str) (cr : Cur), i = .int .i64 m ∧ s = .string q ∧ m ≤ k ∧ cr.pos + 2 * m ≤ c.pos + 8 ∧ q.size + 4 * m ≤ 11 ∧ Hid (c.name = Cur.nameLoop m q cr) ∧ CurTo w wr g A n cp cr) (fun _ i _ => (intOf i).toNat)
  case atStart => exact ⟨k, p, c2, rfl, rfl, Nat.le_refl _, by omega, by omega, HQ, t⟩
  case round =>
    clear t HQ hpp hs1
    obtain ⟨m, q, cr, rfl, rfl, hm, hcr, hqs, HN, t⟩ := hrel
    by_cases h0 : m = 0
    · subst h0
      go_wp2_with fail
      go_ret
      have hn : c.name = (q, cr) := HN.out
      rw [hn]
      exact ⟨rfl, t⟩
    · obtain ⟨m', rfl⟩ : ∃ m', m = m' + 1 := ⟨m - 1, by omega⟩
      have hc3 := part_calls wr g n cp A cr t.1 (by omega)
      have hp3 := part_ok cr t.1.small
      have hn : c.name = Cur.nameLoop m' (q ++ (⟨#[47]⟩ ++ cr.part.1)) cr.part.2 := HN.out
      have hpo := hp3.1.pos
      have hps := hp3.2
      generalize cr.part.1 = p3 at hc3 hn hps
      generalize cr.part.2 = c3 at hc3 hn hpo
      have HC3 := hide hc3
      have HN2 := hide hn
      have h47 : (⟨#[47]⟩ : Str).size = 1 := rfl
      have hss : (q ++ (⟨#[47]⟩ ++ p3)).size = q.size + (1 + p3.size) := by rw [ByteArray.size_append, ByteArray.size_append, h47]
      have hsb : (q ++ (⟨#[47]⟩ ++ p3)).size + 4 * m' ≤ 11 := by omega
      have k1 := fun W : World => run_string_add_sum (P := Tryd.prog) (w := W) ⟨#[47]⟩ p3 (by omega)
      have k2 := fun W : World => run_string_add_sum (P := Tryd.prog) (w := W) q (⟨#[47]⟩ ++ p3) (by rw [ByteArray.size_append]; omega)
      clear hc3 hn h47 hss hp3 h0 HN
      go_wp2_with fail
      refine (unhide HC3).mono ?_
      rintro e w4 ⟨rfl, t4⟩
      go_wp2_with fail
      go_roundw
      case rel => exact ⟨m', _, c3, rfl, rfl, by omega, by omega, hsb, HN2, t.then t4⟩
      case measure => first | (simp [intOf]; done) | (simp [intOf]; omega)
end Go.Proofs.YtkhlicmlnjccdaaDoor

namespace Go.Proofs.YtkhlicmlnjccdaaDoor
open Go.RowKit Mem

def Cur.grow (lim : Nat) : Nat → Str → Cur → Str × Cur
  | 0, s, c => (s, c)
  | f + 1, s, c => if s.size < lim + (c.pick 3).1 then Cur.grow lim f (s ++ ⟨#[98]⟩) (c.pick 3).2 else (s, (c.pick 3).2)
theorem grow_ok (lim : Nat) : ∀ (f : Nat) (s : Str) (c : Cur), c.Bytes → s.size ≤ lim + 2 → c.Ok (Cur.grow lim f s c).2 (2 * f) ∧ (Cur.grow lim f s c).1.size ≤ lim + 2
  | 0, s, c, _, hs => ⟨Cur.Ok.refl c, hs⟩
  | f + 1, s, c, h, hs => by
    have hp := pick_ok c 3 h
    have hl := pick_lt c 3 h (by omega)
    unfold Cur.grow
    split
    · have ih := grow_ok lim f (s ++ ⟨#[98]⟩) (c.pick 3).2 (hp.bytes h) (by rw [ByteArray.size_append]; have h1 : (⟨#[98]⟩ : Str).size = 1 := rfl; omega)
      exact ⟨(hp.then ih.1).more (by omega), ih.2⟩
    · exact ⟨hp.more (by omega), hs⟩
def longStart (x : Nat) : Str := if x = 0 then ⟨#[46, 47, 97]⟩ else ⟨#[97]⟩
def Cur.long (c : Cur) : Str × Cur := Cur.grow 59 (64 - (longStart (c.pick 3).1).size) (longStart (c.pick 3).1) (c.pick 3).2
def Cur.deep (c : Cur) : Str × Cur := ((Cur.grow 56 63 ⟨#[97]⟩ c).1 ++ ⟨#[47, 99]⟩, (Cur.grow 56 63 ⟨#[97]⟩ c).2)
theorem longStart_size (x : Nat) : 1 ≤ (longStart x).size ∧ (longStart x).size ≤ 3 := by
  unfold longStart
  split
  · decide
  · decide
theorem long_ok (c : Cur) (h : c.Bytes) : c.Ok c.long.2 200 ∧ c.long.1.size ≤ 61 := by
  have hp := pick_ok c 3 h
  have hs := longStart_size (c.pick 3).1
  have hg := grow_ok 59 (64 - (longStart (c.pick 3).1).size) (longStart (c.pick 3).1) (c.pick 3).2 (hp.bytes h) (by omega)
  exact ⟨(hp.then hg.1).more (by omega), hg.2⟩
theorem deep_ok (c : Cur) (h : c.Bytes) : c.Ok c.deep.2 200 ∧ c.deep.1.size ≤ 60 := by
  have hg := grow_ok 56 63 ⟨#[97]⟩ c h (by decide)
  refine ⟨hg.1.more (by omega), ?_⟩
  have h2 : (⟨#[47, 99]⟩ : Str).size = 2 := rfl
  have := hg.2
  show ((Cur.grow 56 63 ⟨#[97]⟩ c).1 ++ (⟨#[47, 99]⟩ : Str)).size ≤ 60
  rw [ByteArray.size_append]; omega

set_option maxHeartbeats 400000 in
theorem long_calls (w : World) (g n cp : Nat) (A : Option Addr) (c : Cur) (h : CurAt w g A n cp c) (hp : c.pos ≤ 1073741000) :
    Calls Tryd.prog 66 #[.pointer (some ⟨g, 0, none⟩)] w (RetCur w g A n cp (.string c.long.1) c.long.2) := by
  have hc1 := pick_calls w g n cp 3 A c h (by omega) (by omega)
  have hp1 := pick_ok c 3 h.small
  have hl1 := pick_lt c 3 h.small (by omega)
  have hq : c.long = Cur.grow 59 (64 - (longStart (c.pick 3).1).size) (longStart (c.pick 3).1) (c.pick 3).2 := rfl
  have hpp := hp1.pos
  generalize (c.pick 3).1 = x at hc1 hl1 hq
  generalize (c.pick 3).2 = c1 at hc1 hq hpp
  have HC1 := hide hc1
  by_cases hx : x = 0
  · subst hx
    have hq2 : c.long = Cur.grow 59 61 ⟨#[46, 47, 97]⟩ c1 := hq
    have HQ := hide hq2
    have hst : 61 + (⟨#[46, 47, 97]⟩ : Str).size = 64 := rfl
    have hst3 : (⟨#[46, 47, 97]⟩ : Str).size ≤ 61 := by decide
    clear hc1 hq hq2 hp1 hl1
    go_enter Tryd.func66, Tryd.ntmps66
    go_wp2_with fail
    refine (unhide HC1).mono ?_
    rintro e w1 ⟨rfl, t⟩
    go_wp2_with fail
    go_loopw [3] (fun s wr => ∃ (f : Nat) (q : Str) (cr : Cur), s = .string q ∧ f + q.size = 64 ∧ q.size ≤ 61 ∧ cr.pos + 2 * f ≤ c.pos + 130 ∧ Hid (c.long = Cur.grow 59 f q cr) ∧ CurTo w wr g A n cp cr) (fun s _ => 64 - (match s with | .string q => q.size | _ => 0))
    case atStart => exact ⟨_, _, _, rfl, by assumption, by omega, by omega, HQ, t⟩
    case round =>
      clear t HQ
      obtain ⟨f, q, cr, rfl, hf, hqs, hcr, HN, t⟩ := hrel
      obtain ⟨f', rfl⟩ : ∃ f', f = f' + 1 := ⟨f - 1, by omega⟩
      have hc3 := pick_calls wr g n cp 3 A cr t.1 (by omega) (by omega)
      have hp3 := pick_ok cr 3 t.1.small
      have hl3 := pick_lt cr 3 t.1.small (by omega)
      have hn : c.long = if q.size < 59 + (cr.pick 3).1 then Cur.grow 59 f' (q ++ ⟨#[98]⟩) (cr.pick 3).2 else (q, (cr.pick 3).2) := HN.out
      have hpo := hp3.pos
      generalize (cr.pick 3).1 = x3 at hc3 hn hl3
      generalize (cr.pick 3).2 = c3 at hc3 hn hpo
      have HC3 := hide hc3
      have hf2 : f' + 1 + q.size = 64 := hf
      have HF := hide hf2
      have hfb : f' ≤ 64 := by omega
      by_cases hlt : q.size < 59 + x3
      · rw [if_pos hlt] at hn
        have HN2 := hide hn
        have h98 : (⟨#[98]⟩ : Str).size = 1 := rfl
        have hsz : (q ++ ⟨#[98]⟩).size = q.size + 1 := by rw [ByteArray.size_append, h98]
        have HSZ := hide hsz
        have k1 := fun W : World => run_string_add_sum (P := Tryd.prog) (w := W) q ⟨#[98]⟩ (by omega)
        clear hc3 hn h98 hsz hp3 HN hf hf2
        go_wp2_with fail
        refine (unhide HC3).mono ?_
        rintro e w4 ⟨rfl, t4⟩
        go_wp2_with fail
        go_roundw
        case rel => exact ⟨f', _, c3, rfl, by have := HF.out; have := HSZ.out; omega, by have := HSZ.out; omega, by omega, HN2, t.then t4⟩
        case measure =>
          have h1 := HF.out
          have h2 := HSZ.out
          show 64 - (q ++ ⟨#[98]⟩).size < 64 - q.size
          omega
      · rw [if_neg hlt] at hn
        have HN2 := hide hn
        clear hc3 hn hp3 HN hf hf2
        go_wp2_with fail
        refine (unhide HC3).mono ?_
        rintro e w4 ⟨rfl, t4⟩
        go_wp2_with fail
        go_ret
        rw [HN2.out]
        exact ⟨rfl, t.then t4⟩
  · have hq2 : c.long = Cur.grow 59 63 ⟨#[97]⟩ c1 := by rw [hq]; unfold longStart; rw [if_neg hx]; rfl
    have HQ := hide hq2
    have hst : 63 + (⟨#[97]⟩ : Str).size = 64 := rfl
    have hst3 : (⟨#[97]⟩ : Str).size ≤ 61 := by decide
    have hxb : ((x : Int) == 0) = false := by simp; omega
    clear hc1 hq hq2 hp1 hl1 hx
    go_enter Tryd.func66, Tryd.ntmps66
    go_wp2_with fail
    refine (unhide HC1).mono ?_
    rintro e w1 ⟨rfl, t⟩
    go_wp2_with fail
    go_loopw [3] (fun s wr => ∃ (f : Nat) (q : Str) (cr : Cur), s = .string q ∧ f + q.size = 64 ∧ q.size ≤ 61 ∧ cr.pos + 2 * f ≤ c.pos + 130 ∧ Hid (c.long = Cur.grow 59 f q cr) ∧ CurTo w wr g A n cp cr) (fun s _ => 64 - (match s with | .string q => q.size | _ => 0))
    case atStart => exact ⟨_, _, _, rfl, by assumption, by omega, by omega, HQ, t⟩
    case round =>
      clear t HQ
      obtain ⟨f, q, cr, rfl, hf, hqs, hcr, HN, t⟩ := hrel
      obtain ⟨f', rfl⟩ : ∃ f', f = f' + 1 := ⟨f - 1, by omega⟩
      have hc3 := pick_calls wr g n cp 3 A cr t.1 (by omega) (by omega)
      have hp3 := pick_ok cr 3 t.1.small
      have hl3 := pick_lt cr 3 t.1.small (by omega)
      have hn : c.long = if q.size < 59 + (cr.pick 3).1 then Cur.grow 59 f' (q ++ ⟨#[98]⟩) (cr.pick 3).2 else (q, (cr.pick 3).2) := HN.out
      have hpo := hp3.pos
      generalize (cr.pick 3).1 = x3 at hc3 hn hl3
      generalize (cr.pick 3).2 = c3 at hc3 hn hpo
      have HC3 := hide hc3
      have hf2 : f' + 1 + q.size = 64 := hf
      have HF := hide hf2
      have hfb : f' ≤ 64 := by omega
      by_cases hlt : q.size < 59 + x3
      · rw [if_pos hlt] at hn
        have HN2 := hide hn
        have h98 : (⟨#[98]⟩ : Str).size = 1 := rfl
        have hsz : (q ++ ⟨#[98]⟩).size = q.size + 1 := by rw [ByteArray.size_append, h98]
        have HSZ := hide hsz
        have k1 := fun W : World => run_string_add_sum (P := Tryd.prog) (w := W) q ⟨#[98]⟩ (by omega)
        clear hc3 hn h98 hsz hp3 HN hf hf2
        go_wp2_with fail
        refine (unhide HC3).mono ?_
        rintro e w4 ⟨rfl, t4⟩
        go_wp2_with fail
        go_roundw
        case rel => exact ⟨f', _, c3, rfl, by have := HF.out; have := HSZ.out; omega, by have := HSZ.out; omega, by omega, HN2, t.then t4⟩
        case measure =>
          have h1 := HF.out
          have h2 := HSZ.out
          show 64 - (q ++ ⟨#[98]⟩).size < 64 - q.size
          omega
      · rw [if_neg hlt] at hn
        have HN2 := hide hn
        clear hc3 hn hp3 HN hf hf2
        go_wp2_with fail
        refine (unhide HC3).mono ?_
        rintro e w4 ⟨rfl, t4⟩
        go_wp2_with fail
        go_ret
        rw [HN2.out]
        exact ⟨rfl, t.then t4⟩
set_option maxHeartbeats 400000 in
theorem curDeep_calls (w : World) (g n cp : Nat) (A : Option Addr) (c : Cur) (h : CurAt w g A n cp c) (hp : c.pos ≤ 1073741000) :
    Calls Tryd.prog 69 #[.pointer (some ⟨g, 0, none⟩)] w (RetCur w g A n cp (.string c.deep.1) c.deep.2) := by
  have hq : c.deep = ((Cur.grow 56 63 ⟨#[97]⟩ c).1 ++ ⟨#[47, 99]⟩, (Cur.grow 56 63 ⟨#[97]⟩ c).2) := rfl
  have HD := hide hq
  have hst : 63 + (⟨#[97]⟩ : Str).size = 64 := rfl
  have hst3 : (⟨#[97]⟩ : Str).size ≤ 58 := by decide
  have t := CurTo.refl h
  clear hq h
  go_enter Tryd.func69, Tryd.ntmps69
  go_wp2_with fail
  go_loopw [3] (fun s wr => ∃ (f : Nat) (q : Str) (cr : Cur), s = .string q ∧ f + q.size = 64 ∧ q.size ≤ 58 ∧ cr.pos + 2 * f ≤ c.pos + 130 ∧ Hid (Cur.grow 56 63 ⟨#[97]⟩ c = Cur.grow 56 f q cr) ∧ CurTo w wr g A n cp cr) (fun s _ => 64 - (match s with | .string q => q.size | _ => 0))
  case atStart => exact ⟨_, _, _, rfl, by assumption, by omega, by omega, rfl, t⟩
  case round =>
    clear t 
    obtain ⟨f, q, cr, rfl, hf, hqs, hcr, HN, t⟩ := hrel
    obtain ⟨f', rfl⟩ : ∃ f', f = f' + 1 := ⟨f - 1, by omega⟩
    have hc3 := pick_calls wr g n cp 3 A cr t.1 (by omega) (by omega)
    have hp3 := pick_ok cr 3 t.1.small
    have hl3 := pick_lt cr 3 t.1.small (by omega)
    have hn : Cur.grow 56 63 ⟨#[97]⟩ c = if q.size < 56 + (cr.pick 3).1 then Cur.grow 56 f' (q ++ ⟨#[98]⟩) (cr.pick 3).2 else (q, (cr.pick 3).2) := HN.out
    have hpo := hp3.pos
    generalize (cr.pick 3).1 = x3 at hc3 hn hl3
    generalize (cr.pick 3).2 = c3 at hc3 hn hpo
    have HC3 := hide hc3
    have hf2 : f' + 1 + q.size = 64 := hf
    have HF := hide hf2
    have hfb : f' ≤ 64 := by omega
    by_cases hlt : q.size < 56 + x3
    · rw [if_pos hlt] at hn
      have HN2 := hide hn
      have h98 : (⟨#[98]⟩ : Str).size = 1 := rfl
      have hsz : (q ++ ⟨#[98]⟩).size = q.size + 1 := by rw [ByteArray.size_append, h98]
      have HSZ := hide hsz
      have k1 := fun W : World => run_string_add_sum (P := Tryd.prog) (w := W) q ⟨#[98]⟩ (by omega)
      clear hc3 hn h98 hsz hp3 HN hf hf2
      go_wp2_with fail
      refine (unhide HC3).mono ?_
      rintro e w4 ⟨rfl, t4⟩
      go_wp2_with fail
      go_roundw
      case rel => exact ⟨f', _, c3, rfl, by have := HF.out; have := HSZ.out; omega, by have := HSZ.out; omega, by omega, HN2, t.then t4⟩
      case measure =>
        have h1 := HF.out
        have h2 := HSZ.out
        show 64 - (q ++ ⟨#[98]⟩).size < 64 - q.size
        omega
    · rw [if_neg hlt] at hn
      have HN2 := hide hn
      have k1 := fun W : World => run_string_add_sum (P := Tryd.prog) (w := W) q ⟨#[47, 99]⟩ (by have h2 : (⟨#[47, 99]⟩ : Str).size = 2 := rfl; omega)
      clear hc3 hn hp3 HN hf hf2
      go_wp2_with fail
      refine (unhide HC3).mono ?_
      rintro e w4 ⟨rfl, t4⟩
      go_wp2_with fail
      go_ret
      rw [HD.out, HN2.out]
      exact ⟨rfl, t.then t4⟩
end Go.Proofs.YtkhlicmlnjccdaaDoor
