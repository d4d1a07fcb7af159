/-
  The reference's drawing: part, name, long, deep.
-/
import Derived.Test.YtkhlicmlnjccdaaDoorCur
import Derived.Test.YtkhlicmlnjccdaaDoorNm
namespace Go.Proofs.YtkhlicmlnjccdaaDoor
open Go.RowKit Mem

def partList : List Str := [⟨#[97]⟩, ⟨#[98]⟩, ⟨#[99]⟩, ⟨#[108, 105, 98]⟩, ⟨#[120, 45, 49]⟩, ⟨#[95]⟩]
def Cur.part (c : Cur) : Str × Cur := (partList.getD (c.pick 6).1 ⟨#[]⟩, (c.pick 6).2)
/-- what a drawing may do to its cursor -/
structure Cur.Ok (c c' : Cur) (k : Nat) : Prop where
  pos : c'.pos ≤ c.pos + k
  code : c'.code = c.code
theorem Cur.Ok.refl (c : Cur) : c.Ok c 0 := ⟨Nat.le_refl _, rfl⟩
theorem Cur.Ok.then {a b c : Cur} {k m : Nat} (h : a.Ok b k) (h2 : b.Ok c m) : a.Ok c (k + m) := ⟨by have := h.pos; have := h2.pos; omega, h2.code.trans h.code⟩
theorem Cur.Ok.more {a b : Cur} {k m : Nat} (h : a.Ok b k) (hm : k ≤ m) : a.Ok b m := ⟨by have := h.pos; omega, h.code⟩
def Cur.Bytes (c : Cur) : Prop := ∀ x ∈ c.code, 0 ≤ x ∧ x ≤ 255
theorem Cur.Ok.bytes {a b : Cur} {k : Nat} (h : a.Ok b k) (hb : a.Bytes) : b.Bytes := by unfold Cur.Bytes; rw [h.code]; exact hb
theorem pick_ok (c : Cur) (m : Nat) (h : c.Bytes) : c.Ok (c.pick m).2 2 := ⟨(pick_small c m h).2.1, (pick_small c m h).2.2⟩
theorem pick_lt (c : Cur) (m : Nat) (h : c.Bytes) (hm : 0 < m) : (c.pick m).1 < m := (pick_small c m h).1 hm
theorem partList_size (i : Nat) : (partList.getD i ⟨#[]⟩).size ≤ 3 := by
  rcases i with _ | _ | _ | _ | _ | _ | i
  all_goals first | decide | (show (⟨#[]⟩ : Str).size ≤ 3; decide)
theorem part_ok (c : Cur) (h : c.Bytes) : c.Ok c.part.2 2 ∧ c.part.1.size ≤ 3 := ⟨pick_ok c 6 h, partList_size _⟩

set_option maxHeartbeats 400000 in
theorem part_calls (w : World) (g n cp : Nat) (A : Option Addr) (c : Cur) (h : CurAt w g A n cp c) (hp : c.pos ≤ 1073741800) :
    Calls Tryd.prog 70 #[.pointer (some ⟨g, 0, none⟩)] w (RetCur w g A n cp (.string c.part.1) c.part.2) := by
  have hb0 : Below w.heap.size w (w.alloc (Obj.cells (partList.map Value.string).toArray 9)) := by (repeat (first | with_reducible exact Below.refl _ _ | with_reducible assumption | with_reducible refine Below.alloc ?_ (by first | exact Nat.le_refl _ | exact Below.size (by assumption) | exact Nat.le_trans (Below.size (by assumption)) (by simp; done) | (simp; done) | (simp; omega) | omega) _ | with_reducible refine below_drewN ?_ _ | with_reducible refine Below.drew ?_ | with_reducible refine Below.setCell ?_ (by first | exact Nat.le_refl _ | (simp; done) | (simp; omega) | omega) _))
  have hc := pick_calls _ g n cp 6 A c (h.below hb0) hp (by omega)
  have hlt := pick_lt c 6 h.small (by omega)
  have hgl := h.lt
  have hq : c.part = (partList.getD (c.pick 6).1 ⟨#[]⟩, (c.pick 6).2) := rfl
  rw [hq]
  generalize (c.pick 6).1 = r at hc hlt ⊢
  generalize (c.pick 6).2 = c1 at hc ⊢
  generalize hpp : partList.getD r ⟨#[]⟩ = p
  have HP := hide hpp
  have HC := hide hc
  clear hc hq hpp
  go_enter Tryd.func70, Tryd.ntmps70
  go_wp2_with fail
  refine (unhide HC).mono ?_
  rintro e w1 ⟨rfl, hc1⟩
  have hblk := (hc1.2.block w.heap.size (by simp) (fun e => by have := Option.some.inj e; omega)).trans (heap_alloc_new w _)
  have hcell : w1.cell? ⟨w.heap.size, r, none⟩ = some (.string p) := by
    rw [blk_cell hblk r, ← HP.out]
    rcases r with _ | _ | _ | _ | _ | _ | r
    all_goals first | rfl | (exfalso; omega)
  have hto : CurTo w w1 g A n cp c1 := ⟨hc1.1, World.grownBy.trans (World.grownBy_alloc w _ _) hc1.2⟩
  clear hblk hb0 hc1 HC
  go_wp2_with fail
  go_ret
  exact ⟨rfl, hto⟩

def Cur.nameLoop : Nat → Str → Cur → Str × Cur
  | 0, s, c => (s, c)
  | k + 1, s, c => Cur.nameLoop k (s ++ (⟨#[47]⟩ ++ c.part.1)) c.part.2
def Cur.name (c : Cur) : Str × Cur := Cur.nameLoop (c.part.2.pick 3).1 c.part.1 (c.part.2.pick 3).2
theorem nameLoop_ok : ∀ (k : Nat) (s : Str) (c : Cur), c.Bytes → c.Ok (Cur.nameLoop k s c).2 (2 * k) ∧ (Cur.nameLoop k s c).1.size ≤ s.size + 4 * k
  | 0, s, c, _ => ⟨Cur.Ok.refl c, Nat.le_refl _⟩
  | k + 1, s, c, h => by
    have hp := part_ok c h
    have ih := nameLoop_ok k (s ++ (⟨#[47]⟩ ++ c.part.1)) c.part.2 (hp.1.bytes h)
    have h47 : (⟨#[47]⟩ : Str).size = 1 := rfl
    rw [ByteArray.size_append, ByteArray.size_append, h47] at ih
    exact ⟨(hp.1.then ih.1).more (by omega), by have := ih.2; have := hp.2; unfold Cur.nameLoop; omega⟩
theorem name_ok (c : Cur) (h : c.Bytes) : c.Ok c.name.2 8 ∧ c.name.1.size ≤ 11 := by
  have hp := part_ok c h
  have h2 := pick_ok c.part.2 3 (hp.1.bytes h)
  have hl := pick_lt c.part.2 3 (hp.1.bytes h) (by omega)
  have h3 := nameLoop_ok (c.part.2.pick 3).1 c.part.1 (c.part.2.pick 3).2 (h2.bytes (hp.1.bytes h))
  exact ⟨((hp.1.then h2).then h3.1).more (by omega), by have := h3.2; have := hp.2; unfold Cur.name; omega⟩

set_option maxHeartbeats 400000 in
theorem name_calls (w : World) (g n cp : Nat) (A : Option Addr) (c : Cur) (h : CurAt w g A n cp c) (hp : c.pos ≤ 1073741000) :
    Calls Tryd.prog 68 #[.pointer (some ⟨g, 0, none⟩)] w (RetCur w g A n cp (.string c.name.1) c.name.2) := by
  have hc1 := part_calls w g n cp A c h (by omega)
  have hp1 := part_ok c h.small
  have hc2 := fun (W : World) (h : CurAt W g A n cp c.part.2) => pick_calls W g n cp 3 A c.part.2 h (by have := hp1.1.pos; omega) (by omega)
  have hp2 := pick_ok c.part.2 3 (hp1.1.bytes h.small)
  have hl2 := pick_lt c.part.2 3 (hp1.1.bytes h.small) (by omega)
  have hq : c.name = Cur.nameLoop (c.part.2.pick 3).1 c.part.1 (c.part.2.pick 3).2 := rfl
  have hpp := (hp1.1.then hp2).pos
  have hs1 := hp1.2
  generalize (c.part.2.pick 3).1 = k at hc2 hl2 hq
  generalize (c.part.2.pick 3).2 = c2 at hc2 hq hpp
  generalize c.part.1 = p at hc1 hq hs1
  generalize c.part.2 = c1 at hc1 hc2
  have HC1 := hide hc1
  have HC2 := hide hc2
  have HQ := hide hq
  clear hc1 hc2 hq hp1 hp2
  go_enter Tryd.func68, Tryd.ntmps68
  go_wp2_with fail
  refine (unhide HC1).mono ?_
  rintro e w1 ⟨rfl, t1⟩
  go_wp2_with fail
  refine (HC2.out w1 t1.1).mono ?_
  rintro e w2 ⟨rfl, t2⟩
  have t := t1.then t2
  clear t1 t2 HC1 HC2
  go_wp2_with fail
  go_loopw [3, 4] (fun s i wr => ∃ (m : Nat) (q : Str) (cr : Cur), i = .int .i64 m ∧ s = .string q ∧ m ≤ k ∧ cr.pos + 2 * m ≤ c.pos + 8 ∧ q.size + 4 * m ≤ 11 ∧ Hid (c.name = Cur.nameLoop m q cr) ∧ CurTo w wr g A n cp cr) (fun _ i _ => (intOf i).toNat)
  case atStart => exact ⟨k, p, c2, rfl, rfl, Nat.le_refl _, by omega, by omega, HQ, t⟩
  case round =>
    clear t HQ hpp hs1
    obtain ⟨m, q, cr, rfl, rfl, hm, hcr, hqs, HN, t⟩ := hrel
    by_cases h0 : m = 0
    · subst h0
      go_wp2_with fail
      go_ret
      have hn : c.name = (q, cr) := HN.out
      rw [hn]
      exact ⟨rfl, t⟩
    · obtain ⟨m', rfl⟩ : ∃ m', m = m' + 1 := ⟨m - 1, by omega⟩
      have hc3 := part_calls wr g n cp A cr t.1 (by omega)
      have hp3 := part_ok cr t.1.small
      have hn : c.name = Cur.nameLoop m' (q ++ (⟨#[47]⟩ ++ cr.part.1)) cr.part.2 := HN.out
      have hpo := hp3.1.pos
      have hps := hp3.2
      generalize cr.part.1 = p3 at hc3 hn hps
      generalize cr.part.2 = c3 at hc3 hn hpo
      have HC3 := hide hc3
      have HN2 := hide hn
      have h47 : (⟨#[47]⟩ : Str).size = 1 := rfl
      have hss : (q ++ (⟨#[47]⟩ ++ p3)).size = q.size + (1 + p3.size) := by rw [ByteArray.size_append, ByteArray.size_append, h47]
      have hsb : (q ++ (⟨#[47]⟩ ++ p3)).size + 4 * m' ≤ 11 := by omega
      have k1 := fun W : World => run_string_add_sum (P := Tryd.prog) (w := W) ⟨#[47]⟩ p3 (by omega)
      have k2 := fun W : World => run_string_add_sum (P := Tryd.prog) (w := W) q (⟨#[47]⟩ ++ p3) (by rw [ByteArray.size_append]; omega)
      clear hc3 hn h47 hss hp3 h0 HN
      go_wp2_with fail
      refine (unhide HC3).mono ?_
      rintro e w4 ⟨rfl, t4⟩
      go_wp2_with fail
      go_roundw
      case rel => exact ⟨m', _, c3, rfl, rfl, by omega, by omega, hsb, HN2, t.then t4⟩
      case measure => first | (simp [intOf]; done) | (simp [intOf]; omega)
end Go.Proofs.YtkhlicmlnjccdaaDoor
