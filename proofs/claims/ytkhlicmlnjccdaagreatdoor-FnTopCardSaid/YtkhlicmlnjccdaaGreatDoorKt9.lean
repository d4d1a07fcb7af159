/-
  The reference's drawing: the cursor, next and pick.
-/
import Derived.Test.YtkhlicmlnjccdaaGreatDoorProg
import Derived.Test.YtkhlicmlnjccdaaGreatDoorKt2
import Derived.WalkKit
import Derived.WalkSpells
import Derived.WalkLawsBesides
import Derived.Outline
import Derived.Deep.QuietTactic
import Derived.BigQuiet
import Derived.Laws.BitsLemmas
namespace Go.Proofs.YtkhlicmlnjccdaaGreatDoor
open Go.RowKit Mem
namespace Mem
def kU8 : Kind Int := { size := 1, at_ := fun w S a s => Has w S a (.int .u8 s), same := fun h e => h.same e, more := fun h e => h.more e, below := fun h e => h.below e, old := fun h => h.old }
end Mem
/-- a cursor: the choices, where it stands, the seed -/
structure Cur where
  code : List Int
  pos : Nat
  seed : Int
def seedOn (s b : Int) : Int := IntKind.u64.wrap (IntKind.u64.wrap (IntKind.u64.wrap (s * 6364136223846793005) + b) + 1442695040888963407)
def seedOff (s : Int) : Int := IntKind.u64.wrap (IntKind.u64.wrap (s * 6364136223846793005) + 1442695040888963407)
def rnd (s : Int) : Int := wrap64 (bits .and .u64 (s / 1099511627776) 255)
theorem rnd_range (s : Int) : 0 ≤ rnd s ∧ rnd s ≤ 255 := by
  have h : (BitVec.ofInt 64 (s / 1099511627776) &&& BitVec.ofInt 64 255).toNat ≤ 255 := by
    rw [BitVec.toNat_and]
    exact Nat.le_trans Nat.and_le_right (by decide)
  have e : bits .and .u64 (s / 1099511627776) 255 = IntKind.u64.wrap ((BitVec.ofInt 64 (s / 1099511627776) &&& BitVec.ofInt 64 255).toNat : Int) := rfl
  generalize (BitVec.ofInt 64 (s / 1099511627776) &&& BitVec.ofInt 64 255).toNat = m at h e
  unfold rnd
  rw [e, show IntKind.u64.wrap (m : Int) = m from by rw [IntKind.wrap_u64]; omega]
  unfold wrap64
  omega
def Cur.next (c : Cur) : Nat × Cur :=
  match c.code[c.pos]? with
  | some b => (b.toNat, { c with pos := c.pos + 1, seed := seedOn c.seed b })
  | none => ((rnd (seedOff c.seed)).toNat, { c with pos := c.pos + 1, seed := seedOff c.seed })
/-- the cursor in memory: a block of its own, the choices elsewhere -/
structure CurAt (w : World) (g : Nat) (A : Option Addr) (n cp : Nat) (c : Cur) : Prop where
  blk : w.heap[g]? = some (.cells #[.slice A n cp, .int .i64 c.pos, .int .u64 c.seed] 60 (0, 0))
  len : c.code.length = n
  code : Sl kU8 w (fun b => b ≠ g) A c.code
  small : ∀ x ∈ c.code, 0 ≤ x ∧ x ≤ 255
  fits : n ≤ 1048576
theorem CurAt.lt {w : World} {g : Nat} {A : Option Addr} {n cp : Nat} {c : Cur} (h : CurAt w g A n cp c) : g < w.heap.size := (Array.getElem?_eq_some_iff.1 h.blk).1
theorem CurAt.below {w w' : World} {g : Nat} {A : Option Addr} {n cp : Nat} {c : Cur} (h : CurAt w g A n cp c) (hb : Below w.heap.size w w') : CurAt w' g A n cp c :=
  ⟨(hb.block g h.lt).trans h.blk, h.len, h.code.below hb, h.small, h.fits⟩
/-- what a call on the cursor leaves -/
def CurTo (w w' : World) (g : Nat) (A : Option Addr) (n cp : Nat) (c' : Cur) : Prop := CurAt w' g A n cp c' ∧ w.grownBy w' (some g)
theorem CurTo.below {w w1 w2 : World} {g : Nat} {A : Option Addr} {n cp : Nat} {c' : Cur} (h : CurTo w w1 g A n cp c') (hb : Below w1.heap.size w1 w2) : CurTo w w2 g A n cp c' :=
  ⟨h.1.below hb, ⟨hb.os.trans h.2.os, hb.tape.trans h.2.tape, hb.output.trans h.2.output, Nat.le_trans h.2.size hb.size, fun i hi hn => (hb.block i (Nat.lt_of_lt_of_le hi h.2.size)).trans (h.2.block i hi hn)⟩⟩
theorem CurTo.then {w w1 w2 : World} {g : Nat} {A : Option Addr} {n cp : Nat} {c1 c2 : Cur} (h : CurTo w w1 g A n cp c1) (h2 : CurTo w1 w2 g A n cp c2) : CurTo w w2 g A n cp c2 := ⟨h2.1, World.grownBy.trans h.2 h2.2⟩
theorem CurTo.refl {w : World} {g : Nat} {A : Option Addr} {n cp : Nat} {c : Cur} (h : CurAt w g A n cp c) : CurTo w w g A n cp c := ⟨h, World.grownBy.refl _ _⟩
theorem CurAt.to {w w' : World} {g : Nat} {A : Option Addr} {n cp : Nat} {c c' : Cur} (h : CurAt w g A n cp c) (hc : c'.code = c.code) (hb : w'.heap[g]? = some (.cells #[.slice A n cp, .int .i64 c'.pos, .int .u64 c'.seed] 60 (0, 0))) (hg : w.grownBy w' (some g)) : CurTo w w' g A n cp c' :=
  ⟨⟨hb, by rw [hc]; exact h.len, by rw [hc]; exact h.code.grown hg (fun b hb _ e => hb (Option.some.inj e)), by rw [hc]; exact h.small, h.fits⟩, hg⟩
theorem CurAt.grown {w w' : World} {g : Nat} {A : Option Addr} {n cp : Nat} {c : Cur} {row : Option Nat} (h : CurAt w g A n cp c) (hg : w.grownBy w' row) (hne : ∀ b, some b = row → b ≠ g ∧ (c.code ≠ [] → ∀ ad, A = some ad → b ≠ ad.block)) : CurAt w' g A n cp c := by
  refine ⟨(hg.block g h.lt (fun e => (hne g e).1 rfl)).trans h.blk, h.len, fun hn => ?_, h.small, h.fits⟩
  obtain ⟨ad, hA, hx⟩ := h.code hn
  refine ⟨ad, hA, fun i x hi => ?_⟩
  have this : Has w (fun b => b ≠ g) (ad.add (i * kU8.size)) (.int .u8 x) := hx i x hi
  have hb : (ad.add (i * kU8.size)).block = ad.block := block_add _ _
  exact ⟨this.1, (World.cell?_of_block (hg.block _ this.lt (fun e => (hne _ e).2 hn ad hA hb))).trans this.2⟩
theorem grown_two {w : World} {g : Nat} (k i j : Nat) (u v : Value) : w.grownBy (((w.drewN k).setCell ⟨g, i, none⟩ u).setCell ⟨g, j, none⟩ v) (some g) :=
  ⟨rfl, rfl, rfl, by simp [World.setCell], fun b hb hn => by
    have hne : b ≠ g := fun e => hn (by rw [e])
    rw [Below.heap_setCell _ ⟨g, j, none⟩ v b hne, Below.heap_setCell _ ⟨g, i, none⟩ u b hne]; rfl⟩

set_option maxHeartbeats 400000 in
theorem next_code (w : World) (g n cp pos : Nat) (ad : Addr) (seed b : Int) (hblk : w.heap[g]? = some (.cells #[.slice (some ad) n cp, .int .i64 pos, .int .u64 seed] 60 (0, 0))) (hb : w.cell? (ad.add pos) = some (.int .u8 b)) (hb0 : 0 ≤ b) (hb1 : b ≤ 255) (hp : pos < n) (_hn : n ≤ 1048576) :
    Calls Tryz.prog 87 #[.pointer (some ⟨g, 0, none⟩)] w fun e w' => e = .returned (.int .i64 b) ∧ ∃ k, w' = ((w.drewN k).setCell ⟨g, 1, none⟩ (.int .i64 ((pos + 1 : Nat) : Int))).setCell ⟨g, 2, none⟩ (.int .u64 (seedOn seed b)) := by
  have k0 : w.cell? ⟨g, 0, none⟩ = some (.slice (some ad) n cp) := blk_cell hblk 0
  have k1 : w.cell? ⟨g, 1, none⟩ = some (.int .i64 pos) := blk_cell hblk 1
  have k2 : w.cell? ⟨g, 2, none⟩ = some (.int .u64 seed) := blk_cell hblk 2
  have f1 := blk_free hblk 1
  have f2 := blk_free hblk 2
  clear hblk
  go_enter Tryz.func87, Tryz.ntmps87
  go_wp2_with fail
  go_quiet (fail)
  go_wp2_with fail
  go_quiet (fail)
  go_wp2_with fail
  go_ret
  exact ⟨rfl, _, rfl⟩

set_option maxHeartbeats 400000 in
theorem next_off (w : World) (g n cp pos : Nat) (A : Option Addr) (seed : Int) (hblk : w.heap[g]? = some (.cells #[.slice A n cp, .int .i64 pos, .int .u64 seed] 60 (0, 0))) (hp : n ≤ pos) (_hn : n ≤ 1048576) (hpb : pos ≤ 1099511627776) :
    Calls Tryz.prog 87 #[.pointer (some ⟨g, 0, none⟩)] w fun e w' => e = .returned (.int .i64 (rnd (seedOff seed))) ∧ ∃ k, w' = ((w.drewN k).setCell ⟨g, 2, none⟩ (.int .u64 (seedOff seed))).setCell ⟨g, 1, none⟩ (.int .i64 ((pos + 1 : Nat) : Int)) := by
  have k0 : w.cell? ⟨g, 0, none⟩ = some (.slice A n cp) := blk_cell hblk 0
  have k1 : w.cell? ⟨g, 1, none⟩ = some (.int .i64 pos) := blk_cell hblk 1
  have k2 : w.cell? ⟨g, 2, none⟩ = some (.int .u64 seed) := blk_cell hblk 2
  have f1 := blk_free hblk 1
  have f2 := blk_free hblk 2
  clear hblk
  go_enter Tryz.func87, Tryz.ntmps87
  go_wp2_with fail
  go_quiet (fail)
  go_wp2_with fail
  go_ret
  exact ⟨rfl, _, rfl⟩

/-- what a call on the cursor hands back -/
def RetCur (w : World) (g : Nat) (A : Option Addr) (n cp : Nat) (v : Value) (c' : Cur) (e : Ending) (w' : World) : Prop := e = .returned v ∧ CurTo w w' g A n cp c'

theorem next_calls (w : World) (g n cp : Nat) (A : Option Addr) (c : Cur) (h : CurAt w g A n cp c) (hp : c.pos ≤ 1073741824) :
    Calls Tryz.prog 87 #[.pointer (some ⟨g, 0, none⟩)] w (RetCur w g A n cp (.int .i64 c.next.1) c.next.2) := by
  obtain ⟨code, pos, seed⟩ := c
  have hl : code.length = n := h.len
  rcases Nat.lt_or_ge pos n with hlt | hge
  · obtain ⟨ad, hA, hc⟩ := h.code.get (i := pos) (by show pos < code.length; omega)
    subst hA
    have hb := hc.2
    rw [show pos * kU8.size = pos from Nat.mul_one pos] at hb
    have hs : 0 ≤ code[pos]'(by omega) ∧ code[pos]'(by omega) ≤ 255 := h.small _ (List.getElem_mem (show pos < code.length by omega))
    have hx : code[pos]? = some (code[pos]'(by omega)) := List.getElem?_eq_getElem _
    refine (next_code w g n cp pos ad seed _ h.blk hb hs.1 hs.2 hlt h.fits).mono ?_
    rintro e w' ⟨rfl, k, rfl⟩
    have hq : Cur.next ⟨code, pos, seed⟩ = ((code[pos]'(by omega)).toNat, ⟨code, pos + 1, seedOn seed (code[pos]'(by omega))⟩) := by
      unfold Cur.next
      show (match code[pos]? with | some b => _ | none => _) = _
      rw [hx]
    rw [hq]
    have hbk : (w.drewN k).heap[g]? = some (.cells #[.slice (some ad) n cp, .int .i64 pos, .int .u64 seed] 60 (0, 0)) := h.blk
    refine ⟨ret_int (Int.toNat_of_nonneg hs.1).symm, h.to rfl ?_ (grown_two k 1 2 _ _)⟩
    exact blk_set (blk_set hbk 1 _) 2 _
  · have hx : code[pos]? = none := List.getElem?_eq_none (by omega)
    refine (next_off w g n cp pos A seed h.blk hge h.fits (by have : pos ≤ 1073741824 := hp; omega)).mono ?_
    rintro e w' ⟨rfl, k, rfl⟩
    have hq : Cur.next ⟨code, pos, seed⟩ = ((rnd (seedOff seed)).toNat, ⟨code, pos + 1, seedOff seed⟩) := by
      unfold Cur.next
      show (match code[pos]? with | some b => _ | none => _) = _
      rw [hx]
    rw [hq]
    have hbk : (w.drewN k).heap[g]? = some (.cells #[.slice A n cp, .int .i64 pos, .int .u64 seed] 60 (0, 0)) := h.blk
    have hr := rnd_range (seedOff seed)
    refine ⟨ret_int (by show _ = (((rnd (seedOff seed)).toNat : Nat) : Int); omega), h.to rfl ?_ (grown_two k 2 1 _ _)⟩
    exact blk_set (blk_set hbk 2 _) 1 _

theorem next_small (c : Cur) (h : ∀ x ∈ c.code, 0 ≤ x ∧ x ≤ 255) : c.next.1 ≤ 255 ∧ c.next.2.pos = c.pos + 1 ∧ c.next.2.code = c.code := by
  unfold Cur.next
  cases hx : c.code[c.pos]? with
  | some b => have := h b (List.mem_of_getElem? hx); exact ⟨by show b.toNat ≤ 255; omega, rfl, rfl⟩
  | none => have := rnd_range (seedOff c.seed); exact ⟨by show (rnd (seedOff c.seed)).toNat ≤ 255; omega, rfl, rfl⟩
def Cur.pick (c : Cur) (m : Nat) : Nat × Cur :=
  if m ≤ 1 then (0, c) else
    if 200 < m then ((c.next.1 * 256 + c.next.2.next.1) % m, c.next.2.next.2) else (c.next.1 % m, c.next.2)
theorem pick_small (c : Cur) (m : Nat) (h : ∀ x ∈ c.code, 0 ≤ x ∧ x ≤ 255) : (0 < m → (c.pick m).1 < m) ∧ (c.pick m).2.pos ≤ c.pos + 2 ∧ (c.pick m).2.code = c.code := by
  have h1 := next_small c h
  have h2 := next_small c.next.2 (by rw [h1.2.2]; exact h)
  unfold Cur.pick
  split
  · exact ⟨fun h => h, by show c.pos ≤ _; omega, rfl⟩
  · split
    · exact ⟨fun _ => Nat.mod_lt _ (by omega), by show c.next.2.next.2.pos ≤ _; omega, h2.2.2.trans h1.2.2⟩
    · exact ⟨fun _ => Nat.mod_lt _ (by omega), by show c.next.2.pos ≤ _; omega, h1.2.2⟩

set_option maxHeartbeats 400000 in
theorem pick_calls (w : World) (g n cp m : Nat) (A : Option Addr) (c : Cur) (h : CurAt w g A n cp c) (hp : c.pos ≤ 1073741800) (hm : m ≤ 1048576) :
    Calls Tryz.prog 54 #[.pointer (some ⟨g, 0, none⟩), .int .i64 m] w (RetCur w g A n cp (.int .i64 (c.pick m).1) (c.pick m).2) := by
  by_cases h1 : m ≤ 1
  · have hq : c.pick m = (0, c) := by unfold Cur.pick; rw [if_pos h1]
    rw [hq]
    go_enter Tryz.func54, Tryz.ntmps54
    go_wp2_with fail
    go_ret
    exact ⟨rfl, CurTo.refl h⟩
  have n1 := next_calls w g n cp A c h (by omega)
  have s1 := next_small c h.small
  by_cases h2 : 200 < m
  · have hq : c.pick m = ((c.next.1 * 256 + c.next.2.next.1) % m, c.next.2.next.2) := by unfold Cur.pick; rw [if_neg h1, if_pos h2]
    rw [hq]
    have s2 := next_small c.next.2 (by rw [s1.2.2]; exact h.small)
    have n2 := fun (w1 : World) (h1 : CurAt w1 g A n cp c.next.2) => next_calls w1 g n cp A c.next.2 h1 (by omega)
    generalize c.next.2.next.2 = c2 at n2 ⊢
    generalize hx2 : c.next.2.next.1 = x2 at n2 s2 ⊢
    generalize hx1 : c.next.1 = x1 at n1 s1 ⊢
    generalize c.next.2 = c1 at n1 n2
    have b1 := s1.1
    have b2 := s2.1
    have N1 := hide n1
    have N2 := hide n2
    clear n1 n2 s1 s2 hq hx1 hx2
    go_enter Tryz.func54, Tryz.ntmps54
    go_wp2_with fail
    refine (unhide N1).mono ?_
    rintro e w1 ⟨rfl, hc1⟩
    go_wp2_with fail
    refine (N2.out w1 hc1.1).mono ?_
    rintro e w2 ⟨rfl, hc2⟩
    go_wp2_with fail
    go_ret
    exact ⟨ret_int (by simp), hc1.then hc2⟩
  · have hq : c.pick m = (c.next.1 % m, c.next.2) := by unfold Cur.pick; rw [if_neg h1, if_neg h2]
    rw [hq]
    generalize hx1 : c.next.1 = x1 at n1 s1 ⊢
    generalize c.next.2 = c1 at n1 ⊢
    have b1 := s1.1
    have N1 := hide n1
    clear n1 s1 hq hx1
    go_enter Tryz.func54, Tryz.ntmps54
    go_wp2_with fail
    refine (unhide N1).mono ?_
    rintro e w1 ⟨rfl, hc1⟩
    go_wp2_with fail
    go_ret
    exact ⟨ret_int (by simp), hc1⟩
end Go.Proofs.YtkhlicmlnjccdaaGreatDoor
