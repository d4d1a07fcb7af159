/-
  Walk: the reference's chain of modules.
-/
import Derived.Test.YtkhlicmlnjccdaaGreatDoorKt10
import Derived.Test.YtkhlicmlnjccdaaGreatDoorKt14
import Derived.Test.YtkhlicmlnjccdaaGreatDoorKt16
import Derived.Test.YtkhlicmlnjccdaaGreatDoorKt17
import Derived.Test.YtkhlicmlnjccdaaGreatDoorKt19
import Derived.Test.YtkhlicmlnjccdaaGreatDoorKt29
import Derived.Deep.RegionLaw
namespace Go.Proofs.YtkhlicmlnjccdaaGreatDoor
open Go.RowKit Mem

namespace Mem
/-- the head of a module: its name, where its lines lie -/
structure HdrD where
  name : Str
  A : Option Addr
  n : Nat
  c : Nat
def kHdr : Kind HdrD :=
  { size := 2
    at_ := fun w S a h => Has w S a (.string h.name) ∧ Has w S (a.add 1) (.slice h.A h.n h.c)
    same := fun h e => ⟨h.1.same e, h.2.same e⟩
    more := fun h e => ⟨h.1.more e, h.2.more e⟩
    below := fun h e => ⟨h.1.below e, h.2.below e⟩
    old := fun h => ⟨h.1.old, h.2.old⟩ }
def fHdr : Flat HdrD :=
  { kind := kHdr, enc := fun h => [.string h.name, .slice h.A h.n h.c], pos := by show 0 < 2; omega, len := fun _ => rfl
    one := fun _ u hu => by simp at hu; rcases hu with rfl | rfl <;> rfl
    of := fun hS h => ⟨⟨hS, h 0 _ rfl⟩, .add hS (h 1 _ rfl)⟩ }
structure HdrOk (w : World) (B : Nat) (h : HdrD) (m : ModD) : Prop where
  name : h.name = m.name
  n : h.n = m.lines.length
  nc : h.n ≤ h.c
  cm : h.c ≤ maxLen
  own : Own fLine w B 106 (.slice h.A h.n h.c) m.lines
/-- a row of modules of one's own, grown by append -/
structure OwnH (w : World) (B : Nat) (v : Value) (hs : List HdrD) (ms : List ModD) : Prop where
  row : Own fHdr w B 75 v hs
  len : hs.length = ms.length
  each : ∀ (i : Nat) (h : HdrD) (m : ModD), hs[i]? = some h → ms[i]? = some m → HdrOk w B h m
theorem OwnH.nil (w : World) (B : Nat) : OwnH w B (.slice none 0 0) [] [] := ⟨Own.nil _ _ _, rfl, fun i h m e => by simp at e⟩
theorem HdrOk.below {w w' : World} {B : Nat} {h : HdrD} {m : ModD} (k : HdrOk w B h m) (hb : Below w.heap.size w w') : HdrOk w' B h m := ⟨k.name, k.n, k.nc, k.cm, k.own.below hb⟩
theorem OwnH.below {w w' : World} {B : Nat} {v : Value} {hs : List HdrD} {ms : List ModD} (k : OwnH w B v hs ms) (hb : Below w.heap.size w w') : OwnH w' B v hs ms := ⟨k.row.below hb, k.len, fun i h m e1 e2 => (k.each i h m e1 e2).below hb⟩
theorem OwnH.kept {w w' : World} {B : Nat} {row : Option Nat} {v : Value} {hs : List HdrD} {ms : List ModD} (k : OwnH w B v hs ms) (hg : w.grownBy w' row) (h1 : v.ownBlock = none ∨ v.ownBlock ≠ row) (h2 : ∀ (h : HdrD) (m : ModD), HdrOk w B h m → (Value.slice h.A h.n h.c).ownBlock = none ∨ (Value.slice h.A h.n h.c).ownBlock ≠ row) : OwnH w' B v hs ms :=
  ⟨k.row.kept hg h1, k.len, fun i h m e1 e2 => by
    have := k.each i h m e1 e2
    exact ⟨this.name, this.n, this.nc, this.cm, this.own.kept hg (h2 h m this)⟩⟩
theorem OwnH.snoc {w w' : World} {B : Nat} {v v' : Value} {hs : List HdrD} {ms : List ModD} {h : HdrD} {m : ModD} (k : OwnH w B v hs ms) (hm : HdrOk w B h m) (hg : w.grownBy w' v.ownBlock) (hr : Own fHdr w' B 75 v' (hs ++ [h])) : OwnH w' B v' (hs ++ [h]) (ms ++ [m]) := by
  refine ⟨hr, by simp [k.len], fun i h' m' e1 e2 => ?_⟩
  have hk : ∀ {h' : HdrD} {m' : ModD}, HdrOk w B h' m' → HdrOk w' B h' m' := fun {h' m'} a => ⟨a.name, a.n, a.nc, a.cm, a.own.kept hg (apart_ty a.own k.row (by decide))⟩
  rcases Nat.lt_or_ge i hs.length with hl | hl
  · rw [List.getElem?_append_left hl] at e1
    rw [List.getElem?_append_left (by rw [← k.len]; exact hl)] at e2
    exact hk (k.each i h' m' e1 e2)
  · rw [List.getElem?_append_right hl] at e1
    have hi : i - hs.length = 0 := by
      rcases Nat.lt_or_ge (i - hs.length) 1 with h1 | h1
      · omega
      · rw [List.getElem?_eq_none (by simpa using h1)] at e1; simp at e1
    rw [hi] at e1
    rw [List.getElem?_append_right (by rw [← k.len]; exact hl), ← k.len, hi] at e2
    obtain rfl : h = h' := by simpa using e1
    obtain rfl : m = m' := by simpa using e2
    exact hk hm
theorem OwnH.slV {w : World} {B : Nat} {v : Value} {hs : List HdrD} {ms : List ModD} (k : OwnH w B v hs ms) : SlV kMod w (fun b => B ≤ b) v ms := by
  obtain ⟨A, c, hv, hl, hc, hsl⟩ := k.row.slV
  refine ⟨A, c, by rw [hv, k.len], by rw [← k.len]; exact hl, hc, fun hne => ?_⟩
  obtain ⟨ad, hA, hx⟩ := hsl (fun e => hne (List.eq_nil_of_length_eq_zero (by rw [← k.len, e]; rfl)))
  refine ⟨ad, hA, fun i m hm => ?_⟩
  have hil : i < hs.length := by
    rcases Nat.lt_or_ge i ms.length with h | h
    · rw [k.len]; exact h
    · rw [List.getElem?_eq_none h] at hm; simp at hm
  have hh := List.getElem?_eq_getElem hil
  have hat := hx i _ hh
  have ho := k.each i _ m hh hm
  generalize hs[i] = h at hat ho
  have h1 : Has w (fun b => B ≤ b) (ad.add (i * 2)) (.string h.name) := hat.1
  have h2 : Has w (fun b => B ≤ b) ((ad.add (i * 2)).add 1) (.slice h.A h.n h.c) := hat.2
  rw [ho.name] at h1
  rw [ho.n] at h2
  exact ⟨h1, h.A, h.c, h2, by rw [← ho.n]; exact ho.nc, ho.cm, (show Sl kLine w (fun b => B ≤ b) h.A m.lines from ho.own.sl)⟩
end Mem
theorem info_line' : (Tryz.prog.info? 106).map (fun i => (i.zero, i.size, i.bytes)) = some (some (.agg #[.int .i64 0, .string ⟨#[]⟩, .int .i64 0, .int .i64 0]), 4, 40) := by kernel_rfl
theorem dec_mtx (k : Nat) : (⟨#[109]⟩ : Str) ++ decT (k : Int) = mtx k := by
  refine Nm.bs_inj ?_
  have h1 : Nm.bs ((⟨#[109]⟩ : Str) ++ decT (k : Int)) = 109 :: Nm.bs (decT (k : Int)) := by simp [Nm.bs]
  rw [h1, mtx_mtl, Nm.bs_mk]
  unfold decT decB mtl
  rw [Nm.bs_mk, if_neg (by omega)]
  by_cases hk : k = 0
  · subst hk; rfl
  · rw [if_neg hk, if_neg (by simpa using hk)]
    simp
theorem dec_size {k : Nat} (h : k < 100) : (decT (k : Int)).size ≤ 2 := by
  have h1 := congrArg ByteArray.size (dec_mtx k)
  rw [ByteArray.size_append] at h1
  have h2 := mtx_size h
  have h3 : (⟨#[109]⟩ : Str).size = 1 := rfl
  omega

/-- where a world that is being made stands: its box, its roots, its modules; all below N -/
structure ChIn (w : World) (B N : Nat) (vm : Value) (hs : List HdrD) (ms : List ModD) : Prop where
  world : w.heap[B + 2]? = some (Obj.cells #[.slice (some ⟨B + 1, 0, none⟩) 1 1, vm, .slice none 0 0] 27 (0, 0))
  roots : w.heap[B + 1]? = some (Obj.cells #[.string ⟨#[]⟩] 9 (0, 0))
  res : w.heap[B]? = some (Obj.cells #[.slice none 0 0, .slice none 0 0, .slice none 0 0] 27 (0, 0))
  rows : OwnH w (B + 3) vm hs ms
  size : N ≤ w.heap.size
  base : B + 3 ≤ N
  vlt : ∀ b, vm.ownBlock = some b → b < N
  rlt : ∀ h ∈ hs, ∀ b, (Value.slice h.A h.n h.c).ownBlock = some b → b < N
theorem ChIn.far {w w' : World} {B N : Nat} {vm : Value} {hs : List HdrD} {ms : List ModD} (h : ChIn w B N vm hs ms) (hb : Below N w w') : ChIn w' B N vm hs ms := by
  have h0 := h.base
  refine ⟨(hb.block _ (by omega)).trans h.world, (hb.block _ (by omega)).trans h.roots, (hb.block _ (by omega)).trans h.res, ⟨h.rows.row.same (fun b e => hb.block b (h.vlt b e)), h.rows.len, fun i x m e1 e2 => ?_⟩, Nat.le_trans h.size hb.size, h.base, h.vlt, h.rlt⟩
  have a := h.rows.each i x m e1 e2
  exact ⟨a.name, a.n, a.nc, a.cm, a.own.same (fun b e => hb.block b (h.rlt x (List.mem_of_getElem? e1) b e))⟩
theorem ChIn.raise {w : World} {B N N' : Nat} {vm : Value} {hs : List HdrD} {ms : List ModD} (h : ChIn w B N vm hs ms) (hn : N ≤ N') (hs' : N' ≤ w.heap.size) : ChIn w B N' vm hs ms :=
  ⟨h.world, h.roots, h.res, h.rows, hs', by have := h.base; omega, fun b e => Nat.lt_of_lt_of_le (h.vlt b e) hn, fun x hx b e => Nat.lt_of_lt_of_le (h.rlt x hx b e) hn⟩
theorem box_set {w1 w3 : World} {gm : Nat} {nm : Str} {v0 v : Value} {ls : List LineD} (hb : Below gm w1 w3) (b3 : w3.heap[gm]? = some (Obj.cells #[.string nm, v0] 75 (0, 0))) (ho : Own fLine w3 gm 106 v ls) :
    Below gm w1 (w3.setCell ⟨gm, 1, none⟩ v) ∧ (w3.setCell ⟨gm, 1, none⟩ v).heap[gm]? = some (Obj.cells #[.string nm, v] 75 (0, 0)) ∧ Own fLine (w3.setCell ⟨gm, 1, none⟩ v) gm 106 v ls :=
  ⟨hb.setCell (Nat.le_refl _) _, blk_set b3 1 v, ho.kept (grown_set _ _ _ _) (apart_blk ho b3 (by decide))⟩
theorem chain_next {W8 w9 : World} {B N gW : Nat} {vm v9 : Value} {hs : List HdrD} {ms : List ModD} {h : HdrD} {m : ModD} (HC : ChIn W8 B N vm hs ms) (ho : HdrOk W8 (B + 3) h m) (hG : B + 2 = gW) (hwb : w9.heap[gW]? = some (Obj.cells #[.slice (some ⟨B + 1, 0, none⟩) 1 1, vm, .slice none 0 0] 27 (0, 0)))
    (hown : Own fHdr w9 (B + 3) 75 v9 (hs ++ [h])) (hg : W8.grownBy w9 vm.ownBlock) (_hn : v9.ownBlock = vm.ownBlock ∨ ∃ b, v9.ownBlock = some b ∧ W8.heap.size ≤ b) (_hz : N ≤ W8.heap.size) :
    ChIn (w9.setCell ⟨gW, 1, none⟩ v9) B w9.heap.size v9 (hs ++ [h]) (ms ++ [m]) ∧ Below B W8 (w9.setCell ⟨gW, 1, none⟩ v9) := by
  subst hG
  have hr := HC.rows.snoc ho hg hown
  have hb := HC.base
  have hs0 := HC.size
  have hg2 := grown_set w9 (B + 2) 1 v9
  have hvm : ∀ b, vm.ownBlock = some b → B + 3 ≤ b := fun b e => HC.rows.row.le e
  have hz9 := hg.size
  have hbB : Below B W8 w9 := (Below.refl B W8).grown hg (by omega) (fun b e => by have := hvm b e; omega)
  refine ⟨⟨blk_set hwb 1 v9, (hg2.block _ (by omega) (by simp)).trans ((hg.block _ (by omega) (fun e => by have := hvm _ e.symm; omega)).trans HC.roots), (hg2.block _ (by omega) (by simp)).trans ((hg.block _ (by omega) (fun e => by have := hvm _ e.symm; omega)).trans HC.res), hr.kept hg2 ?_ (fun h' m' a => ?_), hg2.size, by omega, fun b e => hown.lt e, fun x hx b e => ?_⟩, hbB.setCell (by show B ≤ B + 2; omega) _⟩
  · exact apart_blk hown hwb (by decide)
  · exact apart_blk a.own hwb (by decide)
  · rcases List.mem_append.1 hx with hx | hx
    · have := HC.rlt x hx b e; omega
    · obtain rfl : x = h := by simpa using hx
      have := ho.own.lt e; omega
theorem nxt_cases (n k : Nat) (back : Int) : (k + 1 = n ∧ Ch.nxt n back k = back) ∨ (k + 1 ≠ n ∧ Ch.nxt n back k = (k : Int) + 1) := by
  unfold Ch.nxt
  split
  · exact .inl ⟨by assumption, rfl⟩
  · exact .inr ⟨by assumption, rfl⟩

set_option maxRecDepth 100000 in
set_option maxHeartbeats 4000000 in
theorem madeChain_calls (n : Nat) (back : Int) (w : World) (hn : n ≤ 60) (hb0 : -1 ≤ back) (hb1 : back < n) :
    Calls Tryz.prog 88 #[.int .i64 n, .int .i64 back] w fun e w' => ∃ vR vM vF, e = .returned (.agg #[vR, vM, vF]) ∧ WIn w' (fun b => w.heap.size ≤ b) vR vM vF (Ch.chain n back) ∧ Below w.heap.size w w' := by
  go_enter Tryz.func88, Tryz.ntmps88
  go_upto_region 2 with fail
  generalize hW : ((w.alloc (Obj.cells #[.slice none 0 0, .slice none 0 0, .slice none 0 0] 27)).alloc (Obj.cells #[.string ⟨#[]⟩] 9)).alloc (Obj.cells #[.slice (some ⟨w.heap.size + 1, 0, none⟩) 1 1, .slice none 0 0, .slice none 0 0] 27) = W
  have hbW : Below w.heap.size w W := by rw [← hW]; (repeat (first | with_reducible exact Below.refl _ _ | with_reducible assumption | with_reducible refine Below.alloc ?_ (by first | exact Nat.le_refl _ | exact Below.size (by assumption) | exact Nat.le_trans (Below.size (by assumption)) (by simp; done) | (simp; done) | (simp; omega) | omega) _ | with_reducible refine below_drewN ?_ _ | with_reducible refine Below.drew ?_ | with_reducible refine Below.setCell ?_ (by first | exact Nat.le_refl _ | (simp; done) | (simp; omega) | omega) _))
  have hzW : W.heap.size = w.heap.size + 3 := by rw [← hW]; simp
  have hch : ChIn W w.heap.size (w.heap.size + 3) (.slice none 0 0) [] [] := by
    refine ⟨?_, ?_, ?_, OwnH.nil _ _, by omega, Nat.le_refl _, fun b e => by simp [Value.ownBlock] at e, fun h hh => by simp at hh⟩
    · rw [← hW]
      have := heap_alloc_new ((w.alloc (Obj.cells #[.slice none 0 0, .slice none 0 0, .slice none 0 0] 27)).alloc (Obj.cells #[.string ⟨#[]⟩] 9)) (Obj.cells #[.slice (some ⟨w.heap.size + 1, 0, none⟩) 1 1, .slice none 0 0, .slice none 0 0] 27)
      simpa using this
    · rw [← hW, alloc_old _ _ (by simp)]
      have := heap_alloc_new (w.alloc (Obj.cells #[.slice none 0 0, .slice none 0 0, .slice none 0 0] 27)) (Obj.cells #[.string ⟨#[]⟩] 9)
      simpa using this
    · rw [← hW, alloc_old _ _ (by simp; omega), alloc_old _ _ (by simp)]
      exact heap_alloc_new w _
  clear hW
  generalize hgg : w.heap.size + 1 + 1 = gW
  have hg1 : w.heap.size + 2 ≤ gW := by omega
  have hg2 : gW ≤ w.heap.size + 2 := by omega
  have HG := hide (show w.heap.size + 2 = gW by omega)
  clear hgg
  go_wp2_with fail
  go_loopw [6, 7, 8] (fun i _ _ wr => ∃ (k N : Nat) (vm : Value) (hs : List HdrD), i = .int .i64 k ∧ k ≤ n ∧ ChIn wr w.heap.size N vm hs ((List.range k).map (Ch.modC n back)) ∧ Below w.heap.size w wr) (fun i _ _ _ => n - (intOf i).toNat)
  case atStart => exact ⟨0, _, _, [], rfl, by omega, hch, hbW⟩
  case round =>
    clear hch hbW hzW
    obtain ⟨k, N, vm, hs, rfl, hk, HC, HB⟩ := hrel
    by_cases hlt : k < n
    · go_wp2_with fail
      refine (l4decimal_calls k wr (by omega) (by omega)).mono ?_
      rintro e w1 ⟨rfl, hb1⟩
      have HC1 := (HC.far (hb1.mono HC.size)).raise (Nat.le_trans HC.size hb1.size) (Nat.le_refl _)
      have HB1 := below_then HB HB.size hb1
      have hN0 := HC1.base
      clear hb1 HC HB
      have hka := fun W : World => run_string_add_sum (P := Tryz.prog) (w := W) ⟨#[109]⟩ (decT (k : Int)) (by have := dec_size (k := k) (by omega); show 1 + _ ≤ _; omega)
      rw [dec_mtx] at hka
      have hbA : Below w1.heap.size w1 (w1.alloc (Obj.cells #[.string (mtx k), .slice none 0 0] 75)) := by (repeat (first | with_reducible exact Below.refl _ _ | with_reducible assumption | with_reducible refine Below.alloc ?_ (by first | exact Nat.le_refl _ | exact Below.size (by assumption) | exact Nat.le_trans (Below.size (by assumption)) (by simp; done) | (simp; done) | (simp; omega) | omega) _ | with_reducible refine below_drewN ?_ _ | with_reducible refine Below.drew ?_ | with_reducible refine Below.setCell ?_ (by first | exact Nat.le_refl _ | (simp; done) | (simp; omega) | omega) _))
      have hnA := heap_alloc_new w1 (Obj.cells #[.string (mtx k), .slice none 0 0] 75)
      have hzA : (w1.alloc (Obj.cells #[.string (mtx k), .slice none 0 0] 75)).heap.size = w1.heap.size + 1 := by simp
      go_upto_region 6 with fail
      generalize w1.alloc (Obj.cells #[.string (mtx k), .slice none 0 0] 75) = W2 at hbA hnA hzA ⊢
      have hzA1 : w1.heap.size + 1 ≤ W2.heap.size := by omega
      clear hzA
      have c1 : W2.cell? ⟨w1.heap.size, 1, none⟩ = some (.slice none 0 0) := blk_cell hnA 1
      have f1 := blk_free hnA 1
      clear hka
      go_upto_region 7 with (at_builtin; refine append_own_g fLine w1.heap.size rfl _ _ 73 106 (.agg #[.int .i64 0, .string ⟨#[]⟩, .int .i64 0, .int .i64 0]) 40 rfl Tryz.underlying73 info_line' rfl (by omega) (.slice none 0 0) [] ⟨1, ⟨#[]⟩, k, 0⟩ #[.int .i64 1, .string ⟨#[]⟩, .int .i64 k, .int .i64 0] rfl rfl W2.heap.size rfl rfl (Own.nil _ _ _) hbA (by omega) (by simp) ?_; intro v1 w3 hown hbel hgr _; have b3 := (hgr.block w1.heap.size (by omega) (by simp [Value.ownBlock])).trans hnA; have c1' := blk_cell b3 1; have f1' := blk_free b3 1; obtain ⟨xA, xc, hv1, _, _, _⟩ := hown.slV; subst hv1)
      obtain ⟨hb4, b4, ho4⟩ := box_set (v := .slice xA 1 xc) (ls := [⟨1, ⟨#[]⟩, k, 0⟩]) hbel b3 hown
      generalize w3.setCell ⟨w1.heap.size, 1, none⟩ (.slice xA 1 xc) = W4 at hb4 b4 ho4 ⊢
      have hz4 : w1.heap.size < W4.heap.size := (Array.getElem?_eq_some_iff.1 b4).1
      clear hown hbel hgr b3 c1' f1' c1 f1 hnA hbA hzA1
      have hcase : (∃ (X : Int) (q : Nat), X = q ∧ q < 60 ∧ Ch.nxt n back k = q ∧ ((k + 1 = n ∧ back = X) ∨ (k + 1 ≠ n ∧ (k : Int) + 1 = X))) ∨ (Ch.nxt n back k < 0 ∧ k + 1 = n ∧ back < 0) := by
        rcases nxt_cases n k back with ⟨h1, h2⟩ | ⟨h1, h2⟩
        · by_cases h3 : back < 0
          · exact .inr ⟨by rw [h2]; exact h3, h1, h3⟩
          · exact .inl ⟨back, back.toNat, by omega, by omega, by omega, .inl ⟨h1, rfl⟩⟩
        · exact .inl ⟨(k : Int) + 1, k + 1, rfl, by omega, by rw [h2]; rfl, .inr ⟨h1, rfl⟩⟩
      rcases hcase with ⟨X, q, hXq, hq, hnx, hqq⟩ | ⟨hx0, hk1, hbk⟩
      · have HLS := hide (show Ch.linesC n back k = [⟨1, ⟨#[]⟩, k, 0⟩, ⟨3, mtx q, 0, 0⟩] ++ [⟨2, ⟨#[]⟩, 10 * k, 0⟩] by
          unfold Ch.linesC
          rw [hnx, if_pos (by omega)]; rfl)
        have c1 : W4.cell? ⟨w1.heap.size, 1, none⟩ = some (.slice xA 1 xc) := blk_cell b4 1
        have hX0 : 0 ≤ X := by omega
        have hX1 : X < 60 := by omega
        have hka := fun W : World => run_string_add_sum (P := Tryz.prog) (w := W) ⟨#[109]⟩ (decT X) (by rw [hXq]; have := dec_size (k := q) (by omega); show 1 + _ ≤ _; omega)
        rw [hXq, dec_mtx, ← hXq] at hka
        have hdc := fun (W : World) => l4decimal_calls X W (by omega) (by omega)
        have HDC := hide hdc
        have B4 := hide b4
        clear hnx hXq hdc
        rcases hqq with ⟨hk1, rfl⟩ | ⟨hk1, rfl⟩
        · have hkb : ((k : Int) == (n : Int) - 1) = true := by simp; omega
          go_upto_region 11 with fail
          go_cut [] (fun wx => ∃ (A5 : Option Addr) (c5 : Nat), Below w1.heap.size w1 wx ∧ wx.heap[w1.heap.size]? = some (Obj.cells #[.string (mtx k), .slice A5 2 c5] 75 (0, 0)) ∧ Own fLine wx w1.heap.size 106 (.slice A5 2 c5) [⟨1, ⟨#[]⟩, k, 0⟩, ⟨3, mtx q, 0, 0⟩])
          case first =>
            go_region_law (first
              | ((go_simp; refine (HDC.out _).mono ?_; rintro e w6 ⟨rfl, hb6⟩; have hb46 : Below W4.heap.size W4 w6 := ⟨hb6.os, hb6.tape, hb6.output, hb6.size, hb6.block⟩; have b6 := (hb46.block _ hz4).trans B4.out; have c16 : w6.cell? ⟨w1.heap.size, 1, none⟩ = some (.slice xA 1 xc) := blk_cell b6 1; have hz6 : w1.heap.size < w6.heap.size := Nat.lt_of_lt_of_le hz4 hb46.size; clear hb6))
              | ((refine step_own fLine w1.heap.size (by rfl) _ _ 73 106 (.agg #[.int .i64 0, .string ⟨#[]⟩, .int .i64 0, .int .i64 0]) 40 (by rfl) Tryz.underlying73 info_line' rfl (by omega) (.slice xA 1 xc) [⟨1, ⟨#[]⟩, k, 0⟩] ⟨3, mtx q, 0, 0⟩ #[.int .i64 3, .string (mtx q), .int .i64 0, .int .i64 0] rfl (by rfl) w6.heap.size (by rfl) (by exact heap_alloc_new _ _) ((ho4.below hb46).alloc _) (by simp; omega) (by simp) ?_; intro v7 w7 hown7 hgr7 hnew7; have b7 := (hgr7.block w1.heap.size (by simp; omega) (not_row (apart_blk (ho4.below hb46) b6 (by decide)))).trans ((alloc_old w6 _ hz6).trans b6); have c17 : w7.cell? ⟨w1.heap.size, 1, none⟩ = some (.slice xA 1 xc) := blk_cell b7 1; have f17 := blk_free b7 1; obtain ⟨yA, yc, hv7, _, _, _⟩ := hown7.slV; subst hv7; have hbl7 : Below w1.heap.size w1 w7 := ((hb4.trans (hb46.mono (by omega))).alloc (by omega) _).grown hgr7 (by simp; omega) (fun b hb => (ho4.le hb)); clear hgr7 hnew7)))
            all_goals
              obtain ⟨hb8, b8, ho8⟩ := box_set (v := .slice yA 2 yc) (ls := [⟨1, ⟨#[]⟩, k, 0⟩, ⟨3, mtx q, 0, 0⟩]) hbl7 b7 hown7
              go_wp2_with fail
              go_meet
              exact ⟨yA, yc, hb8, b8, ho8⟩
          case rest =>
            obtain ⟨A5, c5, hb5, b5', ho5⟩ := hcut
            clear b4 ho4 hb4 c1 hka HDC B4 hz4
            have b5 := b5'
            have c1'' : wc.cell? ⟨w1.heap.size, 1, none⟩ = some (.slice A5 2 c5) := blk_cell b5 1
            have f1'' := blk_free b5 1
            have hz5 : w1.heap.size < wc.heap.size := (Array.getElem?_eq_some_iff.1 b5).1
            go_upto_region 13 with (at_builtin; refine append_own_g fLine w1.heap.size rfl _ _ 73 106 (.agg #[.int .i64 0, .string ⟨#[]⟩, .int .i64 0, .int .i64 0]) 40 rfl Tryz.underlying73 info_line' rfl (by omega) (.slice A5 2 c5) [⟨1, ⟨#[]⟩, k, 0⟩, ⟨3, mtx q, 0, 0⟩] ⟨2, ⟨#[]⟩, 10 * k, 0⟩ #[.int .i64 2, .string ⟨#[]⟩, .int .i64 (10 * k), .int .i64 0] rfl rfl wc.heap.size rfl rfl ho5 hb5 (by omega) (by simp) ?_; intro v7 w7 hown7 hbel7 hgr7 _; have b7 := (hgr7.block w1.heap.size hz5 (not_row (apart_blk ho5 b5 (by decide)))).trans b5; have c17 := blk_cell b7 1; have f17 := blk_free b7 1; obtain ⟨yA, yc, hv7, _, _, _⟩ := hown7.slV; subst hv7)
            obtain ⟨hb8, b8, ho8⟩ := box_set (v := .slice yA 3 yc) (ls := ([⟨1, ⟨#[]⟩, k, 0⟩, ⟨3, mtx q, 0, 0⟩] : List LineD) ++ [(⟨2, ⟨#[]⟩, 10 * k, 0⟩ : LineD)]) hbel7 b7 hown7
            generalize w7.setCell ⟨w1.heap.size, 1, none⟩ (.slice yA 3 yc) = W8 at hb8 b8 ho8 ⊢
            clear hown7 hbel7 hgr7 b7 c17 f17 c1'' f1''
            have HCD := HC1.far hb8
            have hz8 : w1.heap.size < W8.heap.size := (Array.getElem?_eq_some_iff.1 b8).1
            obtain ⟨zA, zc, hzv, hzl, hzm, _⟩ := HCD.rows.row.slV
            subst hzv
            obtain ⟨yA', yc', hyv, hyl, hym, _⟩ := ho8.slV
            injection hyv with hyv _ hyv'
            subst hyv hyv'
            have hwb := HCD.world
            rw [HG.out] at hwb
            have g1 : W8.cell? ⟨gW, 1, none⟩ = some (.slice zA hs.length zc) := blk_cell hwb 1
            have x0 : W8.cell? ⟨w1.heap.size, 0, none⟩ = some (.string (mtx k)) := blk_cell b8 0
            have x1 : W8.cell? ⟨w1.heap.size, 1, none⟩ = some (.slice yA 3 yc) := blk_cell b8 1
            have hhl : hs.length ≤ 60 := by have := HCD.rows.len; simp at this; omega
            have hok : HdrOk W8 (w.heap.size + 3) ⟨mtx k, yA, 3, yc⟩ (Ch.modC n back k) := ⟨rfl, by show _ = (Ch.linesC n back k).length; rw [HLS.out]; rfl, hyl, hym, by show Own fLine _ _ _ _ (Ch.linesC n back k); rw [HLS.out]; exact ho8.more hN0⟩
            have HOK := hide hok
            clear hok hyl hym
            go_upto_region 4 with (at_builtin; refine append_own_g fHdr (w.heap.size + 3) rfl _ _ 24 75 (.agg #[.string ⟨#[]⟩, .slice none 0 0]) 40 rfl Tryz.underlying24 info_mod rfl (by omega) (.slice zA hs.length zc) hs ⟨mtx k, yA, 3, yc⟩ #[.string (mtx k), .slice yA 3 yc] rfl rfl W8.heap.size rfl rfl HCD.rows.row (Below.refl _ _) (by omega) (by omega) ?_; intro v9 w9 hown9 hbel9 hgr9 hnew9; have hwb9 := (hgr9.block gW (by omega) (not_row (apart_blk HCD.rows.row hwb (by decide)))).trans hwb; have g19 := blk_cell hwb9 1; have gf9 := blk_free hwb9 1; obtain ⟨uA, uc, hv9, _, _, _⟩ := hown9.slV; subst hv9)
            have hch9 := chain_next HCD HOK.out HG.out hwb9 hown9 hgr9 hnew9 (by omega)
            obtain ⟨hch10, hbl10⟩ := hch9
            have hl9 : (hs ++ [(⟨mtx k, yA, 3, yc⟩ : HdrD)]).length = hs.length + 1 := by simp
            rw [hl9] at hch10 hbl10
            clear hl9
            have hB10 : Below w.heap.size w (w9.setCell ⟨gW, 1, none⟩ (.slice uA (hs.length + 1) uc)) := (HB1.trans (hb8.mono HB1.size)).trans (hbl10.mono (by omega))
            have hmk : (List.range (k + 1)).map (Ch.modC n back) = (List.range k).map (Ch.modC n back) ++ [Ch.modC n back k] := by rw [List.range_succ]; simp
            rw [← hmk] at hch10
            have HCH := hide hch10
            clear hmk hch10 hbl10 hown9 hgr9 hnew9 hbel9 HCD hwb hwb9
            go_wp2_with fail
            go_roundw
            case rel => exact ⟨k + 1, _, _, _, by go_num, by omega, HCH.out, hB10⟩
            case measure => simp [intOf]; omega
        · have hkb : ((k : Int) == (n : Int) - 1) = false := by simp; omega
          go_upto_region 11 with fail
          go_cut [] (fun wx => ∃ (A5 : Option Addr) (c5 : Nat), Below w1.heap.size w1 wx ∧ wx.heap[w1.heap.size]? = some (Obj.cells #[.string (mtx k), .slice A5 2 c5] 75 (0, 0)) ∧ Own fLine wx w1.heap.size 106 (.slice A5 2 c5) [⟨1, ⟨#[]⟩, k, 0⟩, ⟨3, mtx q, 0, 0⟩])
          case first =>
            go_region_law (first
              | ((go_simp; refine (HDC.out _).mono ?_; rintro e w6 ⟨rfl, hb6⟩; have hb46 : Below W4.heap.size W4 w6 := ⟨hb6.os, hb6.tape, hb6.output, hb6.size, hb6.block⟩; have b6 := (hb46.block _ hz4).trans B4.out; have c16 : w6.cell? ⟨w1.heap.size, 1, none⟩ = some (.slice xA 1 xc) := blk_cell b6 1; have hz6 : w1.heap.size < w6.heap.size := Nat.lt_of_lt_of_le hz4 hb46.size; clear hb6))
              | ((refine step_own fLine w1.heap.size (by rfl) _ _ 73 106 (.agg #[.int .i64 0, .string ⟨#[]⟩, .int .i64 0, .int .i64 0]) 40 (by rfl) Tryz.underlying73 info_line' rfl (by omega) (.slice xA 1 xc) [⟨1, ⟨#[]⟩, k, 0⟩] ⟨3, mtx q, 0, 0⟩ #[.int .i64 3, .string (mtx q), .int .i64 0, .int .i64 0] rfl (by rfl) w6.heap.size (by rfl) (by exact heap_alloc_new _ _) ((ho4.below hb46).alloc _) (by simp; omega) (by simp) ?_; intro v7 w7 hown7 hgr7 hnew7; have b7 := (hgr7.block w1.heap.size (by simp; omega) (not_row (apart_blk (ho4.below hb46) b6 (by decide)))).trans ((alloc_old w6 _ hz6).trans b6); have c17 : w7.cell? ⟨w1.heap.size, 1, none⟩ = some (.slice xA 1 xc) := blk_cell b7 1; have f17 := blk_free b7 1; obtain ⟨yA, yc, hv7, _, _, _⟩ := hown7.slV; subst hv7; have hbl7 : Below w1.heap.size w1 w7 := ((hb4.trans (hb46.mono (by omega))).alloc (by omega) _).grown hgr7 (by simp; omega) (fun b hb => (ho4.le hb)); clear hgr7 hnew7)))
            all_goals
              obtain ⟨hb8, b8, ho8⟩ := box_set (v := .slice yA 2 yc) (ls := [⟨1, ⟨#[]⟩, k, 0⟩, ⟨3, mtx q, 0, 0⟩]) hbl7 b7 hown7
              go_wp2_with fail
              go_meet
              exact ⟨yA, yc, hb8, b8, ho8⟩
          case rest =>
            obtain ⟨A5, c5, hb5, b5', ho5⟩ := hcut
            clear b4 ho4 hb4 c1 hka HDC B4 hz4
            have b5 := b5'
            have c1'' : wc.cell? ⟨w1.heap.size, 1, none⟩ = some (.slice A5 2 c5) := blk_cell b5 1
            have f1'' := blk_free b5 1
            have hz5 : w1.heap.size < wc.heap.size := (Array.getElem?_eq_some_iff.1 b5).1
            go_upto_region 13 with (at_builtin; refine append_own_g fLine w1.heap.size rfl _ _ 73 106 (.agg #[.int .i64 0, .string ⟨#[]⟩, .int .i64 0, .int .i64 0]) 40 rfl Tryz.underlying73 info_line' rfl (by omega) (.slice A5 2 c5) [⟨1, ⟨#[]⟩, k, 0⟩, ⟨3, mtx q, 0, 0⟩] ⟨2, ⟨#[]⟩, 10 * k, 0⟩ #[.int .i64 2, .string ⟨#[]⟩, .int .i64 (10 * k), .int .i64 0] rfl rfl wc.heap.size rfl rfl ho5 hb5 (by omega) (by simp) ?_; intro v7 w7 hown7 hbel7 hgr7 _; have b7 := (hgr7.block w1.heap.size hz5 (not_row (apart_blk ho5 b5 (by decide)))).trans b5; have c17 := blk_cell b7 1; have f17 := blk_free b7 1; obtain ⟨yA, yc, hv7, _, _, _⟩ := hown7.slV; subst hv7)
            obtain ⟨hb8, b8, ho8⟩ := box_set (v := .slice yA 3 yc) (ls := ([⟨1, ⟨#[]⟩, k, 0⟩, ⟨3, mtx q, 0, 0⟩] : List LineD) ++ [(⟨2, ⟨#[]⟩, 10 * k, 0⟩ : LineD)]) hbel7 b7 hown7
            generalize w7.setCell ⟨w1.heap.size, 1, none⟩ (.slice yA 3 yc) = W8 at hb8 b8 ho8 ⊢
            clear hown7 hbel7 hgr7 b7 c17 f17 c1'' f1''
            have HCD := HC1.far hb8
            have hz8 : w1.heap.size < W8.heap.size := (Array.getElem?_eq_some_iff.1 b8).1
            obtain ⟨zA, zc, hzv, hzl, hzm, _⟩ := HCD.rows.row.slV
            subst hzv
            obtain ⟨yA', yc', hyv, hyl, hym, _⟩ := ho8.slV
            injection hyv with hyv _ hyv'
            subst hyv hyv'
            have hwb := HCD.world
            rw [HG.out] at hwb
            have g1 : W8.cell? ⟨gW, 1, none⟩ = some (.slice zA hs.length zc) := blk_cell hwb 1
            have x0 : W8.cell? ⟨w1.heap.size, 0, none⟩ = some (.string (mtx k)) := blk_cell b8 0
            have x1 : W8.cell? ⟨w1.heap.size, 1, none⟩ = some (.slice yA 3 yc) := blk_cell b8 1
            have hhl : hs.length ≤ 60 := by have := HCD.rows.len; simp at this; omega
            have hok : HdrOk W8 (w.heap.size + 3) ⟨mtx k, yA, 3, yc⟩ (Ch.modC n back k) := ⟨rfl, by show _ = (Ch.linesC n back k).length; rw [HLS.out]; rfl, hyl, hym, by show Own fLine _ _ _ _ (Ch.linesC n back k); rw [HLS.out]; exact ho8.more hN0⟩
            have HOK := hide hok
            clear hok hyl hym
            go_upto_region 4 with (at_builtin; refine append_own_g fHdr (w.heap.size + 3) rfl _ _ 24 75 (.agg #[.string ⟨#[]⟩, .slice none 0 0]) 40 rfl Tryz.underlying24 info_mod rfl (by omega) (.slice zA hs.length zc) hs ⟨mtx k, yA, 3, yc⟩ #[.string (mtx k), .slice yA 3 yc] rfl rfl W8.heap.size rfl rfl HCD.rows.row (Below.refl _ _) (by omega) (by omega) ?_; intro v9 w9 hown9 hbel9 hgr9 hnew9; have hwb9 := (hgr9.block gW (by omega) (not_row (apart_blk HCD.rows.row hwb (by decide)))).trans hwb; have g19 := blk_cell hwb9 1; have gf9 := blk_free hwb9 1; obtain ⟨uA, uc, hv9, _, _, _⟩ := hown9.slV; subst hv9)
            have hch9 := chain_next HCD HOK.out HG.out hwb9 hown9 hgr9 hnew9 (by omega)
            obtain ⟨hch10, hbl10⟩ := hch9
            have hl9 : (hs ++ [(⟨mtx k, yA, 3, yc⟩ : HdrD)]).length = hs.length + 1 := by simp
            rw [hl9] at hch10 hbl10
            clear hl9
            have hB10 : Below w.heap.size w (w9.setCell ⟨gW, 1, none⟩ (.slice uA (hs.length + 1) uc)) := (HB1.trans (hb8.mono HB1.size)).trans (hbl10.mono (by omega))
            have hmk : (List.range (k + 1)).map (Ch.modC n back) = (List.range k).map (Ch.modC n back) ++ [Ch.modC n back k] := by rw [List.range_succ]; simp
            rw [← hmk] at hch10
            have HCH := hide hch10
            clear hmk hch10 hbl10 hown9 hgr9 hnew9 hbel9 HCD hwb hwb9
            go_wp2_with fail
            go_roundw
            case rel => exact ⟨k + 1, _, _, _, by go_num, by omega, HCH.out, hB10⟩
            case measure => simp [intOf]; omega
      · have hkb : ((k : Int) == (n : Int) - 1) = true := by simp; omega
        have HLS := hide (show Ch.linesC n back k = [⟨1, ⟨#[]⟩, k, 0⟩] ++ [⟨2, ⟨#[]⟩, 10 * k, 0⟩] by unfold Ch.linesC; rw [if_neg (by omega)]; rfl)
        clear hx0
        have b5 := b4
        have c1'' : W4.cell? ⟨w1.heap.size, 1, none⟩ = some (.slice xA 1 xc) := blk_cell b5 1
        have f1'' := blk_free b5 1
        have hz5 : w1.heap.size < W4.heap.size := (Array.getElem?_eq_some_iff.1 b5).1
        go_upto_region 13 with (at_builtin; refine append_own_g fLine w1.heap.size rfl _ _ 73 106 (.agg #[.int .i64 0, .string ⟨#[]⟩, .int .i64 0, .int .i64 0]) 40 rfl Tryz.underlying73 info_line' rfl (by omega) (.slice xA 1 xc) [⟨1, ⟨#[]⟩, k, 0⟩] ⟨2, ⟨#[]⟩, 10 * k, 0⟩ #[.int .i64 2, .string ⟨#[]⟩, .int .i64 (10 * k), .int .i64 0] rfl rfl W4.heap.size rfl rfl ho4 hb4 (by omega) (by simp) ?_; intro v7 w7 hown7 hbel7 hgr7 _; have b7 := (hgr7.block w1.heap.size hz5 (not_row (apart_blk ho4 b5 (by decide)))).trans b5; have c17 := blk_cell b7 1; have f17 := blk_free b7 1; obtain ⟨yA, yc, hv7, _, _, _⟩ := hown7.slV; subst hv7)
        obtain ⟨hb8, b8, ho8⟩ := box_set (v := .slice yA 2 yc) (ls := ([⟨1, ⟨#[]⟩, k, 0⟩] : List LineD) ++ [(⟨2, ⟨#[]⟩, 10 * k, 0⟩ : LineD)]) hbel7 b7 hown7
        generalize w7.setCell ⟨w1.heap.size, 1, none⟩ (.slice yA 2 yc) = W8 at hb8 b8 ho8 ⊢
        clear hown7 hbel7 hgr7 b7 c17 f17 c1'' f1''
        have HCD := HC1.far hb8
        have hz8 : w1.heap.size < W8.heap.size := (Array.getElem?_eq_some_iff.1 b8).1
        obtain ⟨zA, zc, hzv, hzl, hzm, _⟩ := HCD.rows.row.slV
        subst hzv
        obtain ⟨yA', yc', hyv, hyl, hym, _⟩ := ho8.slV
        injection hyv with hyv _ hyv'
        subst hyv hyv'
        have hwb := HCD.world
        rw [HG.out] at hwb
        have g1 : W8.cell? ⟨gW, 1, none⟩ = some (.slice zA hs.length zc) := blk_cell hwb 1
        have x0 : W8.cell? ⟨w1.heap.size, 0, none⟩ = some (.string (mtx k)) := blk_cell b8 0
        have x1 : W8.cell? ⟨w1.heap.size, 1, none⟩ = some (.slice yA 2 yc) := blk_cell b8 1
        have hhl : hs.length ≤ 60 := by have := HCD.rows.len; simp at this; omega
        have hok : HdrOk W8 (w.heap.size + 3) ⟨mtx k, yA, 2, yc⟩ (Ch.modC n back k) := ⟨rfl, by show _ = (Ch.linesC n back k).length; rw [HLS.out]; rfl, hyl, hym, by show Own fLine _ _ _ _ (Ch.linesC n back k); rw [HLS.out]; exact ho8.more hN0⟩
        have HOK := hide hok
        clear hok hyl hym
        go_upto_region 4 with (at_builtin; refine append_own_g fHdr (w.heap.size + 3) rfl _ _ 24 75 (.agg #[.string ⟨#[]⟩, .slice none 0 0]) 40 rfl Tryz.underlying24 info_mod rfl (by omega) (.slice zA hs.length zc) hs ⟨mtx k, yA, 2, yc⟩ #[.string (mtx k), .slice yA 2 yc] rfl rfl W8.heap.size rfl rfl HCD.rows.row (Below.refl _ _) (by omega) (by omega) ?_; intro v9 w9 hown9 hbel9 hgr9 hnew9; have hwb9 := (hgr9.block gW (by omega) (not_row (apart_blk HCD.rows.row hwb (by decide)))).trans hwb; have g19 := blk_cell hwb9 1; have gf9 := blk_free hwb9 1; obtain ⟨uA, uc, hv9, _, _, _⟩ := hown9.slV; subst hv9)
        have hch9 := chain_next HCD HOK.out HG.out hwb9 hown9 hgr9 hnew9 (by omega)
        obtain ⟨hch10, hbl10⟩ := hch9
        have hl9 : (hs ++ [(⟨mtx k, yA, 2, yc⟩ : HdrD)]).length = hs.length + 1 := by simp
        rw [hl9] at hch10 hbl10
        clear hl9
        have hB10 : Below w.heap.size w (w9.setCell ⟨gW, 1, none⟩ (.slice uA (hs.length + 1) uc)) := (HB1.trans (hb8.mono HB1.size)).trans (hbl10.mono (by omega))
        have hmk : (List.range (k + 1)).map (Ch.modC n back) = (List.range k).map (Ch.modC n back) ++ [Ch.modC n back k] := by rw [List.range_succ]; simp
        rw [← hmk] at hch10
        have HCH := hide hch10
        clear hmk hch10 hbl10 hown9 hgr9 hnew9 hbel9 HCD hwb hwb9
        go_wp2_with fail
        go_roundw
        case rel => exact ⟨k + 1, _, _, _, by go_num, by omega, HCH.out, hB10⟩
        case measure => simp [intOf]; omega
    · obtain rfl : k = n := by omega
      obtain ⟨zA, zc, hzv, hzl, hzm, _⟩ := HC.rows.row.slV
      subst hzv
      have hwb := HC.world
      rw [HG.out] at hwb
      have g0 : wr.cell? ⟨gW, 0, none⟩ = some (.slice (some ⟨w.heap.size + 1, 0, none⟩) 1 1) := blk_cell hwb 0
      have g1 : wr.cell? ⟨gW, 1, none⟩ = some (.slice zA hs.length zc) := blk_cell hwb 1
      have g2 : wr.cell? ⟨gW, 2, none⟩ = some (.slice none 0 0) := blk_cell hwb 2
      have r0 : wr.cell? ⟨w.heap.size, 0, none⟩ = some (.slice none 0 0) := blk_cell HC.res 0
      have r1 : wr.cell? ⟨w.heap.size, 1, none⟩ = some (.slice none 0 0) := blk_cell HC.res 1
      have r2 : wr.cell? ⟨w.heap.size, 2, none⟩ = some (.slice none 0 0) := blk_cell HC.res 2
      have f0 := blk_free HC.res 0
      have f1 := blk_free HC.res 1
      have f2 := blk_free HC.res 2
      have hne : gW ≠ w.heap.size := by omega
      have hrw := HC.rows.slV
      have HRT := hide HC.roots
      clear hwb HC
      go_wp2_with fail
      have hk3 : ∀ b, w.heap.size + 1 ≤ b → (((wr.setCell ⟨w.heap.size, 0, none⟩ (.slice (some ⟨w.heap.size + 1, 0, none⟩) 1 1)).setCell ⟨w.heap.size, 1, none⟩ (.slice zA hs.length zc)).setCell ⟨w.heap.size, 2, none⟩ (.slice none 0 0)).heap[b]? = wr.heap[b]? := fun b hb => by
        simp only [World.setCell]
        repeat rw [Array.getElem?_modify, if_neg (by omega)]
      refine bodyPost_ret (v := .agg #[.slice (some ⟨w.heap.size + 1, 0, none⟩) 1 1, .slice zA hs.length zc, .slice none 0 0]) (by simp [results, Tryz.results88, go_sem, r0, r1, r2]) rfl ⟨_, _, _, rfl, ⟨?_, ?_, ⟨none, 0, rfl, Nat.le_refl _, Nat.zero_le _, Sl.nil⟩⟩, by (repeat (first | with_reducible exact Below.refl _ _ | with_reducible assumption | with_reducible refine Below.alloc ?_ (by first | exact Nat.le_refl _ | exact Below.size (by assumption) | exact Nat.le_trans (Below.size (by assumption)) (by simp; done) | (simp; done) | (simp; omega) | omega) _ | with_reducible refine below_drewN ?_ _ | with_reducible refine Below.drew ?_ | with_reducible refine Below.setCell ?_ (by first | exact Nat.le_refl _ | (simp; done) | (simp; omega) | omega) _))⟩
      · refine ⟨some ⟨w.heap.size + 1, 0, none⟩, 1, rfl, Nat.le_refl _, by decide, fun _ => ⟨_, rfl, fun i x hi => ?_⟩⟩
        rcases i with _ | i
        · obtain rfl : (⟨#[]⟩ : Str) = x := by simpa [Ch.chain] using hi
          refine ⟨by rw [block_add]; exact Nat.le_succ _, ?_⟩
          rw [add_plain]
          exact blk_cell ((hk3 _ (Nat.le_refl _)).trans HRT.out) 0
        · simp [Ch.chain] at hi
      · exact (hrw.same (fun b hb => hk3 b (by omega))).more (fun b hb => by omega)
end Go.Proofs.YtkhlicmlnjccdaaGreatDoor
