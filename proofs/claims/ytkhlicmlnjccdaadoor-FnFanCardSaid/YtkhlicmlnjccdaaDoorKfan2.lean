/-
  Walk: the reference's fan of modules (MadeFan).
-/
import Derived.Test.YtkhlicmlnjccdaaDoorKd28
import Derived.Test.YtkhlicmlnjccdaaDoorKfan1
import Derived.Test.YtkhlicmlnjccdaaDoorKd7
import Derived.Lib.RabinKarpLaws
namespace Go.Proofs.YtkhlicmlnjccdaaDoor
open Go.RowKit Mem
namespace Mem
section
variable {P : Program} {ops : Array Oper} {rest : List Oper} {o : Oper} {a : Act} {Q : Exit → Act → World → Prop}
/-- append of several elements that were built just ahead -/
theorem append_own_many {α : Type} (k : Flat α) {w0 W : World} (base : Nat) (hgd : o.guard = none) (s x : Operand) (t e : TypeId) (z : Value) (bytes : Nat)
    (ho : o.op = .call { callee := .builtin .append, args := #[s, x], argTypes := #[t, t] })
    (ht : P.underlying t = some (.slice e)) (hinfo : (P.info? e).map (fun i => (i.zero, i.size, i.bytes)) = some (some z, k.kind.size, bytes)) (hz : z.cells.size = k.kind.size) (hb0 : 0 < bytes)
    (v : Value) (xs ys : List α) (cs : Array Value) (hcs : cs.toList = k.all ys) (hs : a.eval s = v) (g m : Nat) (hg : W.heap.size = g) (hm : ys.length = m) (hx : a.eval x = .slice (some ⟨g, 0, none⟩) m m)
    (HO : Own k W base e v xs) (HB : Below base w0 W) (hbase : base ≤ W.heap.size) (hl : (xs.length + m) * bytes ≤ 140737488355328)
    (h : ∀ v1 w1, Own k w1 base e v1 (xs ++ ys) → Below base w0 w1 → W.grownBy w1 v.ownBlock → (v1.ownBlock = v.ownBlock ∨ ∃ b, v1.ownBlock = some b ∧ W.heap.size ≤ b) → wpList P ops Q rest (a.put o.dst v1) w1) :
    wpList P ops Q (o :: rest) a (W.alloc (.cells cs e)) := by
  subst hg hm
  obtain ⟨i0, hi, hzz⟩ := Option.map_eq_some_iff.1 hinfo
  simp only [Prod.mk.injEq] at hzz
  obtain ⟨hz0, hz1, hz2⟩ := hzz
  have hlen : xs.length + ys.length ≤ 140737488355328 := Nat.le_trans (Nat.le_mul_of_pos_right _ hb0) hl
  refine wpList_append_own_at (W.alloc (.cells cs e)) hgd s x t ho base e i0 z k.kind.size bytes ht hi hz0 hz1 hz2 hz k.pos v xs.length (k.all xs) hs (World.ownsRow.alloc HO _) ⟨W.heap.size, 0, none⟩ ys.length ys.length cs.toList hx (by rw [hcs, k.all_length])
    (World.news_of_block (cs := cs) (t := e) (fr := (0, 0)) (heap_alloc_new W _)) (fun u hu => by
      rw [hcs] at hu
      simp only [Flat.all, List.mem_flatMap] at hu
      obtain ⟨y, _, hy⟩ := hu
      exact k.one y u hy) (by simp only [maxLen]; omega) hl (by simp; omega) ?_
  intro v1 w1 hown hg _ hat
  refine h v1 w1 ?_ ((HB.alloc hbase _).grown hg (by simp; omega) (fun b hb => Own.le HO hb)) (World.grownBy.trans (World.grownBy_alloc W _ _) hg) ?_
  · unfold Own
    rw [k.all_append, ← hcs, List.length_append]
    exact hown
  · rcases hat with hat | hat
    · exact .inl hat
    · exact .inr ⟨_, hat, by simp⟩
end
/-- a fan that is being made -/
structure FaIn (w : World) (B : Nat) (vm vl : Value) (hs : List HdrD) (ms : List ModD) (ls : List LineD) : Prop where
  world : w.heap[B + 2]? = some (Obj.cells #[.slice (some ⟨B + 1, 0, none⟩) 2 2, vm, .slice none 0 0] 46 (0, 0))
  roots : w.heap[B + 1]? = some (Obj.cells #[.string ⟨#[]⟩, .string ⟨#[108, 105, 98]⟩] 9 (0, 0))
  res : w.heap[B]? = some (Obj.cells #[.slice none 0 0, .slice none 0 0, .slice none 0 0] 46 (0, 0))
  mbox : w.heap[B + 3]? = some (Obj.cells #[.string Ld.mainName, vl] 56 (0, 0))
  rows : OwnH w (B + 4) vm hs ms
  mrow : Own fLine w (B + 4) 99 vl ls
  ap : ∀ h ∈ hs, ∀ b, (Value.slice h.A h.n h.c).ownBlock = some b → vl.ownBlock ≠ some b
theorem FaIn.lt {w : World} {B : Nat} {vm vl : Value} {hs : List HdrD} {ms : List ModD} {ls : List LineD} (h : FaIn w B vm vl hs ms ls) : B + 3 < w.heap.size := (Array.getElem?_eq_some_iff.1 h.mbox).1
theorem FaIn.below {w w' : World} {B : Nat} {vm vl : Value} {hs : List HdrD} {ms : List ModD} {ls : List LineD} (h : FaIn w B vm vl hs ms ls) (hb : Below w.heap.size w w') : FaIn w' B vm vl hs ms ls := by
  have hl := h.lt
  exact ⟨(hb.block _ (by omega)).trans h.world, (hb.block _ (by omega)).trans h.roots, (hb.block _ (by omega)).trans h.res, (hb.block _ hl).trans h.mbox, h.rows.below hb, h.mrow.below hb, h.ap⟩
/-- one more module -/
theorem FaIn.mod {W8 w9 : World} {B gW : Nat} {vm vl v9 : Value} {hs : List HdrD} {ms : List ModD} {ls : List LineD} {h : HdrD} {m : ModD} (HC : FaIn W8 B vm vl hs ms ls) (ho : HdrOk W8 (B + 4) h m) (hG : B + 2 = gW)
    (hown : Own fHdr w9 (B + 4) 56 v9 (hs ++ [h])) (hg : W8.grownBy w9 vm.ownBlock) (hap : ∀ b, (Value.slice h.A h.n h.c).ownBlock = some b → vl.ownBlock ≠ some b) :
    FaIn (w9.setCell ⟨gW, 1, none⟩ v9) B v9 vl (hs ++ [h]) (ms ++ [m]) ls ∧ Below B W8 (w9.setCell ⟨gW, 1, none⟩ v9) := by
  subst hG
  have hr := HC.rows.snoc ho hg hown
  have hl := HC.lt
  have hg2 := grown_set w9 (B + 2) 1 v9
  have hvm : ∀ b, vm.ownBlock = some b → B + 4 ≤ b := fun b e => HC.rows.row.le e
  have hz9 := hg.size
  have hbB : Below B W8 w9 := (Below.refl B W8).grown hg (by omega) (fun b e => by have := hvm b e; omega)
  have hkeep : ∀ b, b < B + 4 → w9.heap[b]? = W8.heap[b]? := fun b hb => hg.block _ (by omega) (fun e => by have := hvm _ e.symm; omega)
  have hwb : w9.heap[B + 2]? = _ := (hkeep (B + 2) (by omega)).trans HC.world
  have hm9 := HC.mrow.kept hg (apart_ty HC.mrow HC.rows.row (by decide))
  refine ⟨⟨blk_set hwb 1 v9, (hg2.block _ (by omega) (by simp)).trans ((hkeep _ (by omega)).trans HC.roots), (hg2.block _ (by omega) (by simp)).trans ((hkeep _ (by omega)).trans HC.res), (hg2.block _ (by omega) (by simp)).trans ((hkeep _ (by omega)).trans HC.mbox), hr.kept hg2 ?_ (fun h' m' a => ?_), hm9.kept hg2 (apart_blk hm9 hwb (by decide)), fun x hx b e => ?_⟩, hbB.setCell (by show B ≤ B + 2; omega) _⟩
  · exact apart_blk hown hwb (by decide)
  · exact apart_blk a.own hwb (by decide)
  · rcases List.mem_append.1 hx with hx | hx
    · exact HC.ap x hx b e
    · obtain rfl : x = h := by simpa using hx
      exact hap b e
/-- more lines of main's -/
theorem FaIn.line {W8 w9 : World} {B gM : Nat} {vm vl v9 : Value} {hs : List HdrD} {ms : List ModD} {ls ls' : List LineD} (HC : FaIn W8 B vm vl hs ms ls) (hG : B + 3 = gM)
    (hown : Own fLine w9 (B + 4) 99 v9 ls') (hg : W8.grownBy w9 vl.ownBlock) (hnew : v9.ownBlock = vl.ownBlock ∨ ∃ b, v9.ownBlock = some b ∧ W8.heap.size ≤ b) :
    FaIn (w9.setCell ⟨gM, 1, none⟩ v9) B vm v9 hs ms ls' ∧ Below B W8 (w9.setCell ⟨gM, 1, none⟩ v9) := by
  subst hG
  have hl := HC.lt
  have hg2 := grown_set w9 (B + 3) 1 v9
  have hvl : ∀ b, vl.ownBlock = some b → B + 4 ≤ b := fun b e => HC.mrow.le e
  have hz9 := hg.size
  have hbB : Below B W8 w9 := (Below.refl B W8).grown hg (by omega) (fun b e => by have := hvl b e; omega)
  have hkeep : ∀ b, b < B + 4 → w9.heap[b]? = W8.heap[b]? := fun b hb => hg.block _ (by omega) (fun e => by have := hvl _ e.symm; omega)
  have hmb : w9.heap[B + 3]? = _ := (hkeep (B + 3) (by omega)).trans HC.mbox
  have hr9 : w9.heap.size = w9.heap.size := rfl
  have hrow := HC.rows.row.kept hg (apart_ty HC.rows.row HC.mrow (by decide))
  refine ⟨⟨(hg2.block _ (by omega) (by simp)).trans ((hkeep _ (by omega)).trans HC.world), (hg2.block _ (by omega) (by simp)).trans ((hkeep _ (by omega)).trans HC.roots), (hg2.block _ (by omega) (by simp)).trans ((hkeep _ (by omega)).trans HC.res), blk_set hmb 1 v9, ⟨hrow.kept hg2 (by
    cases he : vm.ownBlock with
    | none => exact .inl rfl
    | some b => exact .inr (fun e => by have := HC.rows.row.le he; have := Option.some.inj e; omega)), HC.rows.len, fun i x m e1 e2 => ?_⟩, hown.kept hg2 (apart_blk hown hmb (by decide)), fun x hx b e => ?_⟩, hbB.setCell (by show B ≤ B + 3; omega) _⟩
  · have a := HC.rows.each i x m e1 e2
    have ho : Own fLine W8 (B + 4) 99 (Value.slice x.A x.n x.c) m.lines := a.own
    have ho9 := ho.kept hg (by
      cases he : (Value.slice x.A x.n x.c).ownBlock with
      | none => exact .inl rfl
      | some b => exact .inr (fun e => HC.ap x (List.mem_of_getElem? e1) b he e.symm))
    exact ⟨a.name, a.n, a.nc, a.cm, ho9.kept hg2 (apart_blk ho9 hmb (by decide))⟩
  · rcases hnew with h | ⟨b', h, hb'⟩
    · rw [h]; exact HC.ap x hx b e
    · obtain ⟨i, hi⟩ := List.getElem?_of_mem hx
      have hil : i < ms.length := by
        rw [← HC.rows.len]
        rcases Nat.lt_or_ge i hs.length with h | h
        · exact h
        · rw [List.getElem?_eq_none h] at hi; cases hi
      have := Own.lt (HC.rows.each i x _ hi (List.getElem?_eq_getElem hil)).own e
      rw [h]
      exact fun e2 => by have := Option.some.inj e2; omega
end Mem
def thrF (t i : Nat) : Bool := decide (t / 2 ^ i % 2 = 1)
theorem ktx_dec (k : Nat) : (⟨#[107]⟩ : Str) ++ decT (k : Int) = ktx k := by
  refine Nm.bs_inj ?_
  have h1 : Nm.bs ((⟨#[107]⟩ : Str) ++ decT (k : Int)) = 107 :: Nm.bs (decT (k : Int)) := by simp [Nm.bs]
  rw [h1]
  unfold ktx
  rw [Nm.bs_mk]
  unfold decT decB ktl
  rw [Nm.bs_mk, if_neg (by omega)]
  by_cases hk : k = 0
  · subst hk; rfl
  · rw [if_neg hk, if_neg (by simpa using hk)]
    simp
theorem ltx_ktx (k : Nat) : (⟨#[108, 105, 98, 47]⟩ : Str) ++ ktx k = ltx k := by
  refine Nm.bs_inj ?_
  have h1 : Nm.bs ((⟨#[108, 105, 98, 47]⟩ : Str) ++ ktx k) = [108, 105, 98, 47] ++ Nm.bs (ktx k) := by simp [Nm.bs]
  rw [h1]
  unfold ktx ltx
  rw [Nm.bs_mk, Nm.bs_mk]
  rfl

set_option maxRecDepth 100000 in
set_option maxHeartbeats 4000000 in
theorem madeFan_calls (n t : Nat) (w : World) (hn : n ≤ 14) (ht : t ≤ 65535) :
    Calls Tryd.prog 31 #[.int .i64 n, .int .i64 t] w fun e w' => ∃ vR vM vF, e = .returned (.agg #[vR, vM, vF]) ∧ WIn w' (fun b => w.heap.size ≤ b) vR vM vF (Fan.fan n (thrF t)) ∧ Below w.heap.size w w' := by
  go_enter Tryd.func31, Tryd.ntmps31
  go_upto_region 4 with fail
  generalize hW : ((((w.alloc (Obj.cells #[.slice none 0 0, .slice none 0 0, .slice none 0 0] 46)).alloc (Obj.cells #[.string ⟨#[]⟩, .string ⟨#[108, 105, 98]⟩] 9)).alloc (Obj.cells #[.slice (some ⟨w.heap.size + 1, 0, none⟩) 2 2, .slice none 0 0, .slice none 0 0] 46)).alloc (Obj.cells #[.string ⟨#[109, 97, 105, 110]⟩, .slice none 0 0] 56)) = W
  have hbW : Below w.heap.size w W := by rw [← hW]; (repeat (first | with_reducible exact Below.refl _ _ | with_reducible assumption | with_reducible refine Below.alloc ?_ (by first | exact Nat.le_refl _ | exact Below.size (by assumption) | exact Nat.le_trans (Below.size (by assumption)) (by simp; done) | (simp; done) | (simp; omega) | omega) _ | with_reducible refine below_drewN ?_ _ | with_reducible refine Below.drew ?_ | with_reducible refine Below.setCell ?_ (by first | exact Nat.le_refl _ | (simp; done) | (simp; omega) | omega) _))
  have hfa : FaIn W w.heap.size (.slice none 0 0) (.slice none 0 0) [] [] [] := by
    refine ⟨?_, ?_, ?_, ?_, OwnH.nil _ _, Own.nil _ _ _, fun h hh => by simp at hh⟩
    · rw [← hW, alloc_old _ _ (by simp)]
      have := heap_alloc_new ((w.alloc (Obj.cells #[.slice none 0 0, .slice none 0 0, .slice none 0 0] 46)).alloc (Obj.cells #[.string ⟨#[]⟩, .string ⟨#[108, 105, 98]⟩] 9)) (Obj.cells #[.slice (some ⟨w.heap.size + 1, 0, none⟩) 2 2, .slice none 0 0, .slice none 0 0] 46)
      simpa using this
    · rw [← hW, alloc_old _ _ (by simp), alloc_old _ _ (by simp)]
      have := heap_alloc_new (w.alloc (Obj.cells #[.slice none 0 0, .slice none 0 0, .slice none 0 0] 46)) (Obj.cells #[.string ⟨#[]⟩, .string ⟨#[108, 105, 98]⟩] 9)
      simpa using this
    · rw [← hW, alloc_old _ _ (by simp; omega), alloc_old _ _ (by simp; omega), alloc_old _ _ (by simp)]
      exact heap_alloc_new w _
    · rw [← hW]
      have := heap_alloc_new (((w.alloc (Obj.cells #[.slice none 0 0, .slice none 0 0, .slice none 0 0] 46)).alloc (Obj.cells #[.string ⟨#[]⟩, .string ⟨#[108, 105, 98]⟩] 9)).alloc (Obj.cells #[.slice (some ⟨w.heap.size + 1, 0, none⟩) 2 2, .slice none 0 0, .slice none 0 0] 46)) (Obj.cells #[.string ⟨#[109, 97, 105, 110]⟩, .slice none 0 0] 56)
      simpa [Ld.mainName] using this
  clear hW
  generalize hgm : w.heap.size + 1 + 1 + 1 = gM
  generalize hgg : w.heap.size + 1 + 1 = gW
  have HG := hide (show w.heap.size + 2 = gW by omega)
  have HGM := hide (show w.heap.size + 3 = gM by omega)
  have hg1 : w.heap.size + 2 ≤ gW := by omega
  have hg2 : gW ≤ w.heap.size + 2 := by omega
  have hg3 : w.heap.size + 3 ≤ gM := by omega
  have hg4 : gM ≤ w.heap.size + 3 := by omega
  clear hgg hgm
  go_wp2_with fail
  go_loopw [7] (fun i wr => ∃ (k : Nat) (vm vl : Value) (hs : List HdrD), i = .int .i64 k ∧ k ≤ n ∧ FaIn wr w.heap.size vm vl hs ((List.range k).map (Fan.modF (thrF t))) (Fan.mlines k) ∧ Below w.heap.size w wr) (fun i _ => n - (intOf i).toNat)
  case atStart => exact ⟨0, _, _, [], rfl, by omega, hfa, hbW⟩
  case round =>
    clear hfa hbW
    obtain ⟨k, vm, vl, hs, rfl, hk, HC, HB⟩ := hrel
    by_cases hlt : k < n
    · go_wp2_with fail
      refine (l4decimal_calls k wr (by omega) (by omega)).mono ?_
      rintro e w1 ⟨rfl, hb1⟩
      have HC1 := HC.below hb1
      have HB1 := below_then HB HB.size hb1
      clear hb1 HC HB
      have hks := ktx_size (k := k) (by omega)
      have hka := fun W : World => run_string_add_sum (P := Tryd.prog) (w := W) ⟨#[107]⟩ (decT (k : Int)) (by have h1 := congrArg ByteArray.size (ktx_dec k); rw [ByteArray.size_append] at h1; have h3 : (⟨#[107]⟩ : Str).size = 1 := rfl; show 1 + _ ≤ _; omega)
      rw [ktx_dec] at hka
      have hkb := fun W : World => run_string_add_sum (P := Tryd.prog) (w := W) ⟨#[108, 105, 98, 47]⟩ (ktx k) (by show 4 + _ ≤ _; omega)
      rw [ltx_ktx] at hkb
      have hbA : Below w1.heap.size w1 (w1.alloc (Obj.cells #[.int .i64 2, .string ⟨#[]⟩, .int .i64 k, .int .i64 0] 99)) := by (repeat (first | with_reducible exact Below.refl _ _ | with_reducible assumption | with_reducible refine Below.alloc ?_ (by first | exact Nat.le_refl _ | exact Below.size (by assumption) | exact Nat.le_trans (Below.size (by assumption)) (by simp; done) | (simp; done) | (simp; omega) | omega) _ | with_reducible refine below_drewN ?_ _ | with_reducible refine Below.drew ?_ | with_reducible refine Below.setCell ?_ (by first | exact Nat.le_refl _ | (simp; done) | (simp; omega) | omega) _))
      have hnA := heap_alloc_new w1 (Obj.cells #[.int .i64 2, .string ⟨#[]⟩, .int .i64 k, .int .i64 0] 99)
      go_upto_region 9 with fail
      generalize w1.alloc (Obj.cells #[.int .i64 2, .string ⟨#[]⟩, .int .i64 k, .int .i64 0] 99) = W2 at hbA hnA ⊢
      have HC2 := HC1.below hbA
      have HB2 := below_then HB1 HB1.size hbA
      have c0 := blk_cell hnA 0
      have c1 := blk_cell hnA 1
      have c2 := blk_cell hnA 2
      have c3 := blk_cell hnA 3
      have f0 := blk_free hnA 0
      have f1 := blk_free hnA 1
      have f2 := blk_free hnA 2
      have f3 := blk_free hnA 3
      have hdv : ((t : Int) / 2 ^ k) = ((t / 2 ^ k : Nat) : Int) := by rw [Int.natCast_ediv]; simp
      have hbt : bits BinOp.and IntKind.i64 ((t : Int) / 2 ^ k) 1 = ((t / 2 ^ k % 2 : Nat) : Int) := by
        rw [hdv]
        refine and_one _ ?_
        have := Nat.div_le_self t (2 ^ k)
        omega
      clear hdv
      obtain ⟨zA, zc, hzv, hzl, hzm, _⟩ := HC1.rows.row.slV
      subst hzv
      have g1 : W2.cell? ⟨gW, 1, none⟩ = some (.slice zA hs.length zc) := by have hw := HC2.world; rw [HG.out] at hw; exact blk_cell hw 1
      clear HC2
      by_cases hthr : t / 2 ^ k % 2 = 1
      · have HTH : Hid (thrF t k = true) := hide (by unfold thrF; simp [hthr])
        rw [hthr] at hbt
        clear hthr
        go_upto_region 11 with fail
        have hb3 : Below w1.heap.size w1 ((((W2.setCell ⟨w1.heap.size, 0, none⟩ (.int .i64 6)).setCell ⟨w1.heap.size, 1, none⟩ (.string ⟨#[]⟩)).setCell ⟨w1.heap.size, 2, none⟩ (.int .i64 k)).setCell ⟨w1.heap.size, 3, none⟩ (.int .i64 0)) := by (repeat (first | with_reducible exact Below.refl _ _ | with_reducible assumption | with_reducible refine Below.alloc ?_ (by first | exact Nat.le_refl _ | exact Below.size (by assumption) | exact Nat.le_trans (Below.size (by assumption)) (by simp; done) | (simp; done) | (simp; omega) | omega) _ | with_reducible refine below_drewN ?_ _ | with_reducible refine Below.drew ?_ | with_reducible refine Below.setCell ?_ (by first | exact Nat.le_refl _ | (simp; done) | (simp; omega) | omega) _))
        have hn3 := blk_set (blk_set (blk_set (blk_set hnA 0 (.int .i64 6)) 1 (.string ⟨#[]⟩)) 2 (.int .i64 k)) 3 (.int .i64 0)
        clear c0 c1 c2 c3 f0 f1 f2 f3 g1
        generalize (((W2.setCell ⟨w1.heap.size, 0, none⟩ (.int .i64 6)).setCell ⟨w1.heap.size, 1, none⟩ (.string ⟨#[]⟩)).setCell ⟨w1.heap.size, 2, none⟩ (.int .i64 k)).setCell ⟨w1.heap.size, 3, none⟩ (.int .i64 0) = W3 at hb3 hn3 ⊢
        have c0 : W3.cell? ⟨w1.heap.size, 0, none⟩ = some (.int .i64 6) := blk_cell hn3 0
        have c1 : W3.cell? ⟨w1.heap.size, 1, none⟩ = some (.string ⟨#[]⟩) := blk_cell hn3 1
        have c2 : W3.cell? ⟨w1.heap.size, 2, none⟩ = some (.int .i64 k) := blk_cell hn3 2
        have c3 : W3.cell? ⟨w1.heap.size, 3, none⟩ = some (.int .i64 0) := blk_cell hn3 3
        have HC3 := HC1.below hb3
        have HBW := below_then HB1 HB1.size hb3
        clear HC1 HB1 HB2 hb3 hn3 hnA hbA
        have hwb := HC3.world
        rw [HG.out] at hwb
        have hl3 := HC3.lt
        have hhl : hs.length ≤ 14 := by have := HC3.rows.len; simp at this; omega
        have g1 : W3.cell? ⟨gW, 1, none⟩ = some (.slice zA hs.length zc) := blk_cell hwb 1
        have hlx : Fan.linesF (thrF t) k = [⟨1, ⟨#[]⟩, k, 0⟩, ⟨6, ⟨#[]⟩, k, 0⟩] := by unfold Fan.linesF; rw [HTH.out]; rfl
        have HLX := hide hlx
        clear hlx
        go_upto_region 12 with (at_builtin; refine append_own_g fHdr (w.heap.size + 4) rfl _ _ 43 56 (.agg #[.string ⟨#[]⟩, .slice none 0 0]) 40 rfl Tryd.underlying43 info_mod rfl (by omega) (.slice zA hs.length zc) hs ⟨ltx k, some ⟨W3.heap.size, 0, none⟩, 2, 2⟩ #[.string (ltx k), .slice (some ⟨W3.heap.size, 0, none⟩) 2 2] rfl rfl (W3.heap.size + 1) (by simp) rfl (HC3.rows.row.alloc _) (Below.refl _ _) (by simp; omega) (by omega) ?_; intro v9 w9 hown9 hbel9 hgr9 hnew9; have hwb9 := (hgr9.block gW (by simp; omega) (not_row (apart_blk (HC3.rows.row.alloc (Obj.cells #[.int .i64 1, .string ⟨#[]⟩, .int .i64 k, .int .i64 0, .int .i64 6, .string ⟨#[]⟩, .int .i64 k, .int .i64 0] 99)) ((alloc_old _ _ (by omega)).trans hwb) (by decide)))).trans ((alloc_old _ _ (by omega)).trans hwb); have g19 := blk_cell hwb9 1; have gf9 := blk_free hwb9 1; obtain ⟨uA, uc, hv9, _, _, _⟩ := hown9.slV; subst hv9)
        have HC8 := HC3.below (Below.alloc (Below.refl _ W3) (Nat.le_refl _) (Obj.cells #[.int .i64 1, .string ⟨#[]⟩, .int .i64 k, .int .i64 0, .int .i64 6, .string ⟨#[]⟩, .int .i64 k, .int .i64 0] 99))
        have hok : HdrOk (W3.alloc (Obj.cells #[.int .i64 1, .string ⟨#[]⟩, .int .i64 k, .int .i64 0, .int .i64 6, .string ⟨#[]⟩, .int .i64 k, .int .i64 0] 99)) (w.heap.size + 4) ⟨ltx k, some ⟨W3.heap.size, 0, none⟩, 2, 2⟩ (Fan.modF (thrF t) k) := ⟨rfl, by show 2 = (Fan.linesF (thrF t) k).length; rw [HLX.out]; rfl, Nat.le_refl _, by show 2 ≤ maxLen; unfold maxLen; omega, by
          show Own fLine _ _ _ _ (Fan.linesF (thrF t) k)
          rw [HLX.out]
          exact World.ownsRow_lit W3 #[.int .i64 1, .string ⟨#[]⟩, .int .i64 k, .int .i64 0, .int .i64 6, .string ⟨#[]⟩, .int .i64 k, .int .i64 0] 2 (by omega) (by decide) rfl⟩
        have hm9 := FaIn.mod HC8 hok HG.out hown9 hgr9 (fun b e e2 => by have := HC3.mrow.lt e2; have : W3.heap.size = b := Option.some.inj e; omega)
        rw [show (hs ++ [(⟨ltx k, some ⟨W3.heap.size, 0, none⟩, 2, 2⟩ : HdrD)]).length = hs.length + 1 by simp] at hm9
        have HB9 := (HBW.alloc (by omega) (Obj.cells #[.int .i64 1, .string ⟨#[]⟩, .int .i64 k, .int .i64 0, .int .i64 6, .string ⟨#[]⟩, .int .i64 k, .int .i64 0] 99)).trans hm9.2
        have HC9 := hm9.1
        rw [show (List.range k).map (Fan.modF (thrF t)) ++ [Fan.modF (thrF t) k] = (List.range (k + 1)).map (Fan.modF (thrF t)) by rw [List.range_succ]; simp] at HC9
        generalize w9.setCell ⟨gW, 1, none⟩ (.slice uA (hs.length + 1) uc) = W10 at HC9 HB9 ⊢
        clear hm9 hok HC8 hown9 hbel9 hgr9 hnew9 hwb9 g19 gf9 hwb hl3 g1 HC3 HBW
        obtain ⟨lA, lc, hlv, _, _, _⟩ := HC9.mrow.slV
        subst hlv
        have hmb := HC9.mbox
        rw [HGM.out] at hmb
        have hl9 := HC9.lt
        have m1 : W10.cell? ⟨gM, 1, none⟩ = some (.slice lA (Fan.mlines k).length lc) := blk_cell hmb 1
        have hml : (Fan.mlines k).length ≤ 56 := by rw [Fan.mlines_len]; omega
        have HC9h := hide HC9
        clear HC9
        go_upto_region 6 with (at_builtin; refine append_own_many fLine (w.heap.size + 4) rfl _ _ 54 99 (.agg #[.int .i64 0, .string ⟨#[]⟩, .int .i64 0, .int .i64 0]) 40 rfl Tryd.underlying54 info_line' rfl (by omega) (.slice lA (Fan.mlines k).length lc) (Fan.mlines k) (Fan.four k) #[.int .i64 4, .string (ktx k), .int .i64 0, .int .i64 0, .int .i64 4, .string (ktx k), .int .i64 0, .int .i64 0, .int .i64 7, .string (ktx k), .int .i64 0, .int .i64 1, .int .i64 5, .string (ktx k), .int .i64 0, .int .i64 0] rfl rfl W10.heap.size 4 rfl rfl rfl HC9h.out.mrow (Below.refl _ _) (by omega) (by omega) ?_; intro v11 w11 hown11 hbel11 hgr11 hnew11; have hmb11 := (hgr11.block gM (by omega) (not_row (apart_blk HC9h.out.mrow hmb (by decide)))).trans hmb; have m11 := blk_cell hmb11 1; have mf11 := blk_free hmb11 1; obtain ⟨qA, qc, hv11, _, _, _⟩ := hown11.slV; subst hv11)
        have hm11 := FaIn.line HC9h.out HGM.out hown11 hgr11 hnew11
        have HB11 := HB9.trans hm11.2
        have HC11 := hide hm11.1
        clear hm11 hown11 hbel11 hgr11 hnew11 hmb11 m11 mf11 m1 hmb HC9h HB9
        rw [show (Fan.mlines k ++ Fan.four k).length = (Fan.mlines k).length + 4 by rw [List.length_append]; rfl] at HC11 HB11
        go_wp2_with fail
        go_roundw
        case rel => exact ⟨k + 1, _, _, _, by go_num, by omega, HC11.out, HB11⟩
        case measure => simp [intOf]; omega
      · have HTH : Hid (thrF t k = false) := hide (by unfold thrF; simp [hthr])
        have hthr0 : t / 2 ^ k % 2 = 0 := by omega
        rw [hthr0] at hbt
        clear hthr hthr0
        go_upto_region 11 with fail
        have HC3 := HC1.below hbA
        have HBW := HB2
        clear HC1 HB1 HB2 hnA hbA g1 f0 f1 f2 f3
        generalize W2 = W3 at HC3 HBW c0 c1 c2 c3 ⊢
        have hwb := HC3.world
        rw [HG.out] at hwb
        have hl3 := HC3.lt
        have hhl : hs.length ≤ 14 := by have := HC3.rows.len; simp at this; omega
        have g1 : W3.cell? ⟨gW, 1, none⟩ = some (.slice zA hs.length zc) := blk_cell hwb 1
        have hlx : Fan.linesF (thrF t) k = [⟨1, ⟨#[]⟩, k, 0⟩, ⟨2, ⟨#[]⟩, k, 0⟩] := by unfold Fan.linesF; rw [HTH.out]; rfl
        have HLX := hide hlx
        clear hlx
        go_upto_region 12 with (at_builtin; refine append_own_g fHdr (w.heap.size + 4) rfl _ _ 43 56 (.agg #[.string ⟨#[]⟩, .slice none 0 0]) 40 rfl Tryd.underlying43 info_mod rfl (by omega) (.slice zA hs.length zc) hs ⟨ltx k, some ⟨W3.heap.size, 0, none⟩, 2, 2⟩ #[.string (ltx k), .slice (some ⟨W3.heap.size, 0, none⟩) 2 2] rfl rfl (W3.heap.size + 1) (by simp) rfl (HC3.rows.row.alloc _) (Below.refl _ _) (by simp; omega) (by omega) ?_; intro v9 w9 hown9 hbel9 hgr9 hnew9; have hwb9 := (hgr9.block gW (by simp; omega) (not_row (apart_blk (HC3.rows.row.alloc (Obj.cells #[.int .i64 1, .string ⟨#[]⟩, .int .i64 k, .int .i64 0, .int .i64 2, .string ⟨#[]⟩, .int .i64 k, .int .i64 0] 99)) ((alloc_old _ _ (by omega)).trans hwb) (by decide)))).trans ((alloc_old _ _ (by omega)).trans hwb); have g19 := blk_cell hwb9 1; have gf9 := blk_free hwb9 1; obtain ⟨uA, uc, hv9, _, _, _⟩ := hown9.slV; subst hv9)
        have HC8 := HC3.below (Below.alloc (Below.refl _ W3) (Nat.le_refl _) (Obj.cells #[.int .i64 1, .string ⟨#[]⟩, .int .i64 k, .int .i64 0, .int .i64 2, .string ⟨#[]⟩, .int .i64 k, .int .i64 0] 99))
        have hok : HdrOk (W3.alloc (Obj.cells #[.int .i64 1, .string ⟨#[]⟩, .int .i64 k, .int .i64 0, .int .i64 2, .string ⟨#[]⟩, .int .i64 k, .int .i64 0] 99)) (w.heap.size + 4) ⟨ltx k, some ⟨W3.heap.size, 0, none⟩, 2, 2⟩ (Fan.modF (thrF t) k) := ⟨rfl, by show 2 = (Fan.linesF (thrF t) k).length; rw [HLX.out]; rfl, Nat.le_refl _, by show 2 ≤ maxLen; unfold maxLen; omega, by
          show Own fLine _ _ _ _ (Fan.linesF (thrF t) k)
          rw [HLX.out]
          exact World.ownsRow_lit W3 #[.int .i64 1, .string ⟨#[]⟩, .int .i64 k, .int .i64 0, .int .i64 2, .string ⟨#[]⟩, .int .i64 k, .int .i64 0] 2 (by omega) (by decide) rfl⟩
        have hm9 := FaIn.mod HC8 hok HG.out hown9 hgr9 (fun b e e2 => by have := HC3.mrow.lt e2; have : W3.heap.size = b := Option.some.inj e; omega)
        rw [show (hs ++ [(⟨ltx k, some ⟨W3.heap.size, 0, none⟩, 2, 2⟩ : HdrD)]).length = hs.length + 1 by simp] at hm9
        have HB9 := (HBW.alloc (by omega) (Obj.cells #[.int .i64 1, .string ⟨#[]⟩, .int .i64 k, .int .i64 0, .int .i64 2, .string ⟨#[]⟩, .int .i64 k, .int .i64 0] 99)).trans hm9.2
        have HC9 := hm9.1
        rw [show (List.range k).map (Fan.modF (thrF t)) ++ [Fan.modF (thrF t) k] = (List.range (k + 1)).map (Fan.modF (thrF t)) by rw [List.range_succ]; simp] at HC9
        generalize w9.setCell ⟨gW, 1, none⟩ (.slice uA (hs.length + 1) uc) = W10 at HC9 HB9 ⊢
        clear hm9 hok HC8 hown9 hbel9 hgr9 hnew9 hwb9 g19 gf9 hwb hl3 g1 HC3 HBW
        obtain ⟨lA, lc, hlv, _, _, _⟩ := HC9.mrow.slV
        subst hlv
        have hmb := HC9.mbox
        rw [HGM.out] at hmb
        have hl9 := HC9.lt
        have m1 : W10.cell? ⟨gM, 1, none⟩ = some (.slice lA (Fan.mlines k).length lc) := blk_cell hmb 1
        have hml : (Fan.mlines k).length ≤ 56 := by rw [Fan.mlines_len]; omega
        have HC9h := hide HC9
        clear HC9
        go_upto_region 6 with (at_builtin; refine append_own_many fLine (w.heap.size + 4) rfl _ _ 54 99 (.agg #[.int .i64 0, .string ⟨#[]⟩, .int .i64 0, .int .i64 0]) 40 rfl Tryd.underlying54 info_line' rfl (by omega) (.slice lA (Fan.mlines k).length lc) (Fan.mlines k) (Fan.four k) #[.int .i64 4, .string (ktx k), .int .i64 0, .int .i64 0, .int .i64 4, .string (ktx k), .int .i64 0, .int .i64 0, .int .i64 7, .string (ktx k), .int .i64 0, .int .i64 1, .int .i64 5, .string (ktx k), .int .i64 0, .int .i64 0] rfl rfl W10.heap.size 4 rfl rfl rfl HC9h.out.mrow (Below.refl _ _) (by omega) (by omega) ?_; intro v11 w11 hown11 hbel11 hgr11 hnew11; have hmb11 := (hgr11.block gM (by omega) (not_row (apart_blk HC9h.out.mrow hmb (by decide)))).trans hmb; have m11 := blk_cell hmb11 1; have mf11 := blk_free hmb11 1; obtain ⟨qA, qc, hv11, _, _, _⟩ := hown11.slV; subst hv11)
        have hm11 := FaIn.line HC9h.out HGM.out hown11 hgr11 hnew11
        have HB11 := HB9.trans hm11.2
        have HC11 := hide hm11.1
        clear hm11 hown11 hbel11 hgr11 hnew11 hmb11 m11 mf11 m1 hmb HC9h HB9
        rw [show (Fan.mlines k ++ Fan.four k).length = (Fan.mlines k).length + 4 by rw [List.length_append]; rfl] at HC11 HB11
        go_wp2_with fail
        go_roundw
        case rel => exact ⟨k + 1, _, _, _, by go_num, by omega, HC11.out, HB11⟩
        case measure => simp [intOf]; omega
    · obtain rfl : k = n := by omega
      obtain ⟨zA, zc, hzv, _, _, _⟩ := HC.rows.row.slV
      subst hzv
      obtain ⟨lA, lc, hlv, hlc1, hlc2, _⟩ := HC.mrow.slV
      subst hlv
      have hwb := HC.world
      rw [HG.out] at hwb
      have hmb := HC.mbox
      rw [HGM.out] at hmb
      have hl3 := HC.lt
      have hhl : hs.length ≤ 14 := by have := HC.rows.len; simp at this; omega
      have g1 : wr.cell? ⟨gW, 1, none⟩ = some (.slice zA hs.length zc) := blk_cell hwb 1
      have m0 : wr.cell? ⟨gM, 0, none⟩ = some (.string Ld.mainName) := blk_cell hmb 0
      have m1 : wr.cell? ⟨gM, 1, none⟩ = some (.slice lA (Fan.mlines k).length lc) := blk_cell hmb 1
      go_upto_region 14 with (at_builtin; refine append_own_g fHdr (w.heap.size + 4) rfl _ _ 43 56 (.agg #[.string ⟨#[]⟩, .slice none 0 0]) 40 rfl Tryd.underlying43 info_mod rfl (by omega) (.slice zA hs.length zc) hs ⟨Ld.mainName, lA, (Fan.mlines k).length, lc⟩ #[.string Ld.mainName, .slice lA (Fan.mlines k).length lc] rfl rfl wr.heap.size rfl rfl HC.rows.row (Below.refl _ _) (by omega) (by omega) ?_; intro v9 w9 hown9 hbel9 hgr9 hnew9; have hwb9 := (hgr9.block gW (by omega) (not_row (apart_blk HC.rows.row hwb (by decide)))).trans hwb; have g19 := blk_cell hwb9 1; have gf9 := blk_free hwb9 1; obtain ⟨uA, uc, hv9, _, _, _⟩ := hown9.slV; subst hv9)
      have hok : HdrOk wr (w.heap.size + 4) ⟨Ld.mainName, lA, (Fan.mlines k).length, lc⟩ (Fan.mainMod k) := ⟨rfl, rfl, hlc1, hlc2, HC.mrow⟩
      have hr9 := HC.rows.snoc hok hgr9 hown9
      rw [show (hs ++ [(⟨Ld.mainName, lA, (Fan.mlines k).length, lc⟩ : HdrD)]).length = hs.length + 1 by simp] at hr9
      have hvm : ∀ b, (Value.slice zA hs.length zc).ownBlock = some b → w.heap.size + 4 ≤ b := fun b e => HC.rows.row.le e
      have hkeep : ∀ b, b < w.heap.size + 4 → w9.heap[b]? = wr.heap[b]? := fun b hb => hgr9.block _ (by omega) (fun e => by have := hvm _ e.symm; omega)
      have hg2 := grown_set w9 gW 1 (.slice uA (hs.length + 1) uc)
      have hz9 := hgr9.size
      have hB9 : Below w.heap.size w (w9.setCell ⟨gW, 1, none⟩ (.slice uA (hs.length + 1) uc)) := (HB.grown hgr9 (by omega) (fun b e => by have := hvm b e; omega)).setCell (by show w.heap.size ≤ gW; omega) _
      have hr10 : OwnH (w9.setCell ⟨gW, 1, none⟩ (.slice uA (hs.length + 1) uc)) (w.heap.size + 4) (.slice uA (hs.length + 1) uc) (hs ++ [⟨Ld.mainName, lA, (Fan.mlines k).length, lc⟩]) ((List.range k).map (Fan.modF (thrF t)) ++ [Fan.mainMod k]) := hr9.kept hg2 (apart_blk hr9.row hwb9 (by decide)) (fun _ _ a => apart_blk a.own hwb9 (by decide))
      have hwb10 := blk_set hwb9 1 (.slice uA (hs.length + 1) uc)
      have hrt10 := (hg2.block (w.heap.size + 1) (by omega) (by simp; omega)).trans ((hkeep _ (by omega)).trans HC.roots)
      have hrs10 := (hg2.block w.heap.size (by omega) (by simp; omega)).trans ((hkeep _ (by omega)).trans HC.res)
      generalize w9.setCell ⟨gW, 1, none⟩ (.slice uA (hs.length + 1) uc) = W10 at hr10 hwb10 hrt10 hrs10 hB9 ⊢
      have x0 : W10.cell? ⟨gW, 0, none⟩ = some (.slice (some ⟨w.heap.size + 1, 0, none⟩) 2 2) := blk_cell hwb10 0
      have x1 : W10.cell? ⟨gW, 1, none⟩ = some (.slice uA (hs.length + 1) uc) := blk_cell hwb10 1
      have x2 : W10.cell? ⟨gW, 2, none⟩ = some (.slice none 0 0) := blk_cell hwb10 2
      have r0 : W10.cell? ⟨w.heap.size, 0, none⟩ = some (.slice none 0 0) := blk_cell hrs10 0
      have r1 : W10.cell? ⟨w.heap.size, 1, none⟩ = some (.slice none 0 0) := blk_cell hrs10 1
      have r2 : W10.cell? ⟨w.heap.size, 2, none⟩ = some (.slice none 0 0) := blk_cell hrs10 2
      have f0 := blk_free hrs10 0
      have f1 := blk_free hrs10 1
      have f2 := blk_free hrs10 2
      have hne : gW ≠ w.heap.size := by omega
      have HRW := hide hr10.slV
      have HRT := hide hrt10
      have HB9 := hide hB9
      clear hok hr9 hvm hkeep hg2 hz9 hr10 hwb10 hrt10 hrs10 hB9 hown9 hbel9 hgr9 hnew9 hwb9 g19 gf9 HC HB hwb hmb hl3 hhl g1 m0 m1
      go_wp2_with fail
      have hk3 : ∀ b, w.heap.size + 1 ≤ b → (((W10.setCell ⟨w.heap.size, 0, none⟩ (.slice (some ⟨w.heap.size + 1, 0, none⟩) 2 2)).setCell ⟨w.heap.size, 1, none⟩ (.slice uA (hs.length + 1) uc)).setCell ⟨w.heap.size, 2, none⟩ (.slice none 0 0)).heap[b]? = W10.heap[b]? := fun b hb => by
        simp only [World.setCell]
        repeat rw [Array.getElem?_modify, if_neg (by omega)]
      have hbz := HB9.out
      refine bodyPost_ret (v := .agg #[.slice (some ⟨w.heap.size + 1, 0, none⟩) 2 2, .slice uA (hs.length + 1) uc, .slice none 0 0]) (by simp [results, Tryd.results31, go_sem, r0, r1, r2]) rfl ⟨_, _, _, rfl, ⟨?_, ?_, ⟨none, 0, rfl, Nat.le_refl _, Nat.zero_le _, Sl.nil⟩⟩, by (repeat (first | with_reducible exact Below.refl _ _ | with_reducible assumption | with_reducible refine Below.alloc ?_ (by first | exact Nat.le_refl _ | exact Below.size (by assumption) | exact Nat.le_trans (Below.size (by assumption)) (by simp; done) | (simp; done) | (simp; omega) | omega) _ | with_reducible refine below_drewN ?_ _ | with_reducible refine Below.drew ?_ | with_reducible refine Below.setCell ?_ (by first | exact Nat.le_refl _ | (simp; done) | (simp; omega) | omega) _))⟩
      · refine ⟨some ⟨w.heap.size + 1, 0, none⟩, 2, rfl, Nat.le_refl _, by decide, fun _ => ⟨_, rfl, fun i x hi => ?_⟩⟩
        rcases i with _ | _ | i
        · obtain rfl : (⟨#[]⟩ : Str) = x := by simpa [Fan.fan] using hi
          refine ⟨by rw [block_add]; exact Nat.le_succ _, ?_⟩
          rw [add_plain]
          exact blk_cell ((hk3 _ (Nat.le_refl _)).trans HRT.out) 0
        · obtain rfl : (⟨#[108, 105, 98]⟩ : Str) = x := by simpa [Fan.fan] using hi
          refine ⟨by rw [block_add]; exact Nat.le_succ _, ?_⟩
          rw [add_plain]
          exact blk_cell ((hk3 _ (Nat.le_refl _)).trans HRT.out) 1
        · simp [Fan.fan] at hi
      · exact (HRW.out.same (fun b hb => hk3 b (by omega))).more (fun b hb => by omega)
end Go.Proofs.YtkhlicmlnjccdaaDoor
