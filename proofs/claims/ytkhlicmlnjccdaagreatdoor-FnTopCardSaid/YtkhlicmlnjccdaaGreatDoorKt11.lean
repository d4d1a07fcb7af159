/-
  The reference's drawing: ask.
-/
import Derived.Test.YtkhlicmlnjccdaaGreatDoorKt10
namespace Go.Proofs.YtkhlicmlnjccdaaGreatDoor
open Go.RowKit Mem

def askList : List Str := [⟨#[]⟩, ⟨#[46]⟩, ⟨#[46, 46]⟩, ⟨#[97, 47, 47, 98]⟩, ⟨#[65]⟩, ⟨#[97, 47]⟩, ⟨#[47, 97]⟩, ⟨#[97, 32, 98]⟩, ⟨#[46, 47]⟩, ⟨#[46, 46, 47, 46, 46, 47, 46, 46, 47, 120]⟩, ⟨#[97, 47, 46, 46, 47, 98]⟩, ⟨#[97, 47, 46, 47, 98]⟩]
theorem askList_size (i : Nat) : (askList.getD i ⟨#[]⟩).size ≤ 10 := by
  rcases i with _ | _ | _ | _ | _ | _ | _ | _ | _ | _ | _ | _ | i
  all_goals first | decide | (show (⟨#[]⟩ : Str).size ≤ 10; decide)
def Cur.askOne (c : Cur) (names : List Str) : Str × Cur :=
  if names.length = 0 then c.name else
    if (c.name.2.pick 5).1 = 0 then (c.name.1, (c.name.2.pick 5).2) else
      (names.getD ((c.name.2.pick 5).2.pick names.length).1 ⟨#[]⟩, ((c.name.2.pick 5).2.pick names.length).2)
def askTwo (s : Str) (k : Nat) (c : Cur) : Str × Cur :=
  if k = 0 then (⟨#[46, 47]⟩ ++ c.part.1, c.part.2) else
  if k = 1 then (⟨#[46, 46, 47]⟩ ++ c.part.1, c.part.2) else
  if k = 2 then c.part else
  if k = 3 then (⟨#[46, 47, 46, 46, 47]⟩ ++ s, c) else
  if k = 4 then (if (c.pick 3).1 = 0 then (askList.getD ((c.pick 3).2.pick 12).1 ⟨#[]⟩, ((c.pick 3).2.pick 12).2) else (s, (c.pick 3).2)) else (s, c)
def Cur.ask (c : Cur) (names : List Str) : Str × Cur := askTwo (c.askOne names).1 ((c.askOne names).2.pick 9).1 ((c.askOne names).2.pick 9).2
theorem askOne_ok (c : Cur) (names : List Str) (h : c.Bytes) (hn : ∀ x ∈ names, x.size ≤ 20) : c.Ok (c.askOne names).2 12 ∧ (c.askOne names).1.size ≤ 20 := by
  have h1 := name_ok c h
  have h2 := pick_ok c.name.2 5 (h1.1.bytes h)
  have h3 := pick_ok (c.name.2.pick 5).2 names.length (h2.bytes (h1.1.bytes h))
  unfold Cur.askOne
  split
  · exact ⟨h1.1.more (by omega), by have := h1.2; omega⟩
  · split
    · exact ⟨(h1.1.then h2).more (by omega), by have := h1.2; show c.name.1.size ≤ 20; omega⟩
    · refine ⟨((h1.1.then h2).then h3).more (by omega), ?_⟩
      show (names.getD _ ⟨#[]⟩).size ≤ 20
      rw [List.getD_eq_getElem?_getD]
      cases hx : names[((c.name.2.pick 5).2.pick names.length).1]? with
      | none => show (⟨#[]⟩ : Str).size ≤ 20; decide
      | some x => exact hn x (List.mem_of_getElem? hx)
theorem askTwo_ok (s : Str) (k : Nat) (c : Cur) (h : c.Bytes) (hs : s.size ≤ 20) : c.Ok (askTwo s k c).2 4 ∧ (askTwo s k c).1.size ≤ 25 := by
  have hp := part_ok c h
  have h2 := pick_ok c 3 h
  have h3 := pick_ok (c.pick 3).2 12 (h2.bytes h)
  have a1 : (⟨#[46, 47]⟩ : Str).size = 2 := rfl
  have a2 : (⟨#[46, 46, 47]⟩ : Str).size = 3 := rfl
  have a3 : (⟨#[46, 47, 46, 46, 47]⟩ : Str).size = 5 := rfl
  unfold askTwo
  split
  · exact ⟨hp.1.more (by omega), by show (_ ++ _ : Str).size ≤ 25; rw [ByteArray.size_append]; have := hp.2; omega⟩
  · split
    · exact ⟨hp.1.more (by omega), by show (_ ++ _ : Str).size ≤ 25; rw [ByteArray.size_append]; have := hp.2; omega⟩
    · split
      · exact ⟨hp.1.more (by omega), by have := hp.2; omega⟩
      · split
        · exact ⟨(Cur.Ok.refl c).more (by omega), by show (_ ++ _ : Str).size ≤ 25; rw [ByteArray.size_append]; omega⟩
        · split
          · split
            · exact ⟨(h2.then h3).more (by omega), by have := askList_size ((c.pick 3).2.pick 12).1; show (askList.getD _ ⟨#[]⟩).size ≤ 25; omega⟩
            · exact ⟨h2.more (by omega), by show s.size ≤ 25; omega⟩
          · exact ⟨(Cur.Ok.refl c).more (by omega), by show s.size ≤ 25; omega⟩
theorem ask_ok (c : Cur) (names : List Str) (h : c.Bytes) (hn : ∀ x ∈ names, x.size ≤ 20) : c.Ok (c.ask names).2 18 ∧ (c.ask names).1.size ≤ 25 := by
  have h1 := askOne_ok c names h hn
  have h2 := pick_ok (c.askOne names).2 9 (h1.1.bytes h)
  have h3 := askTwo_ok (c.askOne names).1 ((c.askOne names).2.pick 9).1 ((c.askOne names).2.pick 9).2 (h2.bytes (h1.1.bytes h)) h1.2
  exact ⟨((h1.1.then h2).then h3.1).more (by omega), h3.2⟩

set_option maxRecDepth 100000 in
set_option maxHeartbeats 4000000 in
theorem ask_calls (w : World) (g n cp m c2 : Nat) (A B : Option Addr) (c : Cur) (names : List Str) (h : CurAt w g A n cp c) (hN : Sl kStr w (fun b => b ≠ g) B names) (hm : names.length = m) (hml : m ≤ 1000) (hns : ∀ x ∈ names, x.size ≤ 20) (hp : c.pos ≤ 1073741000) :
    Calls Tryz.prog 66 #[.pointer (some ⟨g, 0, none⟩), .slice B m c2] w (RetCur w g A n cp (.string (c.ask names).1) (c.ask names).2) := by
  subst hm
  have hc1 := name_calls w g n cp A c h (by omega)
  have o1 := name_ok c h.small
  obtain ⟨s1, d1, e1⟩ : ∃ s d, c.name = (s, d) := ⟨_, _, rfl⟩
  rw [e1] at hc1 o1
  replace hc1 : Calls Tryz.prog 63 #[.pointer (some ⟨g, 0, none⟩)] w (RetCur w g A n cp (.string s1) d1) := hc1
  replace o1 : c.Ok d1 8 ∧ s1.size ≤ 11 := o1
  have p1 := o1.1.pos
  have z1 := o1.2
  have y1 := o1.1.bytes h.small
  have HC1 := hide hc1
  clear hc1 o1
  by_cases h0 : names.length = 0
  · have hq : c.askOne names = (s1, d1) := by unfold Cur.askOne; rw [if_pos h0, e1]
    have HQ := hide hq
    clear hq e1 hN
    go_enter Tryz.func66, Tryz.ntmps66
    go_wp2_with fail
    refine (unhide HC1).mono ?_
    rintro e w1 ⟨rfl, t1⟩
    clear HC1
    go_wp2_with fail
    have hk := pick_calls w1 g n cp 9 A d1 t1.1 (by omega) (by omega)
    have ok := pick_ok d1 9 t1.1.small
    have lk := pick_lt d1 9 t1.1.small (by omega)
    obtain ⟨k, c3, ek⟩ : ∃ k d, d1.pick 9 = (k, d) := ⟨_, _, rfl⟩
    rw [ek] at hk ok lk
    replace hk : Calls Tryz.prog 54 #[.pointer (some ⟨g, 0, none⟩), .int .i64 9] w1 (RetCur w1 g A n cp (.int .i64 k) c3) := hk
    replace ok : d1.Ok c3 2 := ok
    replace lk : k < 9 := lk
    have hqq : c.ask names = askTwo s1 k c3 := by unfold Cur.ask; rw [HQ.out]; show askTwo s1 (d1.pick 9).1 (d1.pick 9).2 = _; rw [ek]
    have HQQ := hide hqq
    have HK := hide hk
    have y3 : c3.Bytes := ok.bytes t1.1.small
    have p3 : c3.pos ≤ c.pos + 14 := by have := ok.pos; omega
    clear hk ok ek hqq HQ
    go_wp2_with fail
    refine (unhide HK).mono ?_
    rintro e w3 ⟨rfl, t3⟩
    have t := t1.then t3
    clear t1 t3 HK
    have a1 : (⟨#[46, 47]⟩ : Str).size = 2 := rfl
    have a2 : (⟨#[46, 46, 47]⟩ : Str).size = 3 := rfl
    have a3 : (⟨#[46, 47, 46, 46, 47]⟩ : Str).size = 5 := rfl
    by_cases hk3 : k < 3
    · have hp := part_calls w3 g n cp A c3 t.1 (by omega)
      have op := (part_ok c3 y3).2
      obtain ⟨p, c4, ep⟩ : ∃ p d, c3.part = (p, d) := ⟨_, _, rfl⟩
      rw [ep] at hp op
      replace hp : Calls Tryz.prog 65 #[.pointer (some ⟨g, 0, none⟩)] w3 (RetCur w3 g A n cp (.string p) c4) := hp
      replace op : p.size ≤ 3 := op
      have k1 := fun W : World => run_string_add_sum (P := Tryz.prog) (w := W) ⟨#[46, 47]⟩ p (by omega)
      have k2 := fun W : World => run_string_add_sum (P := Tryz.prog) (w := W) ⟨#[46, 46, 47]⟩ p (by omega)
      have HP := hide hp
      have hq0 : k = 0 → c.ask names = (⟨#[46, 47]⟩ ++ p, c4) := fun e => by rw [HQQ.out]; unfold askTwo; rw [if_pos e, ep]
      have hq1 : k = 1 → c.ask names = (⟨#[46, 46, 47]⟩ ++ p, c4) := fun e => by rw [HQQ.out]; unfold askTwo; rw [if_neg (by omega), if_pos e, ep]
      have hq2 : k = 2 → c.ask names = (p, c4) := fun e => by rw [HQQ.out]; unfold askTwo; rw [if_neg (by omega), if_neg (by omega), if_pos e, ep]
      have HA := hide hq0
      have HB := hide hq1
      have HD := hide hq2
      clear hp ep hq0 hq1 hq2 a1 a2 a3
      rcases (show k = 0 ∨ k = 1 ∨ k = 2 by omega) with rfl | rfl | rfl
      · go_wp2_with fail
        refine (unhide HP).mono ?_
        rintro e w4 ⟨rfl, t4⟩
        go_wp2_with fail
        go_ret
        rw [HA.out (by trivial)]
        exact ⟨rfl, t.then t4⟩
      · go_wp2_with fail
        refine (unhide HP).mono ?_
        rintro e w4 ⟨rfl, t4⟩
        go_wp2_with fail
        go_ret
        rw [HB.out (by trivial)]
        exact ⟨rfl, t.then t4⟩
      · go_wp2_with fail
        refine (unhide HP).mono ?_
        rintro e w4 ⟨rfl, t4⟩
        go_wp2_with fail
        go_ret
        rw [HD.out (by trivial)]
        exact ⟨rfl, t.then t4⟩
    by_cases hk4 : k = 3
    · subst hk4
      have k3 := fun W : World => run_string_add_sum (P := Tryz.prog) (w := W) ⟨#[46, 47, 46, 46, 47]⟩ s1 (by omega)
      have hq3 : c.ask names = (⟨#[46, 47, 46, 46, 47]⟩ ++ s1, c3) := by rw [HQQ.out]; rfl
      have HA := hide hq3
      clear hq3 a1 a2 a3
      go_wp2_with fail
      go_ret
      rw [HA.out]
      exact ⟨rfl, t⟩
    by_cases hk5 : k = 4
    · subst hk5
      have h5 := pick_calls w3 g n cp 3 A c3 t.1 (by omega) (by omega)
      have o5 := pick_ok c3 3 y3
      obtain ⟨x, c5, e5⟩ : ∃ x d, c3.pick 3 = (x, d) := ⟨_, _, rfl⟩
      rw [e5] at h5 o5
      replace h5 : Calls Tryz.prog 54 #[.pointer (some ⟨g, 0, none⟩), .int .i64 3] w3 (RetCur w3 g A n cp (.int .i64 x) c5) := h5
      replace o5 : c3.Ok c5 2 := o5
      have y5 := o5.bytes y3
      have H5 := hide h5
      by_cases hx : x = 0
      · subst hx
        have h6 := fun (W : World) (h : CurAt W g A n cp c5) => pick_calls W g n cp 12 A c5 h (by have := o5.pos; omega) (by omega)
        have l6 := pick_lt c5 12 y5 (by omega)
        obtain ⟨r, c6, e6⟩ : ∃ x d, c5.pick 12 = (x, d) := ⟨_, _, rfl⟩
        rw [e6] at h6 l6
        replace h6 : ∀ W : World, CurAt W g A n cp c5 → Calls Tryz.prog 54 #[.pointer (some ⟨g, 0, none⟩), .int .i64 12] W (RetCur W g A n cp (.int .i64 r) c6) := h6
        replace l6 : r < 12 := l6
        have hq4 : c.ask names = (askList.getD r ⟨#[]⟩, c6) := by rw [HQQ.out]; show (if (c3.pick 3).1 = 0 then _ else _) = _; rw [e5, if_pos rfl]; show (askList.getD (c5.pick 12).1 ⟨#[]⟩, (c5.pick 12).2) = _; rw [e6]
        have HA := hide hq4
        have H6 := hide h6
        clear h5 h6 e5 e6 hq4 a1 a2 a3
        go_wp2_with fail
        refine (unhide H5).mono ?_
        rintro e w5 ⟨rfl, t5⟩
        have tt := t.then t5
        have hb0 : Below w5.heap.size w5 (w5.alloc (Obj.cells (askList.map Value.string).toArray 9)) := by (repeat (first | with_reducible exact Below.refl _ _ | with_reducible assumption | with_reducible refine Below.alloc ?_ (by first | exact Nat.le_refl _ | exact Below.size (by assumption) | exact Nat.le_trans (Below.size (by assumption)) (by simp; done) | (simp; done) | (simp; omega) | omega) _ | with_reducible refine below_drewN ?_ _ | with_reducible refine Below.drew ?_ | with_reducible refine Below.setCell ?_ (by first | exact Nat.le_refl _ | (simp; done) | (simp; omega) | omega) _))
        have hgl := tt.1.lt
        clear t t5 H5
        go_wp2_with fail
        refine (H6.out _ (tt.1.below hb0)).mono ?_
        rintro e w6 ⟨rfl, t6⟩
        have hblk := (t6.2.block w5.heap.size (by simp) (fun e => by have := Option.some.inj e; omega)).trans (heap_alloc_new w5 _)
        have hcell : w6.cell? ⟨w5.heap.size, r, none⟩ = some (.string (askList.getD r ⟨#[]⟩)) := by
          rw [blk_cell hblk r]
          rcases r with _ | _ | _ | _ | _ | _ | _ | _ | _ | _ | _ | _ | r
          all_goals first | rfl | (exfalso; omega)
        have t7 := (tt.below hb0).then t6
        generalize askList.getD r ⟨#[]⟩ = q at hcell HA
        clear hblk hb0 tt t6 H6
        go_wp2_with fail
        go_ret
        rw [HA.out]
        exact ⟨rfl, t7⟩
      · have hq4 : c.ask names = (s1, c5) := by rw [HQQ.out]; show (if (c3.pick 3).1 = 0 then _ else _) = _; rw [e5, if_neg hx]
        have HA := hide hq4
        have hxb : ((x : Int) == 0) = false := by simp; omega
        clear h5 e5 hq4 a1 a2 a3 hx
        go_wp2_with fail
        refine (unhide H5).mono ?_
        rintro e w5 ⟨rfl, t5⟩
        go_wp2_with fail
        go_ret
        rw [HA.out]
        exact ⟨rfl, t.then t5⟩
    · have hq5 : c.ask names = (s1, c3) := by rw [HQQ.out]; unfold askTwo; rw [if_neg (by omega), if_neg (by omega), if_neg (by omega), if_neg hk4, if_neg hk5]
      have HA := hide hq5
      have b0 : ((k : Int) == 0) = false := by simp; omega
      have b1 : ((k : Int) == 1) = false := by simp; omega
      have b2 : ((k : Int) == 2) = false := by simp; omega
      have b3 : ((k : Int) == 3) = false := by simp; omega
      have b4 : ((k : Int) == 4) = false := by simp; omega
      clear hq5 a1 a2 a3 hk3 hk4 hk5
      go_wp2_with fail
      go_ret
      rw [HA.out]
      exact ⟨rfl, t⟩
  have hc2 := fun (W : World) (h : CurAt W g A n cp d1) => pick_calls W g n cp 5 A d1 h (by omega) (by omega)
  have o2 := pick_ok d1 5 y1
  have l2 := pick_lt d1 5 y1 (by omega)
  obtain ⟨r2, d2, e2⟩ : ∃ r d, d1.pick 5 = (r, d) := ⟨_, _, rfl⟩
  rw [e2] at hc2 o2 l2
  replace hc2 : ∀ W : World, CurAt W g A n cp d1 → Calls Tryz.prog 54 #[.pointer (some ⟨g, 0, none⟩), .int .i64 5] W (RetCur W g A n cp (.int .i64 r2) d2) := hc2
  replace o2 : d1.Ok d2 2 := o2
  replace l2 : r2 < 5 := l2
  have p2 := o2.pos
  have y2 := o2.bytes y1
  have HC2 := hide hc2
  clear hc2 o2
  by_cases hr : r2 = 0
  · have hq : c.askOne names = (s1, d2) := by unfold Cur.askOne; rw [if_neg h0, e1]; show (if (d1.pick 5).1 = 0 then _ else _) = _; rw [e2, if_pos hr]
    have HQ := hide hq
    subst hr
    clear hq e1 e2 hN
    go_enter Tryz.func66, Tryz.ntmps66
    go_wp2_with fail
    refine (unhide HC1).mono ?_
    rintro e w1 ⟨rfl, t1⟩
    clear HC1
    go_wp2_with fail
    refine (HC2.out _ t1.1).mono ?_
    rintro e w2 ⟨rfl, t2⟩
    replace t2 := t1.then t2
    clear t1 HC2
    go_wp2_with fail
    have hk := pick_calls w2 g n cp 9 A d2 t2.1 (by omega) (by omega)
    have ok := pick_ok d2 9 t2.1.small
    have lk := pick_lt d2 9 t2.1.small (by omega)
    obtain ⟨k, c3, ek⟩ : ∃ k d, d2.pick 9 = (k, d) := ⟨_, _, rfl⟩
    rw [ek] at hk ok lk
    replace hk : Calls Tryz.prog 54 #[.pointer (some ⟨g, 0, none⟩), .int .i64 9] w2 (RetCur w2 g A n cp (.int .i64 k) c3) := hk
    replace ok : d2.Ok c3 2 := ok
    replace lk : k < 9 := lk
    have hqq : c.ask names = askTwo s1 k c3 := by unfold Cur.ask; rw [HQ.out]; show askTwo s1 (d2.pick 9).1 (d2.pick 9).2 = _; rw [ek]
    have HQQ := hide hqq
    have HK := hide hk
    have y3 : c3.Bytes := ok.bytes t2.1.small
    have p3 : c3.pos ≤ c.pos + 14 := by have := ok.pos; omega
    clear hk ok ek hqq HQ
    go_wp2_with fail
    refine (unhide HK).mono ?_
    rintro e w3 ⟨rfl, t3⟩
    have t := t2.then t3
    clear t2 t3 HK
    have a1 : (⟨#[46, 47]⟩ : Str).size = 2 := rfl
    have a2 : (⟨#[46, 46, 47]⟩ : Str).size = 3 := rfl
    have a3 : (⟨#[46, 47, 46, 46, 47]⟩ : Str).size = 5 := rfl
    by_cases hk3 : k < 3
    · have hp := part_calls w3 g n cp A c3 t.1 (by omega)
      have op := (part_ok c3 y3).2
      obtain ⟨p, c4, ep⟩ : ∃ p d, c3.part = (p, d) := ⟨_, _, rfl⟩
      rw [ep] at hp op
      replace hp : Calls Tryz.prog 65 #[.pointer (some ⟨g, 0, none⟩)] w3 (RetCur w3 g A n cp (.string p) c4) := hp
      replace op : p.size ≤ 3 := op
      have k1 := fun W : World => run_string_add_sum (P := Tryz.prog) (w := W) ⟨#[46, 47]⟩ p (by omega)
      have k2 := fun W : World => run_string_add_sum (P := Tryz.prog) (w := W) ⟨#[46, 46, 47]⟩ p (by omega)
      have HP := hide hp
      have hq0 : k = 0 → c.ask names = (⟨#[46, 47]⟩ ++ p, c4) := fun e => by rw [HQQ.out]; unfold askTwo; rw [if_pos e, ep]
      have hq1 : k = 1 → c.ask names = (⟨#[46, 46, 47]⟩ ++ p, c4) := fun e => by rw [HQQ.out]; unfold askTwo; rw [if_neg (by omega), if_pos e, ep]
      have hq2 : k = 2 → c.ask names = (p, c4) := fun e => by rw [HQQ.out]; unfold askTwo; rw [if_neg (by omega), if_neg (by omega), if_pos e, ep]
      have HA := hide hq0
      have HB := hide hq1
      have HD := hide hq2
      clear hp ep hq0 hq1 hq2 a1 a2 a3
      rcases (show k = 0 ∨ k = 1 ∨ k = 2 by omega) with rfl | rfl | rfl
      · go_wp2_with fail
        refine (unhide HP).mono ?_
        rintro e w4 ⟨rfl, t4⟩
        go_wp2_with fail
        go_ret
        rw [HA.out (by trivial)]
        exact ⟨rfl, t.then t4⟩
      · go_wp2_with fail
        refine (unhide HP).mono ?_
        rintro e w4 ⟨rfl, t4⟩
        go_wp2_with fail
        go_ret
        rw [HB.out (by trivial)]
        exact ⟨rfl, t.then t4⟩
      · go_wp2_with fail
        refine (unhide HP).mono ?_
        rintro e w4 ⟨rfl, t4⟩
        go_wp2_with fail
        go_ret
        rw [HD.out (by trivial)]
        exact ⟨rfl, t.then t4⟩
    by_cases hk4 : k = 3
    · subst hk4
      have k3 := fun W : World => run_string_add_sum (P := Tryz.prog) (w := W) ⟨#[46, 47, 46, 46, 47]⟩ s1 (by omega)
      have hq3 : c.ask names = (⟨#[46, 47, 46, 46, 47]⟩ ++ s1, c3) := by rw [HQQ.out]; rfl
      have HA := hide hq3
      clear hq3 a1 a2 a3
      go_wp2_with fail
      go_ret
      rw [HA.out]
      exact ⟨rfl, t⟩
    by_cases hk5 : k = 4
    · subst hk5
      have h5 := pick_calls w3 g n cp 3 A c3 t.1 (by omega) (by omega)
      have o5 := pick_ok c3 3 y3
      obtain ⟨x, c5, e5⟩ : ∃ x d, c3.pick 3 = (x, d) := ⟨_, _, rfl⟩
      rw [e5] at h5 o5
      replace h5 : Calls Tryz.prog 54 #[.pointer (some ⟨g, 0, none⟩), .int .i64 3] w3 (RetCur w3 g A n cp (.int .i64 x) c5) := h5
      replace o5 : c3.Ok c5 2 := o5
      have y5 := o5.bytes y3
      have H5 := hide h5
      by_cases hx : x = 0
      · subst hx
        have h6 := fun (W : World) (h : CurAt W g A n cp c5) => pick_calls W g n cp 12 A c5 h (by have := o5.pos; omega) (by omega)
        have l6 := pick_lt c5 12 y5 (by omega)
        obtain ⟨r, c6, e6⟩ : ∃ x d, c5.pick 12 = (x, d) := ⟨_, _, rfl⟩
        rw [e6] at h6 l6
        replace h6 : ∀ W : World, CurAt W g A n cp c5 → Calls Tryz.prog 54 #[.pointer (some ⟨g, 0, none⟩), .int .i64 12] W (RetCur W g A n cp (.int .i64 r) c6) := h6
        replace l6 : r < 12 := l6
        have hq4 : c.ask names = (askList.getD r ⟨#[]⟩, c6) := by rw [HQQ.out]; show (if (c3.pick 3).1 = 0 then _ else _) = _; rw [e5, if_pos rfl]; show (askList.getD (c5.pick 12).1 ⟨#[]⟩, (c5.pick 12).2) = _; rw [e6]
        have HA := hide hq4
        have H6 := hide h6
        clear h5 h6 e5 e6 hq4 a1 a2 a3
        go_wp2_with fail
        refine (unhide H5).mono ?_
        rintro e w5 ⟨rfl, t5⟩
        have tt := t.then t5
        have hb0 : Below w5.heap.size w5 (w5.alloc (Obj.cells (askList.map Value.string).toArray 9)) := by (repeat (first | with_reducible exact Below.refl _ _ | with_reducible assumption | with_reducible refine Below.alloc ?_ (by first | exact Nat.le_refl _ | exact Below.size (by assumption) | exact Nat.le_trans (Below.size (by assumption)) (by simp; done) | (simp; done) | (simp; omega) | omega) _ | with_reducible refine below_drewN ?_ _ | with_reducible refine Below.drew ?_ | with_reducible refine Below.setCell ?_ (by first | exact Nat.le_refl _ | (simp; done) | (simp; omega) | omega) _))
        have hgl := tt.1.lt
        clear t t5 H5
        go_wp2_with fail
        refine (H6.out _ (tt.1.below hb0)).mono ?_
        rintro e w6 ⟨rfl, t6⟩
        have hblk := (t6.2.block w5.heap.size (by simp) (fun e => by have := Option.some.inj e; omega)).trans (heap_alloc_new w5 _)
        have hcell : w6.cell? ⟨w5.heap.size, r, none⟩ = some (.string (askList.getD r ⟨#[]⟩)) := by
          rw [blk_cell hblk r]
          rcases r with _ | _ | _ | _ | _ | _ | _ | _ | _ | _ | _ | _ | r
          all_goals first | rfl | (exfalso; omega)
        have t7 := (tt.below hb0).then t6
        generalize askList.getD r ⟨#[]⟩ = q at hcell HA
        clear hblk hb0 tt t6 H6
        go_wp2_with fail
        go_ret
        rw [HA.out]
        exact ⟨rfl, t7⟩
      · have hq4 : c.ask names = (s1, c5) := by rw [HQQ.out]; show (if (c3.pick 3).1 = 0 then _ else _) = _; rw [e5, if_neg hx]
        have HA := hide hq4
        have hxb : ((x : Int) == 0) = false := by simp; omega
        clear h5 e5 hq4 a1 a2 a3 hx
        go_wp2_with fail
        refine (unhide H5).mono ?_
        rintro e w5 ⟨rfl, t5⟩
        go_wp2_with fail
        go_ret
        rw [HA.out]
        exact ⟨rfl, t.then t5⟩
    · have hq5 : c.ask names = (s1, c3) := by rw [HQQ.out]; unfold askTwo; rw [if_neg (by omega), if_neg (by omega), if_neg (by omega), if_neg hk4, if_neg hk5]
      have HA := hide hq5
      have b0 : ((k : Int) == 0) = false := by simp; omega
      have b1 : ((k : Int) == 1) = false := by simp; omega
      have b2 : ((k : Int) == 2) = false := by simp; omega
      have b3 : ((k : Int) == 3) = false := by simp; omega
      have b4 : ((k : Int) == 4) = false := by simp; omega
      clear hq5 a1 a2 a3 hk3 hk4 hk5
      go_wp2_with fail
      go_ret
      rw [HA.out]
      exact ⟨rfl, t⟩
  have hc3 := fun (W : World) (h : CurAt W g A n cp d2) => pick_calls W g n cp names.length A d2 h (by omega) (by omega)
  have o3 := pick_ok d2 names.length y2
  have l3 := pick_lt d2 names.length y2 (by omega)
  obtain ⟨r3, d3, e3⟩ : ∃ r d, d2.pick names.length = (r, d) := ⟨_, _, rfl⟩
  rw [e3] at hc3 o3 l3
  replace hc3 : ∀ W : World, CurAt W g A n cp d2 → Calls Tryz.prog 54 #[.pointer (some ⟨g, 0, none⟩), .int .i64 names.length] W (RetCur W g A n cp (.int .i64 r3) d3) := hc3
  replace o3 : d2.Ok d3 2 := o3
  replace l3 : r3 < names.length := l3
  have p3 := o3.pos
  have HC3 := hide hc3
  obtain ⟨sN, hsN⟩ : ∃ s, names[r3]? = some s := ⟨_, List.getElem?_eq_getElem l3⟩
  have hq : c.askOne names = (sN, d3) := by
    unfold Cur.askOne; rw [if_neg h0, e1]; show (if (d1.pick 5).1 = 0 then _ else (names.getD ((d1.pick 5).2.pick names.length).1 ⟨#[]⟩, ((d1.pick 5).2.pick names.length).2)) = _; rw [e2, if_neg hr]; show (names.getD (d2.pick names.length).1 ⟨#[]⟩, (d2.pick names.length).2) = _; rw [e3, List.getD_eq_getElem?_getD, hsN]; rfl
  have HQ := hide hq
  have z3 := hns sN (List.mem_of_getElem? hsN)
  have HSN := hide hsN
  have hrp : 0 < r2 := by omega
  clear hq e1 e2 e3 hc3 o3 hsN hr
  go_enter Tryz.func66, Tryz.ntmps66
  go_wp2_with fail
  refine (unhide HC1).mono ?_
  rintro e w1 ⟨rfl, t1⟩
  clear HC1
  go_wp2_with fail
  refine (HC2.out _ t1.1).mono ?_
  rintro e w2 ⟨rfl, t2⟩
  replace t2 := t1.then t2
  clear t1 HC2
  go_wp2_with fail
  refine (HC3.out _ t2.1).mono ?_
  rintro e w5 ⟨rfl, t5⟩
  replace t5 := t2.then t5
  clear t2 HC3
  obtain ⟨ad, hA, hx⟩ := (hN.grown t5.2 (fun b hb _ e => hb (Option.some.inj e))) (fun e => by rw [e] at l3; simp at l3)
  subst hA
  have hcell : w5.cell? (ad.add r3) = some (.string sN) := by
    have := (hx r3 sN HSN.out).2
    rwa [show r3 * kStr.size = r3 from Nat.mul_one r3] at this
  clear hx hN
  go_wp2_with fail
  have hk := pick_calls w5 g n cp 9 A d3 t5.1 (by omega) (by omega)
  have ok := pick_ok d3 9 t5.1.small
  have lk := pick_lt d3 9 t5.1.small (by omega)
  obtain ⟨k, c3, ek⟩ : ∃ k d, d3.pick 9 = (k, d) := ⟨_, _, rfl⟩
  rw [ek] at hk ok lk
  replace hk : Calls Tryz.prog 54 #[.pointer (some ⟨g, 0, none⟩), .int .i64 9] w5 (RetCur w5 g A n cp (.int .i64 k) c3) := hk
  replace ok : d3.Ok c3 2 := ok
  replace lk : k < 9 := lk
  have hqq : c.ask names = askTwo sN k c3 := by unfold Cur.ask; rw [HQ.out]; show askTwo sN (d3.pick 9).1 (d3.pick 9).2 = _; rw [ek]
  have HQQ := hide hqq
  have HK := hide hk
  have y3 : c3.Bytes := ok.bytes t5.1.small
  have p3 : c3.pos ≤ c.pos + 14 := by have := ok.pos; omega
  clear hk ok ek hqq HQ
  go_wp2_with fail
  refine (unhide HK).mono ?_
  rintro e w3 ⟨rfl, t3⟩
  have t := t5.then t3
  clear t5 t3 HK
  have a1 : (⟨#[46, 47]⟩ : Str).size = 2 := rfl
  have a2 : (⟨#[46, 46, 47]⟩ : Str).size = 3 := rfl
  have a3 : (⟨#[46, 47, 46, 46, 47]⟩ : Str).size = 5 := rfl
  by_cases hk3 : k < 3
  · have hp := part_calls w3 g n cp A c3 t.1 (by omega)
    have op := (part_ok c3 y3).2
    obtain ⟨p, c4, ep⟩ : ∃ p d, c3.part = (p, d) := ⟨_, _, rfl⟩
    rw [ep] at hp op
    replace hp : Calls Tryz.prog 65 #[.pointer (some ⟨g, 0, none⟩)] w3 (RetCur w3 g A n cp (.string p) c4) := hp
    replace op : p.size ≤ 3 := op
    have k1 := fun W : World => run_string_add_sum (P := Tryz.prog) (w := W) ⟨#[46, 47]⟩ p (by omega)
    have k2 := fun W : World => run_string_add_sum (P := Tryz.prog) (w := W) ⟨#[46, 46, 47]⟩ p (by omega)
    have HP := hide hp
    have hq0 : k = 0 → c.ask names = (⟨#[46, 47]⟩ ++ p, c4) := fun e => by rw [HQQ.out]; unfold askTwo; rw [if_pos e, ep]
    have hq1 : k = 1 → c.ask names = (⟨#[46, 46, 47]⟩ ++ p, c4) := fun e => by rw [HQQ.out]; unfold askTwo; rw [if_neg (by omega), if_pos e, ep]
    have hq2 : k = 2 → c.ask names = (p, c4) := fun e => by rw [HQQ.out]; unfold askTwo; rw [if_neg (by omega), if_neg (by omega), if_pos e, ep]
    have HA := hide hq0
    have HB := hide hq1
    have HD := hide hq2
    clear hp ep hq0 hq1 hq2 a1 a2 a3
    rcases (show k = 0 ∨ k = 1 ∨ k = 2 by omega) with rfl | rfl | rfl
    · go_wp2_with fail
      refine (unhide HP).mono ?_
      rintro e w4 ⟨rfl, t4⟩
      go_wp2_with fail
      go_ret
      rw [HA.out (by trivial)]
      exact ⟨rfl, t.then t4⟩
    · go_wp2_with fail
      refine (unhide HP).mono ?_
      rintro e w4 ⟨rfl, t4⟩
      go_wp2_with fail
      go_ret
      rw [HB.out (by trivial)]
      exact ⟨rfl, t.then t4⟩
    · go_wp2_with fail
      refine (unhide HP).mono ?_
      rintro e w4 ⟨rfl, t4⟩
      go_wp2_with fail
      go_ret
      rw [HD.out (by trivial)]
      exact ⟨rfl, t.then t4⟩
  by_cases hk4 : k = 3
  · subst hk4
    have k3 := fun W : World => run_string_add_sum (P := Tryz.prog) (w := W) ⟨#[46, 47, 46, 46, 47]⟩ sN (by omega)
    have hq3 : c.ask names = (⟨#[46, 47, 46, 46, 47]⟩ ++ sN, c3) := by rw [HQQ.out]; rfl
    have HA := hide hq3
    clear hq3 a1 a2 a3
    go_wp2_with fail
    go_ret
    rw [HA.out]
    exact ⟨rfl, t⟩
  by_cases hk5 : k = 4
  · subst hk5
    have h5 := pick_calls w3 g n cp 3 A c3 t.1 (by omega) (by omega)
    have o5 := pick_ok c3 3 y3
    obtain ⟨x, c5, e5⟩ : ∃ x d, c3.pick 3 = (x, d) := ⟨_, _, rfl⟩
    rw [e5] at h5 o5
    replace h5 : Calls Tryz.prog 54 #[.pointer (some ⟨g, 0, none⟩), .int .i64 3] w3 (RetCur w3 g A n cp (.int .i64 x) c5) := h5
    replace o5 : c3.Ok c5 2 := o5
    have y5 := o5.bytes y3
    have H5 := hide h5
    by_cases hx : x = 0
    · subst hx
      have h6 := fun (W : World) (h : CurAt W g A n cp c5) => pick_calls W g n cp 12 A c5 h (by have := o5.pos; omega) (by omega)
      have l6 := pick_lt c5 12 y5 (by omega)
      obtain ⟨r, c6, e6⟩ : ∃ x d, c5.pick 12 = (x, d) := ⟨_, _, rfl⟩
      rw [e6] at h6 l6
      replace h6 : ∀ W : World, CurAt W g A n cp c5 → Calls Tryz.prog 54 #[.pointer (some ⟨g, 0, none⟩), .int .i64 12] W (RetCur W g A n cp (.int .i64 r) c6) := h6
      replace l6 : r < 12 := l6
      have hq4 : c.ask names = (askList.getD r ⟨#[]⟩, c6) := by rw [HQQ.out]; show (if (c3.pick 3).1 = 0 then _ else _) = _; rw [e5, if_pos rfl]; show (askList.getD (c5.pick 12).1 ⟨#[]⟩, (c5.pick 12).2) = _; rw [e6]
      have HA := hide hq4
      have H6 := hide h6
      clear h5 h6 e5 e6 hq4 a1 a2 a3
      go_wp2_with fail
      refine (unhide H5).mono ?_
      rintro e w5 ⟨rfl, t5⟩
      have tt := t.then t5
      have hb0 : Below w5.heap.size w5 (w5.alloc (Obj.cells (askList.map Value.string).toArray 9)) := by (repeat (first | with_reducible exact Below.refl _ _ | with_reducible assumption | with_reducible refine Below.alloc ?_ (by first | exact Nat.le_refl _ | exact Below.size (by assumption) | exact Nat.le_trans (Below.size (by assumption)) (by simp; done) | (simp; done) | (simp; omega) | omega) _ | with_reducible refine below_drewN ?_ _ | with_reducible refine Below.drew ?_ | with_reducible refine Below.setCell ?_ (by first | exact Nat.le_refl _ | (simp; done) | (simp; omega) | omega) _))
      have hgl := tt.1.lt
      clear t t5 H5
      go_wp2_with fail
      refine (H6.out _ (tt.1.below hb0)).mono ?_
      rintro e w6 ⟨rfl, t6⟩
      have hblk := (t6.2.block w5.heap.size (by simp) (fun e => by have := Option.some.inj e; omega)).trans (heap_alloc_new w5 _)
      have hcell : w6.cell? ⟨w5.heap.size, r, none⟩ = some (.string (askList.getD r ⟨#[]⟩)) := by
        rw [blk_cell hblk r]
        rcases r with _ | _ | _ | _ | _ | _ | _ | _ | _ | _ | _ | _ | r
        all_goals first | rfl | (exfalso; omega)
      have t7 := (tt.below hb0).then t6
      generalize askList.getD r ⟨#[]⟩ = q at hcell HA
      clear hblk hb0 tt t6 H6
      go_wp2_with fail
      go_ret
      rw [HA.out]
      exact ⟨rfl, t7⟩
    · have hq4 : c.ask names = (sN, c5) := by rw [HQQ.out]; show (if (c3.pick 3).1 = 0 then _ else _) = _; rw [e5, if_neg hx]
      have HA := hide hq4
      have hxb : ((x : Int) == 0) = false := by simp; omega
      clear h5 e5 hq4 a1 a2 a3 hx
      go_wp2_with fail
      refine (unhide H5).mono ?_
      rintro e w5 ⟨rfl, t5⟩
      go_wp2_with fail
      go_ret
      rw [HA.out]
      exact ⟨rfl, t.then t5⟩
  · have hq5 : c.ask names = (sN, c3) := by rw [HQQ.out]; unfold askTwo; rw [if_neg (by omega), if_neg (by omega), if_neg (by omega), if_neg hk4, if_neg hk5]
    have HA := hide hq5
    have b0 : ((k : Int) == 0) = false := by simp; omega
    have b1 : ((k : Int) == 1) = false := by simp; omega
    have b2 : ((k : Int) == 2) = false := by simp; omega
    have b3 : ((k : Int) == 3) = false := by simp; omega
    have b4 : ((k : Int) == 4) = false := by simp; omega
    clear hq5 a1 a2 a3 hk3 hk4 hk5
    go_wp2_with fail
    go_ret
    rw [HA.out]
    exact ⟨rfl, t⟩
end Go.Proofs.YtkhlicmlnjccdaaGreatDoor
