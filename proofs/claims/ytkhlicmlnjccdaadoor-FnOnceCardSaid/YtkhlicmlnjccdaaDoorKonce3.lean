/-
  FnOnce: the law, over the drawn world.
-/
import Derived.Test.YtkhlicmlnjccdaaDoorKonce2
import Derived.Test.YtkhlicmlnjccdaaDoorKd40
namespace Go.Proofs.YtkhlicmlnjccdaaDoor
open Go.RowKit Mem
theorem once_calls (A : Option Addr) (cp nn : Nat) (code : List Int) (S : Nat → Prop) (w : World) (h : Sl kU8 w S A code) (hn : code.length = nn) (hs : ∀ x ∈ code, 0 ≤ x ∧ x ≤ 255) (hl : nn ≤ maxLen) (hm : ML w) :
    Calls Tryd.prog 16 #[.slice A nn cp] w fun e w' => e = .returned (.bool true) ∧ Below w.heap.size w w' := once_walk drawn_calls A cp nn code S w h hn hs hl hm
end Go.Proofs.YtkhlicmlnjccdaaDoor
