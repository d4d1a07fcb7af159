/-
  What the model says of a row of edges.
-/
import Derived.Test.YtkhlicmlnjccdaaGreatDoorKs44
import Derived.Test.YtkhlicmlnjccdaaGreatDoorKs25
import Derived.Test.YtkhlicmlnjccdaaGreatDoorKs19
import Derived.Test.YtkhlicmlnjccdaaGreatDoorKs22
import Derived.Test.YtkhlicmlnjccdaaGreatDoorKs15
import Derived.Test.YtkhlicmlnjccdaaGreatDoorKs23
import Derived.Deep.Cut
namespace Go.Proofs.YtkhlicmlnjccdaaGreatDoor
open Go.RowKit Mem
theorem info_edge : (Tryz.prog.info? 111).map (fun i => (i.zero, i.size, i.bytes)) = some (some (.agg #[.int .i64 0, .int .i64 0, .int .i64 0]), 3, 24) := by kernel_rfl
end Go.Proofs.YtkhlicmlnjccdaaGreatDoor
