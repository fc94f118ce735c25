/-
  The walk of parleyref.SameHeader at twice the same header.
-/
import Derived.Test.YtflmgjidnclegaaDoorTabStatic3
namespace Go.Proofs.YtflmgjidnclegaaDoor.Tab
open Go.RowKit
set_option maxRecDepth 100000 in
theorem same_header_any (n v : ByteArray) (b : Bool) (w : World) :
    Calls Tryd.prog 16 #[.agg #[.string n, .string v, .bool b], .agg #[.string n, .string v, .bool b]] w fun e w' => e = .returned (.bool true) ∧ Below w.heap.size w w' := by
  go_enter Tryd.func16, Tryd.ntmps16
  go_wp2_with fail
  go_ret
  exact ⟨by simp, ((Below.refl _ _).alloc (Nat.le_refl _) _).alloc (by simp) _⟩
end Go.Proofs.YtflmgjidnclegaaDoor.Tab
