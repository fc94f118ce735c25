/-
  The walk of the table that stands.
-/
import Derived.Test.YtflmgjidnclegaaDoorFrame
import Derived.Test.YtflmgjidnclegaaDoorTabText
namespace Go.Proofs.YtflmgjidnclegaaDoor.Tab
open Go.RowKit
noncomputable def linesV : Array Value := (piecesT.map (fun p => Value.string ⟨p.toArray⟩)).toArray
theorem split_any (m : Int) (w : World) (hm : w.cell? ⟨6, 0, none⟩ = some (.int .i64 m)) (s : ByteArray) (hs : s = ⟨txT.toArray⟩) :
    Calls Tryd.prog 74 #[.string s, .string ⟨#[10]⟩] w fun e w' => e = .returned (.slice (some ⟨w.heap.size, 0, none⟩) 61 61) ∧ w' = w.alloc (.cells linesV 9) := by
  subst hs
  refine (Tryd.strings_Split ⟨txT.toArray⟩ ⟨#[10]⟩ m w (of_decide_eq_true (by kernel_rfl)) hm (by decide)).mono ?_
  rintro e w' ⟨he, hw⟩
  rw [cntT] at he hw
  rw [splT, List.map_map] at hw
  exact ⟨he, hw⟩
set_option maxRecDepth 100000 in
theorem stands_any (m : Int) (w : World) (hm : w.cell? ⟨6, 0, none⟩ = some (.int .i64 m)) :
    Calls Tryd.prog 53 #[] w fun e w' => e = .returned (.slice (some ⟨w.heap.size, 0, none⟩) 61 61) ∧ w' = w.alloc (.cells linesV 9) := by
  have HS := Lib.hid (split_any m w hm)
  go_enter Tryd.func53, Tryd.ntmps53
  go_wp2_with fail
  refine (HS.out _ (by kernel_rfl)).mono ?_
  rintro e w' ⟨rfl, rfl⟩
  go_wp2_with fail
  go_ret
  exact ⟨rfl, rfl⟩
end Go.Proofs.YtflmgjidnclegaaDoor.Tab
