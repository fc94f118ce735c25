/-
  What the listed variable gives a walk; a start that meets the condition.
-/
import Derived.Test.YtblenefhoidhaaaDoorCards
import Derived.Test.YtblenefhoidhaaaDoorTie
import Derived.Test.YtblenefhoidhaaaDoorKit
import Derived.Test.YtblenefhoidhaaaDoorFrame
import Derived.ProofKit
import Derived.OpenShut
import Derived.LaidMore
import Derived.Deep.DeepWitnessRowRef
import Derived.Stop.LaidErr
import Derived.LaidHandle
import Derived.MakeChecks
namespace Go.Proofs.YtblenefhoidhaaaDoor
open Go.ChangeShapes Go.WideShapes Go.ChangeAt Go.RowKit Go.Deep

theorem own : ownKnob Tryd.prog.godebug = none := by kernel_rfl
theorem laidOut : laidOutB Tryd.prog = true := by kernel_rfl
theorem gH : Tryd.prog.globalNamed "parley/api.ErrHuff" = some 0 := by kernel_rfl
theorem tH : (Tryd.prog.globals[0]?).map (·.type) = some 39 := by kernel_rfl
theorem cellsE : Tryd.prog.cellsOf 68 = 1 := by kernel_rfl
theorem cellsS : Tryd.prog.cellsOf 9 = 1 := by kernel_rfl
theorem star : "*" ++ "errors.errorString" = "*errors.errorString" := by decide
theorem rowE (u : TypeId) (h : Tryd.prog.typeName? 3 u = some "*errors.errorString") : u = 52 :=
  typeName_ptr_named (nm := "errors.errorString") (by rw [star]; kernel_rfl) (by kernel_rfl) (by decide) u (by rw [star]; exact h)
theorem plainList : (Rows.huffCodesRow.laid.all fun x => x.2.handleName?.isNone) = true := by kernel_rfl
theorem of_laid {W : World} (h : laidMetH Tryd.prog Rows.huffCodesRow.laid W) : ∃ v, IsErr v ∧ W.cell? ⟨0, 0, none⟩ = some v ∧ 0 < W.heap.size := by
  rw [MakeChecks.laidMetH_plain _ _ _ plainList] at h
  have h' : laidMet Tryd.prog [("parley/api.ErrHuff", Rows.laid_parley_api_ErrHuff)] W := h
  obtain ⟨a1, s1, hv1, hc1, _, _⟩ := laid_sentinel h' gH tH Tryd.underlying39 rowE Tryd.underlying52 Tryd.underlying68 rfl rfl Tryd.underlying9 cellsE cellsS
  have c1 := World.var?_cell gH hv1 0
  exact ⟨_, ⟨_, _, rfl⟩, c1, cell_lt c1⟩
theorem door_met (os : Os) (args : Array Value) : laidMetH Tryd.prog Rows.huffCodesRow.laid ((World.doorLaid Tryd.prog 200 os).forCall (fun _ _ => 0) ⟨#[], args, []⟩).memory :=
  laidMetH_of_parts3 (fuel := 8) (laidMet_of_run' 8 (by kernel_rfl) (by kernel_rfl)) (by kernel_rfl) (by kernel_rfl)
end Go.Proofs.YtblenefhoidhaaaDoor
