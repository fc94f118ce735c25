/-
  What the listed variables give a walk; a start that meets the condition.
-/
import Derived.Test.YtlaldjbdpgbhkaaDoorCards
import Derived.Test.YtlaldjbdpgbhkaaDoorTie
import Derived.Test.YtlaldjbdpgbhkaaDoorKit
import Derived.ProofKit
import Derived.OpenShut
import Derived.LaidMore
import Derived.Deep.DeepWitnessRowRef
import Derived.Stop.LaidErr
import Derived.LaidHandle
import Derived.MakeChecks
namespace Go.Proofs.YtlaldjbdpgbhkaaDoor
open Go.ChangeShapes Go.WideShapes Go.ChangeAt Go.RowKit Go.Deep

theorem own : ownKnob Tryd.prog.godebug = none := by kernel_rfl
theorem laidOut : laidOutB Tryd.prog = true := by kernel_rfl
theorem gW : Tryd.prog.globalNamed "parley/api.ErrWindow" = some 1 := by kernel_rfl
theorem gN : Tryd.prog.globalNamed "parley/api.ErrNumber" = some 0 := by kernel_rfl
theorem tW : (Tryd.prog.globals[1]?).map (·.type) = some 26 := by kernel_rfl
theorem tN : (Tryd.prog.globals[0]?).map (·.type) = some 26 := by kernel_rfl
theorem cells60 : Tryd.prog.cellsOf 60 = 1 := by kernel_rfl
theorem cells9 : Tryd.prog.cellsOf 9 = 1 := by kernel_rfl
theorem star : "*" ++ "errors.errorString" = "*errors.errorString" := by decide
theorem row43 (u : TypeId) (h : Tryd.prog.typeName? 3 u = some "*errors.errorString") : u = 43 :=
  typeName_ptr_named (nm := "errors.errorString") (by rw [star]; kernel_rfl) (by kernel_rfl) (by decide) u (by rw [star]; exact h)
theorem plainList : (Rows.flowSumRow.laid.all fun x => x.2.handleName?.isNone) = true := by kernel_rfl
theorem of_laid {W : World} (h : laidMetH Tryd.prog Rows.flowSumRow.laid W) : ∃ v1 v2, IsErr v1 ∧ IsErr v2 ∧ W.cell? ⟨0, 0, none⟩ = some v1 ∧ W.cell? ⟨1, 0, none⟩ = some v2 ∧ 2 ≤ W.heap.size := by
  rw [MakeChecks.laidMetH_plain _ _ _ plainList] at h
  have h' : laidMet Tryd.prog [("parley/api.ErrWindow", Rows.laid_parley_api_ErrWindow), ("parley/api.ErrNumber", Rows.laid_parley_api_ErrNumber)] W := h
  obtain ⟨a1, s1, hv1, hc1, _, _⟩ := laid_sentinel h' gW tW Tryd.underlying26 row43 Tryd.underlying43 Tryd.underlying60 rfl rfl Tryd.underlying9 cells60 cells9
  obtain ⟨a0, s0, hv0, hc0, _, _⟩ := laid_sentinel h'.tail gN tN Tryd.underlying26 row43 Tryd.underlying43 Tryd.underlying60 rfl rfl Tryd.underlying9 cells60 cells9
  have c1 := World.var?_cell gW hv1 0
  have c0 := World.var?_cell gN hv0 0
  refine ⟨_, _, ⟨_, _, rfl⟩, ⟨_, _, rfl⟩, c0, c1, ?_⟩
  rcases Nat.lt_or_ge 1 W.heap.size with hlt | hge
  · exact hlt
  · exfalso
    simp [World.cell?, Array.getElem?_eq_none hge] at c1
theorem door_met (os : Os) (args : Array Value) : laidMetH Tryd.prog Rows.flowSumRow.laid ((World.doorLaid Tryd.prog 200 os).forCall (fun _ _ => 0) ⟨#[], args, []⟩).memory :=
  laidMetH_of_parts3 (fuel := 8) (laidMet_of_run' 8 (by kernel_rfl) (by kernel_rfl)) (by kernel_rfl) (by kernel_rfl)
end Go.Proofs.YtlaldjbdpgbhkaaDoor
