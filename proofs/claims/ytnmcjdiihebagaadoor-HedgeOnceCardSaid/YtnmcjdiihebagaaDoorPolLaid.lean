/-
  What the listed variable gives a walk; a start that meets the condition; how the policy and the ints among the arguments are opened.
-/
import Derived.Test.YtnmcjdiihebagaaDoorCards
import Derived.Test.YtnmcjdiihebagaaDoorTie
import Derived.Test.YtnmcjdiihebagaaDoorKit
import Derived.Test.YtnmcjdiihebagaaDoorFrame
import Derived.Test.YtnmcjdiihebagaaDoorPolCall
import Derived.ProofKit
import Derived.ChangeSlices
import Derived.OpenShut
import Derived.LaidMore
import Derived.Deep.DeepWitnessRowRef
import Derived.Stop.LaidErr
import Derived.LaidHandle
import Derived.MakeChecks
namespace Go.Proofs.YtnmcjdiihebagaaDoor
open Go.ChangeShapes Go.WideShapes Go.ChangeAt Go.RowKit Go.Deep

theorem own : ownKnob Tryd.prog.godebug = none := by kernel_rfl
theorem laidOut : laidOutB Tryd.prog = true := by kernel_rfl
theorem gV : Tryd.prog.globalNamed "parley/api.ErrValue" = some 0 := by kernel_rfl
theorem tV : (Tryd.prog.globals[0]?).map (·.type) = some 27 := by kernel_rfl
theorem cellsE : Tryd.prog.cellsOf 118 = 1 := by kernel_rfl
theorem cellsS : Tryd.prog.cellsOf 9 = 1 := by kernel_rfl
theorem star : "*" ++ "errors.errorString" = "*errors.errorString" := by decide
theorem rowE (u : TypeId) (h : Tryd.prog.typeName? 3 u = some "*errors.errorString") : u = 101 :=
  typeName_ptr_named (nm := "errors.errorString") (by rw [star]; kernel_rfl) (by kernel_rfl) (by decide) u (by rw [star]; exact h)
theorem plainList : (Rows.policyWaitsRow.laid.all fun x => x.2.handleName?.isNone) = true := by kernel_rfl
theorem of_laid {W : World} (h : laidMetH Tryd.prog Rows.policyWaitsRow.laid W) : ∃ v, IsErr v ∧ W.cell? ⟨0, 0, none⟩ = some v ∧ 0 < W.heap.size := by
  rw [MakeChecks.laidMetH_plain _ _ _ plainList] at h
  have h' : laidMet Tryd.prog [("parley/api.ErrValue", Rows.laid_parley_api_ErrValue)] W := h
  obtain ⟨a1, s1, hv1, hc1, _, _⟩ := laid_sentinel h' gV tV Tryd.underlying27 rowE Tryd.underlying101 Tryd.underlying118 rfl rfl Tryd.underlying9 cellsE cellsS
  have c1 := World.var?_cell gV hv1 0
  exact ⟨_, ⟨_, _, rfl⟩, c1, cell_lt c1⟩
theorem door_met (os : Os) (args : Array Value) : laidMetH Tryd.prog Rows.policyWaitsRow.laid ((World.doorLaid Tryd.prog 200 os).forCall (fun _ _ => 0) ⟨#[], args, []⟩).memory :=
  laidMetH_of_parts3 (fuel := 8) (laidMet_of_run' 8 (by kernel_rfl) (by kernel_rfl)) (by kernel_rfl) (by kernel_rfl)

set_option maxRecDepth 100000 in
theorem ints_of {H : Type} {enc : TypeId × Value → H} {W : World} {v : Value} {fuel : Nat} {x : DataW H × List MemPlace} (h : DataW.trod enc Tryd.prog W 0 (fun _ => true) true fuel 22 [v] = some x) :
    ∃ (A : Option Addr) (n c : Nat) (xs : List Int), v = .slice A n c ∧ xs.length = n ∧ n ≤ c ∧ c ≤ 9223372036854775807 ∧ (A = none → c = 0) ∧ Pol.IntsAt W A xs ∧ ∀ y ∈ xs, (Lit.int .i64 y).wf = true := by
  rcases open_ints Tryd.underlying22 Tryd.underlying3 (by kernel_rfl) h with ⟨hcs, _⟩ | ⟨a, len, cap, zs, hcs, _, hl, hm, hz, _, hcell, hwf⟩
  · injection hcs with hcs
    exact ⟨none, 0, 0, [], hcs, rfl, Nat.le_refl _, by omega, fun _ => rfl, fun i hi => absurd hi (by simp), fun y hy => by cases hy⟩
  · injection hcs with hcs
    simp only [if_true] at hz
    unfold maxLen at hm
    refine ⟨some a, len, cap, zs.take len, hcs, by rw [List.length_take]; omega, hl, by omega, (fun e => by cases e), fun i hi => ?_, fun y hy => hwf y (List.mem_of_mem_take hy)⟩
    rw [List.length_take] at hi
    have c0 := hcell i (by omega)
    obtain ⟨b, off, spot⟩ := a
    have hspot : spot = none := by
      have h0 := hcell 0 (by omega)
      simpa [Addr.add] using World.cell?_spot h0
    subst hspot
    rw [add_plain] at c0
    refine ⟨b, off, rfl, cell_lt c0, ?_⟩
    rw [c0]
    simp [List.getD, show i < len by omega]

set_option maxRecDepth 100000 in
theorem open_pol {H : Type} {enc : TypeId × Value → H} {W : World} {v : Value} {base : Nat} {d : DataW H} {p : List MemPlace} (hv : Value.okWide Tryd.prog W .any base 24 v)
    (h : DataW.Trod enc Tryd.prog W 0 (fun _ => true) true 24 v d p) :
    ∃ (T F M X : Int) (A : Option Addr) (n c : Nat) (xs : List Int), v = .agg #[.int .i64 T, .int .i64 F, .int .i64 M, .int .i64 X, .slice A n c] ∧ xs.length = n ∧ n ≤ c ∧ c ≤ 9223372036854775807 ∧ (A = none → c = 0) ∧ Pol.IntsAt W A xs ∧ ∀ y ∈ xs, (Lit.int .i64 y).wf = true := by
  obtain ⟨v0, v1, v2, v3, v4, y0, y1, y2, y3, y4, n, rfl, _, _, t0, t1, t2, t3, t4⟩ := open_agg5 Tryd.underlying24 (by kernel_rfl) (by kernel_rfl) hv h
  obtain ⟨k0, e0, _, _⟩ := DataW.trod_int Tryd.underlying3 t0
  obtain ⟨k1, e1, _, _⟩ := DataW.trod_int Tryd.underlying3 t1
  obtain ⟨k2, e2, _, _⟩ := DataW.trod_int Tryd.underlying3 t2
  obtain ⟨k3, e3, _, _⟩ := DataW.trod_int Tryd.underlying3 t3
  obtain ⟨A, n, c, xs, rfl, hr⟩ := ints_of t4
  simp only [List.cons.injEq, and_true] at e0 e1 e2 e3
  subst e0 e1 e2 e3
  exact ⟨_, _, _, _, A, n, c, xs, rfl, hr⟩
end Go.Proofs.YtnmcjdiihebagaaDoor
