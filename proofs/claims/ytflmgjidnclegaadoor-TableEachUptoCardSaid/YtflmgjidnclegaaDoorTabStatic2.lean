/-
  The walk of table.Static.
-/
import Derived.Laws.ResultCell
import Derived.Test.YtflmgjidnclegaaDoorTabStatic
namespace Go.Proofs.YtflmgjidnclegaaDoor.Tab
open Go.RowKit
theorem piece_short : piecesT.all (fun p => decide (p.length < 100)) = true := by kernel_rfl
theorem line_get (k : Nat) (hk : k < 61) : ∃ p, piecesT[k]? = some p ∧ p.length < 100 ∧ linesV[k]? = some (.string ⟨p.toArray⟩) ∧ pairsT[k]? = some ((Lib.cut p [32]).1, (Lib.cut p [32]).2.1) := by
  have hk' : k < piecesT.length := by rw [lenT]; exact hk
  refine ⟨piecesT[k], List.getElem?_eq_getElem hk', of_decide_eq_true (List.all_eq_true.1 piece_short _ (List.getElem_mem hk')), ?_, ?_⟩
  · unfold linesV
    rw [List.getElem?_toArray, List.getElem?_map, List.getElem?_eq_getElem hk']
    rfl
  · rw [← cutT, List.getElem?_map, List.getElem?_eq_getElem hk']
    rfl
/-- what a function that answers a header and a Bool hands back -/
theorem hdr_ret {f : Func} {p u : Tmp} {w' : World} {a : Act} {b : Nat} {x y z v : Value} {R : Ending → World → Prop} (hf : f.results = #[.cell p 23, .tmp u]) (hd : a.defers = []) (hp : a.tmps.getD p undef = .pointer (some ⟨b, 0, none⟩)) (hu : a.tmps.getD u undef = v)
    (hb : Blk w' b 23 #[x, y, z]) (h : R (.returned (.tuple #[.agg #[x, y, z], v])) w') : bodyPost Tryd.prog f R .ret a w' :=
  bodyPost_ret (by
    rw [results_cell_tmp hf, hp, hu]
    simp [asAddr, Result.andThen, run_loadVar_row w' b 23 23 #[x, y, z] (0, 0) _ hb Tryd.underlying23 rfl (by kernel_rfl)]) hd h
set_option maxRecDepth 100000 in
theorem static_no (i : Int) (hi : i < 1 ∨ 61 < i) (w : World) :
    Calls Tryd.prog 14 #[.int .i64 i] w fun e w' => e = .returned (.tuple #[.agg #[.string ByteArray.empty, .string ByteArray.empty, .bool false], .bool false]) ∧ Below w.heap.size w w' := by
  go_enter Tryd.func14, Tryd.ntmps14
  rcases hi with hi | hi
  · go_wp2_with fail
    exact hdr_ret rfl rfl rfl rfl (Blk.new _ _ _) ⟨rfl, (Below.refl _ _).alloc (Nat.le_refl _) _⟩
  · by_cases h1 : i < 1
    · omega
    · go_wp2_with fail
      exact hdr_ret rfl rfl rfl rfl (Blk.new _ _ _) ⟨rfl, (Below.refl _ _).alloc (Nat.le_refl _) _⟩
end Go.Proofs.YtflmgjidnclegaaDoor.Tab
