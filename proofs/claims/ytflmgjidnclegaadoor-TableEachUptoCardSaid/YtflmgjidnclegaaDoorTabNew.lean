/-
  The walks of table.New and of shrink.
-/
import Derived.Test.YtflmgjidnclegaaDoorTabBase
import Derived.Outline
namespace Go.Proofs.YtflmgjidnclegaaDoor.Tab
open Go.RowKit
noncomputable def ring0 : Array Value := madeCells (Value.agg #[.string ByteArray.empty, .string ByteArray.empty, .bool false]).cells 384
theorem infoHd : (Tryd.prog.info? 23).map (fun i => (i.zero, i.size, i.bytes)) = some (some (.agg #[.string ByteArray.empty, .string ByteArray.empty, .bool false]), 3, 40) := by kernel_rfl
set_option maxRecDepth 100000 in
theorem new_yes (m : Nat) (hm : m ≤ 4096) (w : World) :
    Calls Tryd.prog 20 #[.int .i64 (m : Int)] w fun e w' => e = .returned (.tuple #[.pointer (some ⟨w.heap.size + 1, 0, none⟩), .nilIface]) ∧ Below w.heap.size w w' ∧ Tbl w' (w.heap.size + 1) w.heap.size 0 [] m := by
  have hmk : ∀ W : World, (Instr.makeSlice 51 (.int .i64 128) (.int .i64 128)).run Tryd.prog W = .ok (.slice (some ⟨W.heap.size, 0, none⟩) 128 128) (W.alloc (.cells ring0 23)) := by
    intro W
    obtain ⟨i, hi, hi0, hi1, hi2⟩ := info_parts infoHd
    have := run_make_rowN (P := Tryd.prog) 51 23 i (.agg #[.string ByteArray.empty, .string ByteArray.empty, .bool false]) Tryd.underlying51 hi hi0 .i64 .i64 128 128 (Nat.le_refl _) (by rw [hi2]; omega) (by omega) W
    rw [hi1] at this
    exact this
  have hr : ring0.size = 384 := by unfold ring0; kernel_rfl
  generalize ring0 = R at *
  go_enter Tryd.func20, Tryd.ntmps20
  go_wp2_with (refine (fits_yes m hm _).mono ?_; rintro e w' ⟨rfl, rfl⟩)
  go_ret2
  have hb : Below w.heap.size w ((w.alloc (.cells R 23)).alloc (.cells (tcs w.heap.size 0 0 0 m) 87)) := ((Below.refl _ _).alloc (Nat.le_refl _) _).alloc (by simp) _
  have hg : Blk ((w.alloc (.cells R 23)).alloc (.cells (tcs w.heap.size 0 0 0 m) 87)) (w.heap.size + 1) 87 (tcs w.heap.size 0 0 0 m) := by
    have := Blk.new (w.alloc (.cells R 23)) 87 (tcs w.heap.size 0 0 0 m)
    simpa using this
  exact ⟨rfl, hb, ⟨hg, ⟨R, (Blk.new w _ R).alloc _, hr, fun j h hj => by simp at hj⟩, by omega, hm, by simp [tot]⟩⟩
set_option maxRecDepth 100000 in
theorem new_no (m : Int) (hm : m < 0 ∨ 4096 < m) (ev : Value) (w : World) (hv : w.cell? ⟨0, 0, none⟩ = some ev) :
    Calls Tryd.prog 20 #[.int .i64 m] w fun e w' => e = .returned (.tuple #[.pointer none, ev]) ∧ ∃ n, w' = w.drewN n := by
  have HF := Lib.hid (fun w => fits_no m hm w)
  clear hm
  go_enter Tryd.func20, Tryd.ntmps20
  go_wp2_with (refine (HF.out _).mono ?_; rintro e w' ⟨rfl, rfl⟩)
  go_quiet (fail)
  go_wp2_with fail
  go_ret2
  exact ⟨rfl, nq, rfl⟩
end Go.Proofs.YtflmgjidnclegaaDoor.Tab
