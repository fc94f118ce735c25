/-
  The throttle's functions.
-/
import Derived.Test.YtnmcjdiihebagaaDoorPolNew
import Derived.Deep.QuietTactic
import Derived.BigQuiet
namespace Go.Proofs.YtnmcjdiihebagaaDoor.Pol
open Go.RowKit
set_option maxRecDepth 100000 in
theorem newthr_ok (m r : Nat) (w : World) (hm : 1 ≤ m ∧ m ≤ 1000) (hr : 1 ≤ r ∧ r ≤ 1000000) :
    Calls Tryd.prog 17 #[.int .i64 m, .int .i64 r] w fun e w' => e = .returned (.tuple #[.pointer (some ⟨w.heap.size, 0, none⟩), .nilIface]) ∧ w' = w.alloc (.cells #[.int .i64 ((m : Int) * 1000), .int .i64 ((m : Int) * 1000), .int .i64 r] 83) := by
  have h1 := fun W => within_any m 1 1000 W
  have h2 := fun W => within_any r 1 1000000 W
  rw [decide_eq_true (by omega)] at h1
  rw [decide_eq_true (by omega)] at h2
  have H1 := fun W => Lib.hid (h1 W)
  have H2 := fun W => Lib.hid (h2 W)
  clear h1 h2
  go_enter Tryd.func17, Tryd.ntmps17
  go_wp2_with fail
  refine (H1 _).out.mono ?_
  rintro e w' ⟨rfl, rfl⟩
  go_wp2_with fail
  refine (H2 _).out.mono ?_
  rintro e w' ⟨rfl, rfl⟩
  go_wp2_with fail
  go_ret2
  exact ⟨rfl, rfl⟩
theorem tokens_any (g : Nat) (tok most ratio : Int) (w : World) (h : Blk w g 83 #[.int .i64 tok, .int .i64 most, .int .i64 ratio]) :
    Calls Tryd.prog 18 #[.pointer (some ⟨g, 0, none⟩)] w fun e w' => e = .returned (.int .i64 tok) ∧ w = w' := by
  have c0 : w.cell? ⟨g, 0, none⟩ = some (.int .i64 tok) := h.cell 0
  go_enter Tryd.func18, Tryd.ntmps18
  go_wp2
  go_ret
  exact ⟨rfl, rfl⟩
theorem open_any (g : Nat) (tok most ratio : Int) (w : World) (ht : 0 ≤ tok ∧ tok ≤ 1000000) (h : Blk w g 83 #[.int .i64 tok, .int .i64 most, .int .i64 ratio]) :
    Calls Tryd.prog 21 #[.pointer (some ⟨g, 0, none⟩)] w fun e w' => e = .returned (.bool (decide (most < 2 * tok))) ∧ ∃ n, w' = w.drewN n := by
  have c0 : w.cell? ⟨g, 0, none⟩ = some (.int .i64 tok) := h.cell 0
  have c1 : w.cell? ⟨g, 1, none⟩ = some (.int .i64 most) := h.cell 1
  go_enter Tryd.func21, Tryd.ntmps21
  go_wp2
  have hw2 : IntKind.i64.wrap (2 * tok) = 2 * tok := by rw [IntKind.wrap_i64]; omega
  go_quiet (fail)
  go_wp2
  go_ret
  exact ⟨rfl, nq, rfl⟩
theorem fail_any (g : Nat) (tok most ratio : Int) (w : World) (ht : 0 ≤ tok ∧ tok ≤ 1000000) (h : Blk w g 83 #[.int .i64 tok, .int .i64 most, .int .i64 ratio]) :
    Calls Tryd.prog 20 #[.pointer (some ⟨g, 0, none⟩)] w fun e w' => e = .returned (.tuple #[]) ∧ w' = w.setCell ⟨g, 0, none⟩ (.int .i64 (max 0 (tok - 1000))) := by
  have c0 : w.cell? ⟨g, 0, none⟩ = some (.int .i64 tok) := h.cell 0
  have hf := h.frozen 0
  go_enter Tryd.func20, Tryd.ntmps20
  go_wp2
  · go_end0
    exact ⟨rfl, by rw [Int.max_eq_right (by omega)]⟩
  · go_end0
    exact ⟨rfl, by rw [Int.max_eq_left (by omega)]⟩
theorem tries_any (g : Nat) (T F M X : Int) (l tp : Value) (tries waits : Int) (r co d : Bool) (w : World) (h : Blk w g 74 (callC T F M X l tp tries waits r co d)) :
    Calls Tryd.prog 16 #[.pointer (some ⟨g, 0, none⟩)] w fun e w' => e = .returned (.int .i64 tries) ∧ w = w' := by
  have c0 : w.cell? ⟨g, 6, none⟩ = some (.int .i64 tries) := h.cell 6
  go_enter Tryd.func16, Tryd.ntmps16
  go_wp2
  go_ret
  exact ⟨rfl, rfl⟩
end Go.Proofs.YtnmcjdiihebagaaDoor.Pol
