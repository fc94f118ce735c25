/-
  The law TableStatic returns true.
-/
import Derived.Test.YtflmgjidnclegaaDoorTabNames
namespace Go.Proofs.YtflmgjidnclegaaDoor.Tab
open Go.RowKit
theorem size_wide2 (n v : ByteArray) (b : Bool) (w : World) :
    Calls Tryd.prog 17 #[.agg #[.string n, .string v, .bool b]] w fun e w' => e = .returned (.int .i64 (IntKind.i64.wrap (IntKind.i64.wrap ((n.size : Int) + (v.size : Int)) + 32))) ∧ Below w.heap.size w w' := by
  have he : ∀ x : Int, IntKind.i64.wrap x = wrap64 x := fun x => IntWalk.i64_left x
  rw [he, he]
  exact size_wide n v b w
set_option maxRecDepth 100000 in
set_option maxHeartbeats 1000000 in
theorem lstatic_any (i : Int) (n v : ByteArray) (b : Bool) (M : Int) (w : World) (hM : w.cell? ⟨6, 0, none⟩ = some (.int .i64 M)) :
    Calls Tryd.prog 3 #[.int .i64 i, .agg #[.string n, .string v, .bool b]] w fun e w' => e = .returned (.bool true) ∧ Below w.heap.size w w' := by
  have HM := Lib.hid (fun (W : World) (hb : Below w.heap.size w W) => (Below.cell hb (p := ⟨6, 0, none⟩) (cell_in hM)).trans hM)
  clear hM
  have hb0 := (Below.refl w.heap.size w).alloc (Nat.le_refl _) (.cells #[.string n, .string v, .bool b] 23)
  have hk0 := Blk.new w 23 #[.string n, .string v, .bool b]
  go_enter Tryd.func3, Tryd.ntmps3
  go_wp2_with fail
  generalize w.alloc (.cells #[.string n, .string v, .bool b] 23) = W0 at *
  obtain ⟨B, hB⟩ : ∃ B, B = w.heap.size := ⟨_, rfl⟩
  have hle : B ≤ w.heap.size := Nat.le_of_eq hB
  rw [← hB] at hb0 hk0 HM ⊢
  have HB := Lib.hid hB
  clear hB
  refine (first_any M W0 (HM.out W0 hb0)).mono ?_
  rintro e w1 ⟨rfl, hx⟩
  have hk1 := hk0.below hx hk0.lt
  have hb1 := hb0.trans (hx.mono (Nat.le_trans hle hb0.size))
  clear hk0 hb0 hx
  go_wp2_with fail
  refine (static_any M i w1 (HM.out w1 hb1)).mono ?_
  rintro e w2 ⟨rfl, hx⟩
  have hk2 := hk1.below hx hk1.lt
  have hb2 := hb1.trans (hx.mono (Nat.le_trans hle hb1.size))
  clear hk1 hb1 hx
  unfold hdR
  have HR := Lib.hid (fun W => rstatic_any i W)
  unfold hdR at HR
  generalize hdN (statAt i) = xn at *
  generalize hdV (statAt i) = xv at *
  generalize (statAt i).isSome = xb at *
  go_wp2_with fail
  have hk3 := hk2.alloc (.cells #[.string xn, .string xv, .bool false] 23)
  have ha3 := Blk.new w2 23 #[.string xn, .string xv, .bool false]
  have hb3 := hb2.alloc (Nat.le_trans hle hb2.size) (.cells #[.string xn, .string xv, .bool false] 23)
  clear hk2 hb2
  generalize w2.alloc (.cells #[.string xn, .string xv, .bool false] 23) = W3 at *
  generalize w2.heap.size = p at *
  refine (HR.out W3).mono ?_
  rintro e w4 ⟨rfl, hx⟩
  have hk4 := hk3.below hx hk3.lt
  have ha4 := ha3.below hx ha3.lt
  have hb4 := hb3.trans (hx.mono (Nat.le_trans hle hb3.size))
  clear hk3 hb3 ha3 hx HR
  have hk5 := hk4.alloc (.cells #[.string xn, .string xv, .bool false] 23)
  have ha5 := ha4.alloc (.cells #[.string xn, .string xv, .bool false] 23)
  have hb5 := hb4.alloc (Nat.le_trans hle hb4.size) (.cells #[.string xn, .string xv, .bool false] 23)
  have a0 : (w4.alloc (.cells #[.string xn, .string xv, .bool false] 23)).cell? ⟨p, 0, none⟩ = some (.string xn) := ha5.cell 0
  have a1 : (w4.alloc (.cells #[.string xn, .string xv, .bool false] 23)).cell? ⟨p, 1, none⟩ = some (.string xv) := ha5.cell 1
  have a2 : (w4.alloc (.cells #[.string xn, .string xv, .bool false] 23)).cell? ⟨p, 2, none⟩ = some (.bool false) := ha5.cell 2
  clear hk4 hb4 ha4 ha5
  go_wp2_with fail
  refine (same_header_any xn xv false _).mono ?_
  rintro e w6 ⟨rfl, hx⟩
  clear a0 a1 a2
  have hk6 := hk5.below hx hk5.lt
  have hb6 := hb5.trans (hx.mono (Nat.le_trans hle hb5.size))
  clear hk5 hb5 hx
  go_wp2_with fail
  have k0 : w6.cell? ⟨B, 0, none⟩ = some (.string n) := hk6.cell 0
  have k1 : w6.cell? ⟨B, 1, none⟩ = some (.string v) := hk6.cell 1
  have k2 : w6.cell? ⟨B, 2, none⟩ = some (.bool b) := hk6.cell 2
  have HS := Lib.hid (fun W => size_wide2 n v b W)
  refine wp_region_in (Since w6) (Since.drew0 w6) (by kernel_rfl) (by kernel_rfl) ?_
  repeat (first
    | go_big_quiet_skip
    | (go_big_quiet_want; go_big_quiet_op; go_big_quiet_on)
    | (go_big_quiet_want; apply in_val; (· intro W hW; have d0 := hW.cell k0; have d1 := hW.cell k1; have d2 := hW.cell k2; go_simp; first | done | rfl); simp only [Act.put, List.setIfInBounds_toArray, List.set_cons_zero, List.set_cons_succ]; go_big_quiet_on)
    | (go_big_quiet_want; apply in_q; (· intro W hW; go_simp; (go_at_call 17; with_reducible exact hW.call (HS.out W))); simp only [Act.put, List.setIfInBounds_toArray, List.set_cons_zero, List.set_cons_succ]; go_big_quiet_on))
  refine wpQuiet_nil ?_
  intro w7 hw7
  go_wp2_with fail
  go_ret
  exact ⟨by simp, by rw [← HB.out]; exact hb6.trans (Below.mono hw7 (Nat.le_trans hle hb6.size))⟩
end Go.Proofs.YtflmgjidnclegaaDoor.Tab
