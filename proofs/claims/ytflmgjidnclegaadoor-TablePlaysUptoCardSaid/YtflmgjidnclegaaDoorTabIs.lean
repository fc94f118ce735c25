/-
  The walk of is: the table and the document's table tell the same.
-/
import Derived.Test.YtflmgjidnclegaaDoorTabRef4
import Derived.Outline
namespace Go.Proofs.YtflmgjidnclegaaDoor.Tab
open Go.RowKit
set_option maxRecDepth 100000 in
set_option maxHeartbeats 1000000 in
theorem is_any {w : World} {g r o B x m : Nat} {Q : List Hd} (hT : Tbl w g r o Q m) (hX : RTbl w B x r Q m) (i : Int) (hi : i ≤ 9223372036854775807) (M : Int) (hM : w.cell? ⟨6, 0, none⟩ = some (.int .i64 M)) :
    Calls Tryd.prog 29 #[.pointer (some ⟨g, 0, none⟩), .pointer (some ⟨x, 0, none⟩), .int .i64 i] w fun e w' => e = .returned (.bool true) ∧ Below w.heap.size w w' := by
  have hg := get_any hT i M hM
  have HR := Lib.hid (fun (W : World) (hW : Since w W) => rget_any (hX.below hW) i hi)
  have HT := Lib.hid hT
  have HX := Lib.hid hX
  unfold hdR at hg HR
  generalize hdN (getAt Q i) = xn at *
  generalize hdV (getAt Q i) = xv at *
  generalize (getAt Q i).isSome = xb at *
  have HG := Lib.hid hg
  clear hg hT hX hM
  go_enter Tryd.func29, Tryd.ntmps29
  go_wp2_with fail
  refine HG.out.mono ?_
  rintro e w1 ⟨rfl, hx1⟩
  have hb2 : Since w (w1.alloc (.cells #[.string xn, .string xv, .bool false] 23)) := Below.alloc hx1 hx1.size _
  have hk2 := Blk.new w1 23 #[.string xn, .string xv, .bool false]
  clear HG hx1
  go_wp2_with fail
  generalize w1.alloc (.cells #[.string xn, .string xv, .bool false] 23) = W2 at *
  generalize w1.heap.size = p at *
  refine (HR.out W2 hb2).mono ?_
  rintro e w3 ⟨rfl, hx3⟩
  have hb3 := Below.trans hb2 (hx3.mono hb2.size)
  have hk3 := hk2.below hx3 hk2.lt
  have hb4 : Since w (w3.alloc (.cells #[.string xn, .string xv, .bool false] 23)) := Below.alloc hb3 hb3.size _
  have hk4 := hk3.alloc (.cells #[.string xn, .string xv, .bool false] 23)
  have a0 : (w3.alloc (.cells #[.string xn, .string xv, .bool false] 23)).cell? ⟨p, 0, none⟩ = some (.string xn) := hk4.cell 0
  have a1 : (w3.alloc (.cells #[.string xn, .string xv, .bool false] 23)).cell? ⟨p, 1, none⟩ = some (.string xv) := hk4.cell 1
  have a2 : (w3.alloc (.cells #[.string xn, .string xv, .bool false] 23)).cell? ⟨p, 2, none⟩ = some (.bool false) := hk4.cell 2
  clear HR hb2 hk2 hx3 hb3 hk3 hk4
  go_wp2_with fail
  refine (same_header_any xn xv false _).mono ?_
  rintro e w5 ⟨rfl, hx5⟩
  have hb5 : Since w w5 := Below.trans hb4 (hx5.mono hb4.size)
  have hT5 := HT.out.below hb5
  have hX5 := HX.out.below hb5
  have hl := hT5.len
  obtain ⟨A, c, k1, _, _⟩ := hX5.kx
  have x0 : w5.cell? ⟨x, 0, none⟩ = some (.slice A Q.length c) := k1.cell 0
  have x1 : w5.cell? ⟨x, 1, none⟩ = some (.int .i64 (m : Int)) := k1.cell 1
  have HL := Lib.hid (fun (W : World) (hW : Since w5 W) => len_any (hT5.below hW))
  have HS := Lib.hid (fun (W : World) (hW : Since w5 W) => tsize_any (hT5.below hW))
  have HM := Lib.hid (fun (W : World) (hW : Since w5 W) => most_any (hT5.below hW))
  have HRS := Lib.hid (fun (W : World) (hW : Since w5 W) => rtsize_any (hX5.below hW))
  have HB5 := Lib.hid hb5
  clear HT HX hb4 a0 a1 a2 hx5 hb5 hT5 hX5 k1
  go_wp2_with fail
  refine wp_region_in (Since w5) (Since.drew0 w5) (by kernel_rfl) (by kernel_rfl) ?_
  repeat (first
    | go_big_quiet_skip
    | (go_big_quiet_want; go_big_quiet_op; go_big_quiet_on)
    | (go_big_quiet_want; apply in_val; (· intro W hW; have d0 := hW.cell x0; have d1 := hW.cell x1; go_simp; first | done | rfl); simp only [Act.put, List.setIfInBounds_toArray, List.set_cons_zero, List.set_cons_succ]; go_big_quiet_on)
    | (go_big_quiet_want; apply in_q; (· intro W hW; go_simp; first | (go_at_call 23; with_reducible exact hW.callS (HL.out W hW)) | (go_at_call 24; with_reducible exact hW.callS (HS.out W hW)) | (go_at_call 32; with_reducible exact hW.callS (HM.out W hW)) | (go_at_call 62; with_reducible exact hW.call (HRS.out W hW))); simp only [Act.put, List.setIfInBounds_toArray, List.set_cons_zero, List.set_cons_succ]; go_big_quiet_on))
  refine wpQuiet_nil ?_
  intro w6 hw6
  go_wp2_with fail
  go_ret
  exact ⟨rfl, Below.trans HB5.out (Below.mono hw6 HB5.out.size)⟩
end Go.Proofs.YtflmgjidnclegaaDoor.Tab
