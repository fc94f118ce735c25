/-
  The walk of the chapter's examples.
-/
import Derived.Test.YtflmgjidnclegaaDoorTabM
import Derived.Outline
namespace Go.Proofs.YtflmgjidnclegaaDoor.Tab
open Go.RowKit
abbrev hdA : Hd := (⟨#[97]⟩, ⟨#[49]⟩)
abbrev hdB : Hd := (⟨#[98]⟩, ⟨#[50]⟩)
abbrev hdC : Hd := (⟨#[99]⟩, ⟨#[51]⟩)
theorem ex1 : addQ 70 hdA [] = [hdA] := by kernel_rfl
theorem ex2 : addQ 70 hdB [hdA] = [hdA, hdB] := by kernel_rfl
theorem ex3 : addQ 70 hdC [hdA, hdB] = [hdB, hdC] := by kernel_rfl
theorem ex4 : getAt [hdB, hdC] 62 = some hdC := by kernel_rfl
theorem ex5 : statAt 2 = some (⟨#[58, 109, 101, 116, 104, 111, 100]⟩, ⟨#[71, 69, 84]⟩) := by kernel_rfl
set_option maxRecDepth 100000 in
theorem ex6 : findR ⟨#[58, 109, 101, 116, 104, 111, 100]⟩ ⟨#[80, 85, 84]⟩ [hdB, hdC] = (2, false) := by kernel_rfl
theorem hdR_some (x : Hd) : hdR (some x) = .tuple #[.agg #[.string x.1, .string x.2, .bool false], .bool true] := rfl
theorem add_lit {w : World} {g r o : Nat} {Q Q' : List Hd} (h : Tbl w g r o Q 70) (n v : ByteArray) (hn : hsz (n, v) ≤ 4611686018427387904) (he : addQ 70 (n, v) Q = Q') (B : Nat) (hg : B ≤ g) (hr : B ≤ r) (W : World) (hb : Below B W w) (hB : B ≤ W.heap.size) :
    Calls Tryd.prog 21 #[.pointer (some ⟨g, 0, none⟩), .agg #[.string n, .string v, .bool false]] w fun e w' => e = .returned (.tuple #[]) ∧ ∃ o, Tbl w' g r o Q' 70 ∧ Below B W w' :=
  (add_any h n v false hn).mono fun _ _ ⟨he1, o', hT, hu⟩ => ⟨he1, o', he ▸ hT, below_upd hb hu (by rintro i (rfl | rfl) <;> assumption) hB⟩
set_option maxRecDepth 100000 in
set_option maxHeartbeats 1000000 in
theorem first_any (M : Int) (w : World) (hM : w.cell? ⟨6, 0, none⟩ = some (.int .i64 M)) :
    Calls Tryd.prog 13 #[] w fun e w' => e = .returned (.bool true) ∧ Below w.heap.size w w' := by
  have HM := Lib.hid (fun (W : World) (hb : Below w.heap.size w W) => (Below.cell hb (p := ⟨6, 0, none⟩) (cell_in hM)).trans hM)
  clear hM
  have HN := Lib.hid (new_yes 70 (by omega) w)
  obtain ⟨B, hB⟩ : ∃ B, B = w.heap.size := ⟨_, rfl⟩
  rw [← hB] at HN HM ⊢
  have HB := Lib.hid hB
  have hle : B ≤ w.heap.size := Nat.le_of_eq hB
  clear hB
  go_enter Tryd.func13, Tryd.ntmps13
  go_wp2_with fail
  refine HN.out.mono ?_
  rintro e w1 ⟨rfl, hb1, hT1⟩
  clear HN
  go_wp2_with fail
  refine (add_lit hT1 _ _ (by decide) ex1 B (by omega) (by omega) w hb1 (Nat.le_of_eq HB.out)).mono ?_
  rintro e w2 ⟨rfl, o2, hT2, hb2⟩
  clear hT1 hb1
  go_wp2_with fail
  refine (add_lit hT2 _ _ (by decide) ex2 B (by omega) (by omega) w hb2 (Nat.le_of_eq HB.out)).mono ?_
  rintro e w3 ⟨rfl, o3, hT3, hb3⟩
  clear hT2 hb2
  go_wp2_with fail
  refine (add_lit hT3 _ _ (by decide) ex3 B (by omega) (by omega) w hb3 (Nat.le_of_eq HB.out)).mono ?_
  rintro e w4 ⟨rfl, o4, hT4, hb4⟩
  clear hT3 hb3
  go_wp2_with fail
  refine (get_any hT4 62 M (HM.out w4 hb4)).mono ?_
  rintro e w5 ⟨rfl, hb5⟩
  rw [ex4, hdR_some]
  have hT5 := hT4.below hb5
  have hb6 := hb4.trans (hb5.mono (Nat.le_trans hle hb4.size))
  clear hT4 hb4 hb5
  go_wp2_with fail
  have hT7 := hT5.below ((Below.refl _ _).alloc (Nat.le_refl _) (.cells #[.string ⟨#[99]⟩, .string ⟨#[51]⟩, .bool false] 23))
  have hb7 := hb6.alloc (Nat.le_trans hle hb6.size) (.cells #[.string ⟨#[99]⟩, .string ⟨#[51]⟩, .bool false] 23)
  have hk7 := Blk.new w5 23 #[.string ⟨#[99]⟩, .string ⟨#[51]⟩, .bool false]
  clear hT5 hb6
  generalize w5.alloc (.cells #[.string ⟨#[99]⟩, .string ⟨#[51]⟩, .bool false] 23) = W7 at *
  generalize w5.heap.size = p at *
  refine (static_any M 2 W7 (HM.out W7 hb7)).mono ?_
  rintro e w8 ⟨rfl, hb8⟩
  rw [ex5, hdR_some]
  have hT8 := hT7.below hb8
  have hk8 := hk7.below hb8 hk7.lt
  have hb9 := hb7.trans (hb8.mono (Nat.le_trans hle hb7.size))
  clear hT7 hk7 hb7 hb8
  go_wp2_with fail
  have hx := (Below.refl w8.heap.size w8).alloc (Nat.le_refl _) (.cells #[.string ⟨#[58, 109, 101, 116, 104, 111, 100]⟩, .string ⟨#[71, 69, 84]⟩, .bool false] 23)
  have hT10 := hT8.below hx
  have hk10 := hk8.below hx hk8.lt
  have hb10 := hb9.alloc (Nat.le_trans hle hb9.size) (.cells #[.string ⟨#[58, 109, 101, 116, 104, 111, 100]⟩, .string ⟨#[71, 69, 84]⟩, .bool false] 23)
  have hs10 := Blk.new w8 23 #[.string ⟨#[58, 109, 101, 116, 104, 111, 100]⟩, .string ⟨#[71, 69, 84]⟩, .bool false]
  clear hT8 hk8 hb9 hx
  generalize w8.alloc (.cells #[.string ⟨#[58, 109, 101, 116, 104, 111, 100]⟩, .string ⟨#[71, 69, 84]⟩, .bool false] 23) = W10 at *
  generalize w8.heap.size = q at *
  refine (find_any hT10 _ _ M (HM.out W10 hb10)).mono ?_
  rintro e w11 ⟨rfl, hb11⟩
  rw [ex6]
  have hT11 := hT10.below hb11
  have k0 : w11.cell? ⟨p, 0, none⟩ = some (.string ⟨#[99]⟩) := (hk10.below hb11 hk10.lt).cell 0
  have s1 : w11.cell? ⟨q, 1, none⟩ = some (.string ⟨#[71, 69, 84]⟩) := (hs10.below hb11 hs10.lt).cell 1
  have hb12 := hb10.trans (hb11.mono (Nat.le_trans hle hb10.size))
  have HL := Lib.hid (len_any hT11)
  have HT := Lib.hid (tsize_any hT11)
  clear hT10 hk10 hs10 hb10 hb11 hT11
  go_wp2_with fail
  refine HL.out.mono ?_
  rintro e w12 ⟨rfl, rfl⟩
  go_wp2_with fail
  refine HT.out.mono ?_
  rintro e w13 ⟨rfl, rfl⟩
  have e1 : tot [hdB, hdC] = 68 := by kernel_rfl
  rw [e1]
  clear HT HL
  go_wp2_with fail
  go_ret
  exact ⟨rfl, hb12⟩
end Go.Proofs.YtflmgjidnclegaaDoor.Tab
