/-
  The walk of the policy chapter's examples (first).
-/
import Derived.Test.YtnmcjdiihebagaaDoorPolFailed
namespace Go.Proofs.YtnmcjdiihebagaaDoor.Pol
open Go.RowKit
theorem IntsAt.upd {w w' : World} {A : Option Addr} {xs : List Int} {g : Nat} {cs : Array Value} (h : IntsAt w A xs) (u : Upd w w' g cs) (hne : ∀ ad, A = some ad → ad.block ≠ g) : IntsAt w' A xs := by
  intro i hi
  obtain ⟨b, off, hA, hlt, hc⟩ := h i hi
  refine ⟨b, off, hA, Nat.lt_of_lt_of_le hlt u.2.size, ?_⟩
  rw [World.cell?_of_block (w := w) (u.2.block b hlt (fun e => hne _ hA (by injection e)))]
  exact hc
theorem Upd.to_below {w0 w w' : World} {g : Nat} {cs : Array Value} (hb : Below w0.heap.size w0 w) (hg : w0.heap.size ≤ g) (u : Upd w w' g cs) : Below w0.heap.size w0 w' :=
  hb.grown u.2 hb.size (fun k e => by injection e; omega)
theorem ok_first : polOk ((3 : Nat) : Int) ((100 : Nat) : Int) ((150 : Nat) : Int) ((20 : Nat) : Int) [14] = true := by decide
theorem wait1 : (if (0 : Int) ≤ -1 then (-1 : Int) else ((waitN 100 150 20 (0 + 1) 1000 : Nat) : Int)) = 100 := by decide
theorem wait2 : (if (0 : Int) ≤ -1 then (-1 : Int) else ((waitN 100 150 20 (1 + 1) 1000 : Nat) : Int)) = 150 := by decide
theorem wait3 : waitN 100 150 20 1 500 = 50 := by decide
set_option maxRecDepth 100000 in
set_option maxHeartbeats 4000000 in
theorem first_any (v : Value) (w : World) (hv : w.cell? ⟨0, 0, none⟩ = some v) (hg : 0 < w.heap.size) :
    Calls Tryd.prog 9 #[] w fun e w' => e = .returned (.bool true) ∧ Below w.heap.size w w' := by
  go_enter Tryd.func9, Tryd.ntmps9
  go_wp2_with fail
  have hBa : Below w.heap.size w ((w.alloc (.cells #[.int .i64 14] 3)).alloc (.cells #[.int .i64 3, .int .i64 100, .int .i64 150, .int .i64 20, .slice (some ⟨w.heap.size, 0, none⟩) 1 1] 29)) := ((Below.refl _ _).alloc (Nat.le_refl _) _).alloc (by simp) _
  have kp : Blk ((w.alloc (.cells #[.int .i64 14] 3)).alloc (.cells #[.int .i64 3, .int .i64 100, .int .i64 150, .int .i64 20, .slice (some ⟨w.heap.size, 0, none⟩) 1 1] 29)) (w.heap.size + 1) 29 #[.int .i64 3, .int .i64 100, .int .i64 150, .int .i64 20, .slice (some ⟨w.heap.size, 0, none⟩) 1 1] := by
    have := Blk.new (w.alloc (.cells #[.int .i64 14] 3)) 29 #[.int .i64 3, .int .i64 100, .int .i64 150, .int .i64 20, .slice (some ⟨w.heap.size, 0, none⟩) 1 1]
    simpa using this
  have kx : Blk ((w.alloc (.cells #[.int .i64 14] 3)).alloc (.cells #[.int .i64 3, .int .i64 100, .int .i64 150, .int .i64 20, .slice (some ⟨w.heap.size, 0, none⟩) 1 1] 29)) w.heap.size 3 #[.int .i64 14] := (Blk.new _ _ _).alloc _
  generalize (w.alloc (.cells #[.int .i64 14] 3)).alloc (.cells #[.int .i64 3, .int .i64 100, .int .i64 150, .int .i64 20, .slice (some ⟨w.heap.size, 0, none⟩) 1 1] 29) = wa at *
  have hxa : IntsAt wa (some ⟨w.heap.size, 0, none⟩) [14] := by
    intro i hi
    have h0 : i = 0 := by simp at hi; omega
    subst h0
    exact ⟨_, 0, rfl, kx.lt, kx.cell 0⟩
  have N := newcall_ok ((3 : Nat) : Int) ((100 : Nat) : Int) ((150 : Nat) : Int) ((20 : Nat) : Int) [14] (some ⟨w.heap.size, 0, none⟩) 1 1 rfl (by omega) (fun e => by cases e) none v wa hxa ok_first ((hBa.cell hg).trans hv) (Nat.lt_of_lt_of_le hg hBa.size)
  have HN := Lib.hid N
  clear N hxa kx
  refine HN.out.mono ?_
  rintro e w2 ⟨g, A', c', rfl, hgg, kg, hx2, hA', hb2⟩
  have kp2 := kp.below hb2 kp.lt
  have hB2 : Below w.heap.size w w2 := hBa.trans (hb2.mono hBa.size)
  have hgp : w.heap.size + 1 < g := Nat.lt_of_lt_of_le kp.lt hgg
  have hAg : ∀ ad, A' = some ad → ad.block ≠ g := fun ad e => (hA' ad e).2
  have F1 := failed_yes g 3 100 150 20 [14] A' 1 c' 1 0 false false false 14 (-1) 1000 false w2 (by omega) (by omega) (by omega) (by omega) (by omega) rfl (by omega) hx2 kg rfl rfl rfl (by decide)
  rw [wait1] at F1
  have HF1 := Lib.hid F1
  have Hx2 := Lib.hid hx2
  clear F1 HN kp hb2 hA' hBa kg hgg hx2
  go_wp2_with fail
  refine HF1.out.mono ?_
  rintro e w3 ⟨rfl, u3⟩
  have hx3 := Hx2.out.upd u3 hAg
  have F2 := failed_yes g 3 100 150 20 [14] A' 1 c' (1 + 1) (0 + 1) false false false 14 (-1) 1000 false w3 (by omega) (by omega) (by omega) (by omega) (by omega) rfl (by omega) hx3 u3.1 rfl rfl rfl (by decide)
  rw [show (0 : Int) + 1 = 1 from rfl, wait2] at F2
  have HF2 := Lib.hid F2
  have Hu3 := Lib.hid u3
  have Hx3 := Lib.hid hx3
  clear F2 u3 hx3 Hx2 HF1
  go_wp2_with fail
  refine HF2.out.mono ?_
  rintro e w4 ⟨rfl, u4⟩
  have hx4 := Hx3.out.upd u4 hAg
  have F3 := failed_no g 3 100 150 20 [14] A' 1 c' (1 + 1 + 1) (1 + 1) false false false 14 (-1) 1000 false w4 rfl (by omega) hx4 u4.1 rfl rfl rfl (by decide)
  have HF3 := Lib.hid F3
  have Hu4 := Lib.hid (Hu3.out.trans u4)
  clear F3 u4 hx4 Hx3 Hu3 HF2
  go_wp2_with fail
  refine HF3.out.mono ?_
  rintro e w5 ⟨rfl, u5⟩
  have Hu5 := Lib.hid (Hu4.out.trans u5)
  clear u5 Hu4 HF3
  have hgl5 := Hu5.out.1.lt
  have T := newthr_ok 2 100 w5 (by omega) (by omega)
  have HT := Lib.hid T
  clear T
  go_wp2_with fail
  refine HT.out.mono ?_
  rintro e w6 ⟨rfl, rfl⟩
  have kt := Blk.new w5 83 #[.int .i64 (((2 : Nat) : Int) * 1000), .int .i64 (((2 : Nat) : Int) * 1000), .int .i64 ((100 : Nat) : Int)]
  have Hu6 := Lib.hid (Hu5.out.alloc (.cells #[.int .i64 (((2 : Nat) : Int) * 1000), .int .i64 (((2 : Nat) : Int) * 1000), .int .i64 ((100 : Nat) : Int)] 83))
  have hgt : g < w5.heap.size := hgl5
  generalize hq : w5.heap.size = q at *
  generalize w5.alloc (.cells #[.int .i64 (((2 : Nat) : Int) * 1000), .int .i64 (((2 : Nat) : Int) * 1000), .int .i64 ((100 : Nat) : Int)] 83) = w6 at *
  have FA := fail_any q (((2 : Nat) : Int) * 1000) (((2 : Nat) : Int) * 1000) ((100 : Nat) : Int) w6 (by decide) kt
  have HFA := Lib.hid FA
  have Kt := Lib.hid kt
  clear FA kt HT Hu5
  go_wp2_with fail
  refine HFA.out.mono ?_
  rintro e w7 ⟨rfl, rfl⟩
  have kt7 : Blk (w6.setCell ⟨q, 0, none⟩ (.int .i64 (max 0 (((2 : Nat) : Int) * 1000 - 1000)))) q 83 #[.int .i64 1000, .int .i64 2000, .int .i64 100] := Kt.out.set_ 0 _
  have hne : g ≠ q := by omega
  have kg7 := Hu6.out.1.far (p := ⟨q, 0, none⟩) hne (.int .i64 (max 0 (((2 : Nat) : Int) * 1000 - 1000)))
  have hB6 : Below w.heap.size w w6 := Upd.to_below hB2 (by omega) Hu6.out
  have hB7 : Below w.heap.size w (w6.setCell ⟨q, 0, none⟩ (.int .i64 (max 0 (((2 : Nat) : Int) * 1000 - 1000)))) := hB6.setCell (p := ⟨q, 0, none⟩) (by show w.heap.size ≤ q; omega) _
  have kp6 := kp2.grown Hu6.out.2 (fun x => by injection x; omega)
  have kp7 := kp6.far (p := ⟨q, 0, none⟩) (by show w.heap.size + 1 ≠ q; omega) (.int .i64 (max 0 (((2 : Nat) : Int) * 1000 - 1000)))
  generalize w6.setCell ⟨q, 0, none⟩ (.int .i64 (max 0 (((2 : Nat) : Int) * 1000 - 1000))) = w7 at *
  have Kt7 := Lib.hid kt7
  have Kg7 := Lib.hid kg7
  have Kp7 := Lib.hid kp7
  clear Kt kt7 kg7 kp6 kp7 kp2 Hu6 HFA hB6
  go_wp2_with fail
  refine (tries_any g _ _ _ _ _ _ (1 + 1 + 1) (1 + 1) _ _ _ w7 Kg7.out).mono ?_
  rintro e w8 ⟨rfl, rfl⟩
  go_wp2_with fail
  refine (open_any q 1000 2000 100 w7 (by omega) Kt7.out).mono ?_
  rintro e w8 ⟨rfl, nq, rfl⟩
  have Kt8 := Lib.hid (Kt7.out.drewN nq)
  have kp8 := Kp7.out.drewN nq
  have hB8 := below_drewN hB7 nq
  clear Kt7 Kp7 Kg7 hB7
  generalize w7.drewN nq = w8 at *
  have o0 : w8.cell? ⟨w.heap.size + 1, 0, none⟩ = some (.int .i64 3) := kp8.cell 0
  have o1 : w8.cell? ⟨w.heap.size + 1, 1, none⟩ = some (.int .i64 100) := kp8.cell 1
  have o2 : w8.cell? ⟨w.heap.size + 1, 2, none⟩ = some (.int .i64 150) := kp8.cell 2
  have o3 : w8.cell? ⟨w.heap.size + 1, 3, none⟩ = some (.int .i64 20) := kp8.cell 3
  have o4 : w8.cell? ⟨w.heap.size + 1, 4, none⟩ = some (.slice (some ⟨w.heap.size, 0, none⟩) 1 1) := kp8.cell 4
  clear kp8
  go_wp2_with fail
  refine (tokens_any q 1000 2000 100 w8 Kt8.out).mono ?_
  rintro e w9 ⟨rfl, rfl⟩
  have HW := wait_any 3 100 150 20 (.slice (some ⟨w.heap.size, 0, none⟩) 1 1) 1 500 w8 (by omega) (by omega) (by omega) (by omega)
  rw [wait3] at HW
  have HWW := Lib.hid HW
  clear HW
  go_wp2_with fail
  refine HWW.out.mono ?_
  rintro e w9 ⟨rfl, hb9⟩
  go_wp2_with fail
  go_ret
  exact ⟨rfl, hB8.trans (hb9.mono hB8.size)⟩
end Go.Proofs.YtnmcjdiihebagaaDoor.Pol
