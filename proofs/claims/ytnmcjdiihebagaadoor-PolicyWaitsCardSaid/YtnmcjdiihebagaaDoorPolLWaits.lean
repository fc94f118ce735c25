/-
  The walk of the law PolicyWaits: it answers true.
-/
import Derived.Test.YtnmcjdiihebagaaDoorPolFirst
import Derived.Test.YtnmcjdiihebagaaDoorSteady
namespace Go.Proofs.YtnmcjdiihebagaaDoor.Pol
open Go.RowKit
theorem wait_mono (F M X : Nat) (n d d' : Int) (h : d ≤ d') : waitN F M X n d ≤ waitN F M X n d' := by
  unfold waitN
  exact Nat.div_le_div_right (Nat.mul_le_mul_left _ (by omega))
theorem wait_full (F M X : Nat) (n : Int) : waitN F M X n 1000 = min (msAt M X F (n - 1).toNat) M := by
  unfold waitN
  rw [show (max 0 (min (1000 : Int) 1000)).toNat = 1000 by decide]
  exact Nat.mul_div_cancel _ (by decide)
theorem wait_draw (F M X : Nat) (n d : Int) : waitN F M X n d ≤ waitN F M X n 1000 := by
  unfold waitN
  exact Nat.div_le_div_right (Nat.mul_le_mul_left _ (by omega))
theorem wait_most (F M X : Nat) (n : Int) : waitN F M X n 1000 ≤ M := by rw [wait_full]; exact Nat.min_le_right _ _
theorem wait_zero (F M X : Nat) (n : Int) : waitN F M X n 0 = 0 := by
  unfold waitN
  rw [show (max 0 (min (0 : Int) 1000)).toNat = 0 by decide]
  simp
theorem wait_one (F M X : Nat) : waitN F M X 1 1000 = min F M := by rw [wait_full]; rfl
theorem wait_rise (F M X : Nat) (hX : 10 ≤ X) (k : Nat) : waitN F M X ((k : Int) + 1) 1000 ≤ waitN F M X ((k : Int) + 2) 1000 := by
  rw [wait_full, wait_full, show ((k : Int) + 1 - 1).toNat = k by omega, show ((k : Int) + 2 - 1).toNat = k + 1 by omega]
  have h : msAt M X F k ≤ msAt M X F (k + 1) := by
    show _ ≤ (if msAt M X F k < M then msAt M X F k * X / 10 else msAt M X F k)
    split
    · have : msAt M X F k * 10 ≤ msAt M X F k * X := Nat.mul_le_mul_left _ hX
      omega
    · exact Nat.le_refl _
  omega
theorem numsOk_bounds {T F M X : Int} (h : numsOk T F M X = true) : 1 ≤ T ∧ T ≤ 5 ∧ 0 ≤ F ∧ F ≤ 1000000 ∧ 0 ≤ M ∧ M ≤ 1000000 ∧ 1 ≤ X ∧ X ≤ 100 := by
  unfold numsOk at h
  simp only [Bool.and_eq_true, decide_eq_true_eq] at h
  omega
/-- the worlds in which the policy's cells are as they were -/
def PolW (w : World) (T F M X : Int) (l : Value) (W : World) : Prop := Blk W w.heap.size 24 #[.int .i64 T, .int .i64 F, .int .i64 M, .int .i64 X, l] ∧ Below w.heap.size w W
theorem PolW.below {w : World} {T F M X : Int} {l : Value} {W W' : World} (h : PolW w T F M X l W) (hb : Below W.heap.size W W') : PolW w T F M X l W' := ⟨h.1.below hb h.1.lt, h.2.trans (hb.mono h.2.size)⟩
theorem PolW.call {w : World} {T F M X : Int} {l : Value} {W : World} (h : PolW w T F M X l W) {f : FuncId} {args : Array Value} {r : Value} (H : Calls Tryd.prog f args W fun e w' => e = .returned r ∧ Below W.heap.size W w') :
    Calls Tryd.prog f args W fun e w' => e = .returned r ∧ PolW w T F M X l w' := H.mono fun _ _ h2 => ⟨h2.1, h.below h2.2⟩
theorem PolW.cells {w : World} {T F M X : Int} {l : Value} {W : World} (h : PolW w T F M X l W) : W.cell? ⟨w.heap.size, 0, none⟩ = some (.int .i64 T) ∧ W.cell? ⟨w.heap.size, 1, none⟩ = some (.int .i64 F) ∧ W.cell? ⟨w.heap.size, 2, none⟩ = some (.int .i64 M) ∧ W.cell? ⟨w.heap.size, 3, none⟩ = some (.int .i64 X) ∧ W.cell? ⟨w.heap.size, 4, none⟩ = some l :=
  ⟨h.1.cell 0, h.1.cell 1, h.1.cell 2, h.1.cell 3, h.1.cell 4⟩
set_option maxRecDepth 100000 in
set_option maxHeartbeats 4000000 in
theorem lwaits_any (T F M X : Int) (xs : List Int) (A : Option Addr) (n c : Nat) (k draw more : Int) (hn : xs.length = n) (hcap : n ≤ 9223372036854775807) (hk : k ≤ 9223372036854775807) (v : Value) (hie : IsErr v) (w : World) (hx : IntsAt w A xs) (hv : w.cell? ⟨0, 0, none⟩ = some v) (hg : 0 < w.heap.size) :
    Calls Tryd.prog 3 #[.agg #[.int .i64 T, .int .i64 F, .int .i64 M, .int .i64 X, .slice A n c], .int .i64 k, .int .i64 draw, .int .i64 more] w fun e w' => e = .returned (.bool true) ∧ Below w.heap.size w w' := by
  have hB0 : Below w.heap.size w (w.alloc (.cells #[.int .i64 T, .int .i64 F, .int .i64 M, .int .i64 X, .slice A n c] 24)) := (Below.refl _ _).alloc (Nat.le_refl _) _
  have kb0 := Blk.new w 24 #[.int .i64 T, .int .i64 F, .int .i64 M, .int .i64 X, .slice A n c]
  go_enter Tryd.func3, Tryd.ntmps3
  go_wp2_with fail
  generalize w.alloc (.cells #[.int .i64 T, .int .i64 F, .int .i64 M, .int .i64 X, .slice A n c] 24) = w0 at *
  refine (first_any v w0 ((hB0.cell hg).trans hv) (Nat.lt_of_lt_of_le hg hB0.size)).mono ?_
  rintro e w1 ⟨rfl, hb1⟩
  have hB1 : Below w.heap.size w w1 := hB0.trans (hb1.mono hB0.size)
  have kb1 := kb0.below hb1 kb0.lt
  have o0 : w1.cell? ⟨w.heap.size, 0, none⟩ = some (.int .i64 T) := kb1.cell 0
  have o1 : w1.cell? ⟨w.heap.size, 1, none⟩ = some (.int .i64 F) := kb1.cell 1
  have o2 : w1.cell? ⟨w.heap.size, 2, none⟩ = some (.int .i64 M) := kb1.cell 2
  have o3 : w1.cell? ⟨w.heap.size, 3, none⟩ = some (.int .i64 X) := kb1.cell 3
  have o4 : w1.cell? ⟨w.heap.size, 4, none⟩ = some (.slice A n c) := kb1.cell 4
  clear hb1 kb0 hB0
  go_wp2_with fail
  refine (made_any T F M X A n c w1).mono ?_
  rintro e w2 ⟨rfl, hb2⟩
  have hB2 : Below w.heap.size w w2 := hB1.trans (hb2.mono hB1.size)
  have kb2 := kb1.below hb2 kb1.lt
  clear o0 o1 o2 o3 o4
  go_wp2_with fail
  refine (valid_any T F M X xs A n c hn hcap v w2 (hx.below hB2) ((hB2.cell hg).trans hv) (Nat.lt_of_lt_of_le hg hB2.size)).mono ?_
  rintro e w3 ⟨rfl, hb3⟩
  have hB3 : Below w.heap.size w w3 := hB2.trans (hb3.mono hB2.size)
  have kb3 := kb2.below hb3 kb2.lt
  clear hb2 hb3 kb1 kb2 hB1 hB2
  have o4 : w3.cell? ⟨w.heap.size, 4, none⟩ = some (.slice A n c) := kb3.cell 4
  cases hok : polOk T F M X xs with
  | false =>
    obtain ⟨t, u, rfl⟩ := hie
    simp only [Bool.false_eq_true, if_false]
    go_wp2_with fail
    go_ret
    exact ⟨rfl, hB3⟩
  | true =>
    simp only [if_true]
    by_cases h50 : 50 < n
    · go_wp2_with fail
      go_ret
      exact ⟨rfl, hB3⟩
    · have hnum : numsOk T F M X = true := by
        have : (numsOk T F M X && xs.all codeOk) = true := hok
        rw [Bool.and_eq_true] at this
        exact this.1
      obtain ⟨t1, t2, f1, f2, m1, m2, x1, x2⟩ := numsOk_bounds hnum
      obtain ⟨F, rfl⟩ : ∃ f : Nat, F = (f : Int) := ⟨F.toNat, by omega⟩
      obtain ⟨M, rfl⟩ : ∃ f : Nat, M = (f : Int) := ⟨M.toNat, by omega⟩
      obtain ⟨X, rfl⟩ : ∃ f : Nat, X = (f : Int) := ⟨X.toNat, by omega⟩
      obtain ⟨T, rfl⟩ : ∃ f : Nat, T = (f : Int) := ⟨T.toNat, by omega⟩
      clear hok hnum
      obtain ⟨j, hj63, hand⟩ : ∃ j : Nat, j ≤ 63 ∧ bits .and .i64 (max k 1) 63 = (j : Int) := by
        refine ⟨(max k 1).toNat &&& 63, Nat.and_le_right, ?_⟩
        have := i64_and_nat (max k 1).toNat 63 (by omega) (by omega)
        rw [show (((max k 1).toNat : Nat) : Int) = max k 1 by omega] at this
        exact this
      obtain ⟨mx, hmx, hmxe⟩ : ∃ mx : Int, draw ≤ mx ∧ max draw more = mx := ⟨max draw more, by omega, rfl⟩
      obtain ⟨kx, hkxe⟩ : ∃ kx : Int, max k 1 = kx := ⟨_, rfl⟩
      rw [hkxe] at hand
      have HX := Lib.hid hmxe
      have HY := Lib.hid hkxe
      have HND := Lib.hid hand
      clear hmxe hkxe hand
      have HM := fun W : World => Lib.hid (made_any T F M X A n c W)
      have HW := fun (i d : Int) (hi : i ≤ 9223372036854775807) (W : World) => Lib.hid (wait_any T F M X (.slice A n c) i d W (by omega) (by omega) (by omega) hi)
      have hP : PolW w T F M X (.slice A n c) w3 := ⟨kb3, hB3⟩
      clear kb3 hB3 o4
      obtain ⟨o0, o1, o2, o3, o4⟩ := hP.cells
      go_wp2_with fail
      refine (HM _).out.mono ?_
      rintro e w4 ⟨rfl, hb⟩
      replace hP := hP.below hb
      clear hb o0 o1 o2 o3 o4
      go_wp2_with fail
      refine (HW k draw (by omega) _).out.mono ?_
      rintro e w5 ⟨rfl, hb⟩
      replace hP := hP.below hb
      clear hb
      obtain ⟨o0, o1, o2, o3, o4⟩ := hP.cells
      go_wp2_with fail
      refine (HM _).out.mono ?_
      rintro e w6 ⟨rfl, hb⟩
      replace hP := hP.below hb
      clear hb o0 o1 o2 o3 o4
      go_wp2_with (refine wpList_max (o := ⟨some 41, _, _, _, _, _⟩) rfl (.tmp 39) (.tmp 40) _ _ rfl .i64 draw more rfl rfl ?_; rw [HX.out])
      refine (HW k mx (by omega) _).out.mono ?_
      rintro e w7 ⟨rfl, hb⟩
      replace hP := hP.below hb
      clear hb
      obtain ⟨o0, o1, o2, o3, o4⟩ := hP.cells
      go_wp2_with fail
      refine (HM _).out.mono ?_
      rintro e w8 ⟨rfl, hb⟩
      replace hP := hP.below hb
      clear hb o0 o1 o2 o3 o4
      go_wp2_with fail
      refine (HW k 1000 (by omega) _).out.mono ?_
      rintro e w9 ⟨rfl, hb⟩
      replace hP := hP.below hb
      clear hb
      obtain ⟨o0, o1, o2, o3, o4⟩ := hP.cells
      go_wp2_with fail
      refine (HM _).out.mono ?_
      rintro e w10 ⟨rfl, hb⟩
      replace hP := hP.below hb
      clear hb o0 o1 o2 o3 o4
      have hand := HND.out
      go_wp2_with (refine wpList_max (o := ⟨some 50, _, _, _, _, _⟩) rfl (.tmp 49) (.const (.int .i64 1)) _ _ rfl .i64 k 1 rfl rfl ?_; rw [HY.out])
      clear hand
      refine (HW ((j : Int) + 1) 1000 (by omega) _).out.mono ?_
      rintro e w11 ⟨rfl, hb⟩
      replace hP := hP.below hb
      clear hb
      obtain ⟨o0, o1, o2, o3, o4⟩ := hP.cells
      go_wp2_with fail
      refine (HM _).out.mono ?_
      rintro e w12 ⟨rfl, hb⟩
      replace hP := hP.below hb
      clear hb o0 o1 o2 o3 o4
      have hand := HND.out
      go_wp2_with (refine wpList_max (o := ⟨some 57, _, _, _, _, _⟩) rfl (.tmp 56) (.const (.int .i64 1)) _ _ rfl .i64 k 1 rfl rfl ?_; rw [HY.out])
      clear hand
      refine (HW ((j : Int) + 2) 1000 (by omega) _).out.mono ?_
      rintro e w13 ⟨rfl, hb⟩
      replace hP := hP.below hb
      clear hb
      have W1 := wait_mono F M X k draw mx hmx
      have W2 := wait_draw F M X k mx
      have W3 := wait_most F M X k
      have W4 : 10 ≤ X → waitN F M X ((j : Int) + 1) 1000 ≤ waitN F M X ((j : Int) + 2) 1000 := fun h => wait_rise F M X h j
      have W5 := wait_one F M X
      have W6 := wait_zero F M X k
      generalize waitN F M X k draw = a at *
      generalize waitN F M X k mx = b at *
      generalize waitN F M X k 1000 = e1 at *
      generalize waitN F M X ((j : Int) + 1) 1000 = e2 at *
      generalize waitN F M X ((j : Int) + 2) 1000 = e3 at *
      have H1 := HW 1 1000 (by omega)
      have H0 := HW k 0 (by omega)
      rw [W5] at H1
      rw [W6] at H0
      have hA1 : decide ((0 : Int) ≤ (a : Int)) = true := decide_eq_true (by omega)
      have hA2 : decide ((a : Int) ≤ (b : Int)) = true := decide_eq_true (by omega)
      have hA3 : decide ((b : Int) ≤ (e1 : Int)) = true := decide_eq_true (by omega)
      have hA4 : decide ((e1 : Int) ≤ (M : Int)) = true := decide_eq_true (by omega)
      have hN2 : decide (a ≤ b) = true := decide_eq_true (by omega)
      have hN3 : decide (b ≤ e1) = true := decide_eq_true (by omega)
      have hN4 : decide (e1 ≤ M) = true := decide_eq_true (by omega)
      have hP2 : a ≤ b := by omega
      have hP3 : b ≤ e1 := by omega
      have hP4 : e1 ≤ M := by omega
      have hmn : min (F : Int) (M : Int) = ((min F M : Nat) : Int) := by omega
      have HMN := Lib.hid hmn
      generalize min F M = mn at *
      clear W1 W2 W3 W5 W6 hmn
      go_wp2_with fail
      by_cases hX10 : (X : Int) < 10
      · have hA5 : decide ((X : Int) < 10) = true := decide_eq_true hX10
        have hN5 : decide (X < 10) = true := decide_eq_true (by omega)
        refine wp_region_in (PolW w T F M X (.slice A n c)) ⟨hP.1.drew, hP.2.drew⟩ (by kernel_rfl) (by kernel_rfl) ?_
        repeat (first
          | go_big_quiet_skip
          | (go_big_quiet_want; go_big_quiet_op; go_big_quiet_on)
          | (go_big_quiet_want; refine in_min _ _ _ _ rfl .i64 (F : Int) (M : Int) rfl rfl ?_; rw [HMN.out]; simp only [Act.put, List.setIfInBounds_toArray, List.set_cons_zero, List.set_cons_succ]; go_big_quiet_on)
          | (go_big_quiet_want; apply in_val; (· intro W hW; obtain ⟨o0, o1, o2, o3, o4⟩ := hW.cells; go_simp; first | done | rfl); simp only [Act.put, List.setIfInBounds_toArray, List.set_cons_zero, List.set_cons_succ]; go_big_quiet_on)
          | (go_big_quiet_want; apply in_q; (· intro W hW; go_simp; first | (go_at_call 11; with_reducible exact hW.call (HM W).out) | (go_at_call 12; first | (with_reducible exact hW.call (H1 W).out) | (with_reducible exact hW.call (H0 W).out))); simp only [Act.put, List.setIfInBounds_toArray, List.set_cons_zero, List.set_cons_succ]; go_big_quiet_on))
        refine wpQuiet_nil ?_
        intro wz hz
        go_wp2
        go_ret
        exact ⟨rfl, hz.2⟩
      · have hA5 : decide ((X : Int) < 10) = false := decide_eq_false hX10
        have hN5 : decide (X < 10) = false := decide_eq_false (by omega)
        have hE := W4 (by omega)
        have hA6 : decide ((e2 : Int) ≤ (e3 : Int)) = true := decide_eq_true (by omega)
        have hN6 : decide (e2 ≤ e3) = true := decide_eq_true (by omega)
        refine wp_region_in (PolW w T F M X (.slice A n c)) ⟨hP.1.drew, hP.2.drew⟩ (by kernel_rfl) (by kernel_rfl) ?_
        repeat (first
          | go_big_quiet_skip
          | (go_big_quiet_want; go_big_quiet_op; go_big_quiet_on)
          | (go_big_quiet_want; refine in_min _ _ _ _ rfl .i64 (F : Int) (M : Int) rfl rfl ?_; rw [HMN.out]; simp only [Act.put, List.setIfInBounds_toArray, List.set_cons_zero, List.set_cons_succ]; go_big_quiet_on)
          | (go_big_quiet_want; apply in_val; (· intro W hW; obtain ⟨o0, o1, o2, o3, o4⟩ := hW.cells; go_simp; first | done | rfl); simp only [Act.put, List.setIfInBounds_toArray, List.set_cons_zero, List.set_cons_succ]; go_big_quiet_on)
          | (go_big_quiet_want; apply in_q; (· intro W hW; go_simp; first | (go_at_call 11; with_reducible exact hW.call (HM W).out) | (go_at_call 12; first | (with_reducible exact hW.call (H1 W).out) | (with_reducible exact hW.call (H0 W).out))); simp only [Act.put, List.setIfInBounds_toArray, List.set_cons_zero, List.set_cons_succ]; go_big_quiet_on))
        refine wpQuiet_nil ?_
        intro wz hz
        go_wp2
        go_ret
        exact ⟨rfl, hz.2⟩
end Go.Proofs.YtnmcjdiihebagaaDoor.Pol
