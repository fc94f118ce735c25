/-
  The policy's plain functions: within, made, Wait, the throttle's.
-/
import Derived.Test.YtnmcjdiihebagaaDoorKit
import Derived.Test.YtnmcjdiihebagaaDoorRows
namespace Go.Proofs.YtnmcjdiihebagaaDoor.Pol
open Go.RowKit
theorem within_any (n a b : Int) (w : World) :
    Calls Tryd.prog 32 #[.int .i64 n, .int .i64 a, .int .i64 b] w fun e w' => e = .returned (.bool (decide (a ≤ n ∧ n ≤ b))) ∧ w = w' := by
  by_cases h1 : a ≤ n
  · by_cases h2 : n ≤ b
    · rw [decide_eq_true ⟨h1, h2⟩]
      go_enter Tryd.func32, Tryd.ntmps32
      go_wp2
      go_ret
      exact ⟨rfl, rfl⟩
    · rw [decide_eq_false (fun h => h2 h.2)]
      go_enter Tryd.func32, Tryd.ntmps32
      go_wp2
      go_ret
      exact ⟨rfl, rfl⟩
  · rw [decide_eq_false (fun h => h1 h.1)]
    go_enter Tryd.func32, Tryd.ntmps32
    go_wp2
    go_ret
    exact ⟨rfl, rfl⟩
/-! ### Wait -/
/-- the wait behind so many rounds -/
def msAt (M X F : Nat) : Nat → Nat
  | 0 => F
  | k + 1 => if msAt M X F k < M then msAt M X F k * X / 10 else msAt M X F k
theorem ms_le (M X F : Nat) (hF : F ≤ 1000000) (hM : M ≤ 1000000) (hX : X ≤ 100) : ∀ k, msAt M X F k ≤ 10000000 := by
  intro k
  induction k with
  | zero => show F ≤ _; omega
  | succ k ih =>
    show (if msAt M X F k < M then msAt M X F k * X / 10 else msAt M X F k) ≤ _
    split
    · rename_i h
      have h1 : msAt M X F k * X ≤ 1000000 * 100 := Nat.mul_le_mul (by omega) hX
      omega
    · exact ih
theorem ms_stop (M X F k : Nat) (h : M ≤ msAt M X F k ∨ msAt M X F k * X / 10 = msAt M X F k) : ∀ d, msAt M X F (k + d) = msAt M X F k := by
  intro d
  induction d with
  | zero => rfl
  | succ d ih =>
    show (if msAt M X F (k + d) < M then msAt M X F (k + d) * X / 10 else msAt M X F (k + d)) = _
    rw [ih]
    split
    · rcases h with h | h
      · omega
      · exact h
    · rfl
/-- what Wait answers -/
def waitN (F M X : Nat) (n d : Int) : Nat := min (msAt M X F (n - 1).toNat) M * (max 0 (min d 1000)).toNat / 1000
theorem fin_wrap (R : Nat) (h : R ≤ 1000000000) : wrap64 ((wrap64 (R : Int)).tdiv 1000) = ((R / 1000 : Nat) : Int) := by
  have e : wrap64 (R : Int) = (R : Int) := by unfold wrap64; omega
  rw [e, Int.tdiv_eq_ediv_of_nonneg (by omega)]
  unfold wrap64
  omega
theorem fin_same (ms M cl R : Nat) (e : ms = M) (hR : (M : Int) * (cl : Int) = (R : Int)) (h : R ≤ 1000000000) : ((R / 1000 : Nat) : Int) = wrap64 ((wrap64 ((ms : Int) * (cl : Int))).tdiv 1000) := by
  rw [e, hR]; exact (fin_wrap R h).symm
set_option maxRecDepth 100000 in
set_option maxHeartbeats 1000000 in
theorem wait_any (T F M X : Nat) (cs : Value) (n d : Int) (w : World) (hF : F ≤ 1000000) (hM : M ≤ 1000000) (hX : X ≤ 100) (hn : n ≤ 9223372036854775807) :
    Calls Tryd.prog 12 #[.agg #[.int .i64 (T : Int), .int .i64 (F : Int), .int .i64 (M : Int), .int .i64 (X : Int), cs], .int .i64 n, .int .i64 d] w fun e w' => e = .returned (.int .i64 (waitN F M X n d : Nat)) ∧ Below w.heap.size w w' := by
  have hle := ms_le M X F hF hM hX
  go_enter Tryd.func12, Tryd.ntmps12
  go_wp2
  have hbl : Below w.heap.size w (w.alloc (.cells #[.int .i64 (T : Int), .int .i64 (F : Int), .int .i64 (M : Int), .int .i64 (X : Int), cs] 29)) := (Below.refl _ _).alloc (Nat.le_refl _) _
  have hk : Blk (w.alloc (.cells #[.int .i64 (T : Int), .int .i64 (F : Int), .int .i64 (M : Int), .int .i64 (X : Int), cs] 29)) w.heap.size 29 #[.int .i64 (T : Int), .int .i64 (F : Int), .int .i64 (M : Int), .int .i64 (X : Int), cs] := Blk.new _ _ _
  have hc2 := hk.cell 2
  have hc3 := hk.cell 3
  clear hk
  generalize w.alloc (.cells #[.int .i64 (T : Int), .int .i64 (F : Int), .int .i64 (M : Int), .int .i64 (X : Int), cs] 29) = w1 at *
  obtain ⟨cl, hcl⟩ : ∃ cl : Nat, max 0 (min d 1000) = (cl : Int) := ⟨(max 0 (min d 1000)).toNat, by omega⟩
  have hcl2 : cl ≤ 1000 := by omega
  have hdc : (d ≤ 0 ∧ cl = 0) ∨ (0 < d ∧ d = (cl : Int)) ∨ (1000 < d ∧ cl = 1000) := by omega
  have hdc : (d ≤ 0 ∧ cl = 0) ∨ (0 < d ∧ d = (cl : Int)) ∨ (1000 < d ∧ cl = 1000) := by omega
  have hdc : (d ≤ 0 ∧ cl = 0) ∨ (0 < d ∧ d = (cl : Int)) ∨ (1000 < d ∧ cl = 1000) := by omega
  have hw : ∀ k : Nat, msAt M X F (n - 1).toNat = msAt M X F k → waitN F M X n d = min (msAt M X F k) M * cl / 1000 := by
    intro k h
    unfold waitN
    rw [h, show (max 0 (min d 1000)).toNat = cl by omega]
  have Hw := Lib.hid hw
  clear hw hcl
  go_loop [1, 7] (fun i m => ∃ k : Nat, i = .int .i64 (n - (k : Int)) ∧ (k = 0 ∨ (k : Int) ≤ n - 1) ∧ m = .int .i64 (msAt M X F k : Nat)) (fun i _ => (intOf i).toNat)
  case atStart => exact ⟨0, by simp, Or.inl rfl, rfl⟩
  case round =>
    obtain ⟨k, rfl, hkn, rfl⟩ := hrel
    have hm7 := hle k
    have hstop := ms_stop M X F k
    have hsucc : msAt M X F (k + 1) = if msAt M X F k < M then msAt M X F k * X / 10 else msAt M X F k := rfl
    have Hst := Lib.hid hstop
    have Hsu := Lib.hid hsucc
    have Hwk := Lib.hid (Hw.out k)
    clear hstop hsucc
    generalize hms : msAt M X F k = ms at *
    obtain ⟨p, hp⟩ : ∃ p, p = ms * X := ⟨_, rfl⟩
    have hp1 : p ≤ 1000000000 := by rw [hp]; exact Nat.le_trans (Nat.mul_le_mul hm7 hX) (by decide)
    have hpi : (ms : Int) * (X : Int) = (p : Int) := by rw [hp]; simp
    have HP := Lib.hid hp
    have HM := Lib.hid hms
    clear hp hms
    by_cases h1 : 1 < n - (k : Int)
    · by_cases h2 : ms < M
      · by_cases h3 : p / 10 = ms
        · have hf := Hwk.out (by
              have e : (n - 1).toNat = k + ((n - 1).toNat - k) := by omega
              rw [e]; exact Hst.out (Or.inr (by rw [← HP.out]; exact h3)) _)
          have hmn : min ms M = ms := by omega
          rw [hmn] at hf
          have HF := Lib.hid hf
          have hmle : ms ≤ 1000000 := by omega
          clear hf hmn
          rcases hdc with ⟨hd, hcz⟩ | ⟨hd1, rfl⟩ | ⟨hd, hcz⟩
          · go_wp2
            all_goals
              go_ret
              exact ⟨ret_int (by rw [HF.out, hcz, Nat.mul_zero]; decide), hbl⟩
          · obtain ⟨R, hR⟩ : ∃ R, R = ms * cl := ⟨_, rfl⟩
            have hR1 : R ≤ 1000000000 := by rw [hR]; exact Nat.le_trans (Nat.mul_le_mul hmle hcl2) (by decide)
            have hRi : (ms : Int) * (cl : Int) = (R : Int) := by rw [hR]; simp
            have HR := Lib.hid hR
            clear hR
            go_wp2
            all_goals
              go_ret
              exact ⟨ret_int (by rw [HF.out, ← HR.out]; first | omega | exact (fin_wrap R hR1).symm | exact fin_same ms M cl R (by omega) hRi hR1), hbl⟩
          · go_wp2
            all_goals
              go_ret
              exact ⟨ret_int (by rw [HF.out, hcz]; omega), hbl⟩
        · have hne : ((p : Int) / 10 == (ms : Int)) = false := by rw [beq_eq_false_iff_ne]; omega
          go_wp2
          go_round
          case rel => exact ⟨k + 1, by congr 1; omega, Or.inr (by omega), by rw [Hsu.out, if_pos h2, ← HP.out]; go_num⟩
          case measure => simp [intOf]; omega
      · have hf := Hwk.out (by
            have e : (n - 1).toNat = k + ((n - 1).toNat - k) := by omega
            rw [e]; exact Hst.out (Or.inl (by omega)) _)
        have hmn : min ms M = M := by omega
        rw [hmn] at hf
        have HF := Lib.hid hf
        have hmle : M ≤ 1000000 := by omega
        clear hf hmn
        rcases hdc with ⟨hd, hcz⟩ | ⟨hd1, rfl⟩ | ⟨hd, hcz⟩
        · go_wp2
          all_goals
            go_ret
            exact ⟨ret_int (by rw [HF.out, hcz, Nat.mul_zero]; decide), hbl⟩
        · obtain ⟨R, hR⟩ : ∃ R, R = M * cl := ⟨_, rfl⟩
          have hR1 : R ≤ 1000000000 := by rw [hR]; exact Nat.le_trans (Nat.mul_le_mul hmle hcl2) (by decide)
          have hRi : (M : Int) * (cl : Int) = (R : Int) := by rw [hR]; simp
          have HR := Lib.hid hR
          clear hR
          go_wp2
          all_goals
            go_ret
            exact ⟨ret_int (by rw [HF.out, ← HR.out]; first | omega | exact (fin_wrap R hR1).symm | exact fin_same ms M cl R (by omega) hRi hR1), hbl⟩
        · go_wp2
          all_goals
            go_ret
            exact ⟨ret_int (by rw [HF.out, hcz]; omega), hbl⟩
    · by_cases h2 : ms < M
      · have hf := Hwk.out (by rw [show (n - 1).toNat = k by omega]; exact HM.out)
        have hmn : min ms M = ms := by omega
        rw [hmn] at hf
        have HF := Lib.hid hf
        have hmle : ms ≤ 1000000 := by omega
        clear hf hmn
        rcases hdc with ⟨hd, hcz⟩ | ⟨hd1, rfl⟩ | ⟨hd, hcz⟩
        · go_wp2
          all_goals
            go_ret
            exact ⟨ret_int (by rw [HF.out, hcz, Nat.mul_zero]; decide), hbl⟩
        · obtain ⟨R, hR⟩ : ∃ R, R = ms * cl := ⟨_, rfl⟩
          have hR1 : R ≤ 1000000000 := by rw [hR]; exact Nat.le_trans (Nat.mul_le_mul hmle hcl2) (by decide)
          have hRi : (ms : Int) * (cl : Int) = (R : Int) := by rw [hR]; simp
          have HR := Lib.hid hR
          clear hR
          go_wp2
          all_goals
            go_ret
            exact ⟨ret_int (by rw [HF.out, ← HR.out]; first | omega | exact (fin_wrap R hR1).symm | exact fin_same ms M cl R (by omega) hRi hR1), hbl⟩
        · go_wp2
          all_goals
            go_ret
            exact ⟨ret_int (by rw [HF.out, hcz]; omega), hbl⟩
      · have hf := Hwk.out (by rw [show (n - 1).toNat = k by omega]; exact HM.out)
        have hmn : min ms M = M := by omega
        rw [hmn] at hf
        have HF := Lib.hid hf
        have hmle : M ≤ 1000000 := by omega
        clear hf hmn
        rcases hdc with ⟨hd, hcz⟩ | ⟨hd1, rfl⟩ | ⟨hd, hcz⟩
        · go_wp2
          all_goals
            go_ret
            exact ⟨ret_int (by rw [HF.out, hcz, Nat.mul_zero]; decide), hbl⟩
        · obtain ⟨R, hR⟩ : ∃ R, R = M * cl := ⟨_, rfl⟩
          have hR1 : R ≤ 1000000000 := by rw [hR]; exact Nat.le_trans (Nat.mul_le_mul hmle hcl2) (by decide)
          have hRi : (M : Int) * (cl : Int) = (R : Int) := by rw [hR]; simp
          have HR := Lib.hid hR
          clear hR
          go_wp2
          all_goals
            go_ret
            exact ⟨ret_int (by rw [HF.out, ← HR.out]; first | omega | exact (fin_wrap R hR1).symm | exact fin_same ms M cl R (by omega) hRi hR1), hbl⟩
        · go_wp2
          all_goals
            go_ret
            exact ⟨ret_int (by rw [HF.out, hcz]; omega), hbl⟩
end Go.Proofs.YtnmcjdiihebagaaDoor.Pol
