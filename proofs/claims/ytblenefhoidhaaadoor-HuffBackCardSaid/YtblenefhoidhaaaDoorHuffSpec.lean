/-
  The Huffman code's table as plain numbers: how many bits each symbol has, and the codes handed out by rising numbers of bits.
-/
import Derived.Test.YtblenefhoidhaaaDoorRows
namespace Go.Proofs.YtblenefhoidhaaaDoor.Huff
/-- how many bits each symbol has -/
def bitsL : List Nat := [13, 23, 28, 28, 28, 28, 28, 28, 28, 24, 30, 28, 28, 30, 28, 28, 28, 28, 28, 28, 28, 28, 30, 28, 28, 28, 28, 28, 28, 28, 28, 28, 6, 10, 10, 12, 13, 6, 8, 11, 10, 10, 8, 11, 8, 6, 6, 6, 5, 5, 5, 6, 6, 6, 6, 6, 6, 6, 7, 8, 15, 6, 12, 10, 13, 6, 7, 7, 7, 7, 7, 7, 7, 7, 7, 7, 7, 7, 7, 7, 7, 7, 7, 7, 7, 7, 7, 7, 8, 7, 8, 13, 19, 13, 14, 6, 15, 5, 6, 5, 6, 5, 6, 6, 6, 5, 7, 7, 6, 6, 6, 5, 6, 7, 6, 5, 5, 6, 7, 7, 7, 7, 7, 15, 11, 14, 13, 28, 20, 22, 20, 20, 22, 22, 22, 23, 22, 23, 23, 23, 23, 23, 24, 23, 24, 24, 22, 23, 24, 23, 23, 23, 23, 21, 22, 23, 22, 23, 23, 24, 22, 21, 20, 22, 22, 23, 23, 21, 23, 22, 22, 24, 21, 22, 23, 23, 21, 21, 22, 21, 23, 22, 23, 23, 20, 22, 22, 22, 23, 22, 22, 23, 26, 26, 20, 19, 22, 23, 22, 25, 26, 26, 26, 27, 27, 26, 24, 25, 19, 21, 26, 27, 27, 26, 27, 24, 21, 21, 26, 26, 28, 27, 27, 27, 20, 24, 20, 21, 22, 21, 21, 23, 22, 22, 25, 25, 24, 24, 26, 23, 26, 27, 26, 26, 27, 27, 27, 27, 27, 28, 27, 27, 27, 27, 27, 26, 30]
def bitsOf (n : Nat) : Nat := bitsL.getD n 0
/-- one symbol of a round -/
def stepC (b : Nat) (acc : List Nat × Nat) (s : Nat) : List Nat × Nat := if bitsOf s = b then (acc.1.set s acc.2, acc.2 + 1) else acc
def innerC (b : Nat) (acc : List Nat × Nat) (k : Nat) : List Nat × Nat := (List.range k).foldl (stepC b) acc
/-- behind so many rounds -/
def outerC : Nat → List Nat × Nat
  | 0 => (List.replicate 257 0, 0)
  | j + 1 => match outerC j with
    | (l, n) => innerC (j + 1) (l, n * 2) 257
/-- the codes -/
def codeL : List Nat := [8184, 8388568, 268435426, 268435427, 268435428, 268435429, 268435430, 268435431, 268435432, 16777194, 1073741820, 268435433, 268435434, 1073741821, 268435435, 268435436, 268435437, 268435438, 268435439, 268435440, 268435441, 268435442, 1073741822, 268435443, 268435444, 268435445, 268435446, 268435447, 268435448, 268435449, 268435450, 268435451, 20, 1016, 1017, 4090, 8185, 21, 248, 2042, 1018, 1019, 249, 2043, 250, 22, 23, 24, 0, 1, 2, 25, 26, 27, 28, 29, 30, 31, 92, 251, 32764, 32, 4091, 1020, 8186, 33, 93, 94, 95, 96, 97, 98, 99, 100, 101, 102, 103, 104, 105, 106, 107, 108, 109, 110, 111, 112, 113, 114, 252, 115, 253, 8187, 524272, 8188, 16380, 34, 32765, 3, 35, 4, 36, 5, 37, 38, 39, 6, 116, 117, 40, 41, 42, 7, 43, 118, 44, 8, 9, 45, 119, 120, 121, 122, 123, 32766, 2044, 16381, 8189, 268435452, 1048550, 4194258, 1048551, 1048552, 4194259, 4194260, 4194261, 8388569, 4194262, 8388570, 8388571, 8388572, 8388573, 8388574, 16777195, 8388575, 16777196, 16777197, 4194263, 8388576, 16777198, 8388577, 8388578, 8388579, 8388580, 2097116, 4194264, 8388581, 4194265, 8388582, 8388583, 16777199, 4194266, 2097117, 1048553, 4194267, 4194268, 8388584, 8388585, 2097118, 8388586, 4194269, 4194270, 16777200, 2097119, 4194271, 8388587, 8388588, 2097120, 2097121, 4194272, 2097122, 8388589, 4194273, 8388590, 8388591, 1048554, 4194274, 4194275, 4194276, 8388592, 4194277, 4194278, 8388593, 67108832, 67108833, 1048555, 524273, 4194279, 8388594, 4194280, 33554412, 67108834, 67108835, 67108836, 134217694, 134217695, 67108837, 16777201, 33554413, 524274, 2097123, 67108838, 134217696, 134217697, 67108839, 134217698, 16777202, 2097124, 2097125, 67108840, 67108841, 268435453, 134217699, 134217700, 134217701, 1048556, 16777203, 1048557, 2097126, 4194281, 2097127, 2097128, 8388595, 4194282, 4194283, 33554414, 33554415, 16777204, 16777205, 67108842, 8388596, 67108843, 134217702, 67108844, 67108845, 134217703, 134217704, 134217705, 134217706, 134217707, 268435454, 134217708, 134217709, 134217710, 134217711, 134217712, 67108846, 1073741823]
def codeOf (n : Nat) : Nat := codeL.getD n 0
theorem bitsL_len : bitsL.length = 257 := by decide +kernel
theorem codeL_len : codeL.length = 257 := by decide +kernel
theorem outer_codes : outerC 30 = (codeL, 1073741824) := by decide +kernel
theorem outer_bound : ((List.range 31).all fun j => decide ((outerC j).2 ≤ 1073741824)) = true := by decide +kernel
theorem outer_le {j : Nat} (h : j ≤ 30) : (outerC j).2 ≤ 1073741824 := by
  have := List.all_eq_true.1 outer_bound j (by simp; omega)
  simpa using this
theorem inner_zero (b : Nat) (acc : List Nat × Nat) : innerC b acc 0 = acc := rfl
theorem inner_succ (b : Nat) (acc : List Nat × Nat) (k : Nat) : innerC b acc (k + 1) = stepC b (innerC b acc k) k := by
  simp [innerC, List.range_succ, List.foldl_append]
theorem step_mono (b : Nat) (acc : List Nat × Nat) (s : Nat) : acc.2 ≤ (stepC b acc s).2 := by
  unfold stepC; split <;> simp
theorem inner_mono (b : Nat) (acc : List Nat × Nat) (k : Nat) (d : Nat) : (innerC b acc k).2 ≤ (innerC b acc (k + d)).2 := by
  induction d with
  | zero => exact Nat.le_refl _
  | succ d ih => rw [← Nat.add_assoc, inner_succ]; exact Nat.le_trans ih (step_mono _ _ _)
theorem inner_len (b : Nat) (acc : List Nat × Nat) (k : Nat) : (innerC b acc k).1.length = acc.1.length := by
  induction k with
  | zero => rfl
  | succ k ih => rw [inner_succ]; unfold stepC; split <;> simp [ih]
theorem outer_succ (j : Nat) : outerC (j + 1) = innerC (j + 1) ((outerC j).1, (outerC j).2 * 2) 257 := rfl
theorem outer_len (j : Nat) : (outerC j).1.length = 257 := by
  induction j with
  | zero => exact List.length_replicate
  | succ j ih => rw [outer_succ, inner_len]; exact ih
theorem inner_le {j k : Nat} (hj : j < 30) (hk : k ≤ 257) : (innerC (j + 1) ((outerC j).1, (outerC j).2 * 2) k).2 ≤ 1073741824 := by
  have h := inner_mono (j + 1) ((outerC j).1, (outerC j).2 * 2) k (257 - k)
  rw [show k + (257 - k) = 257 by omega, ← outer_succ] at h
  exact Nat.le_trans h (outer_le (by omega))
theorem bits_check : ((List.range 257).all fun n => decide (5 ≤ bitsOf n ∧ bitsOf n ≤ 30 ∧ codeOf n < 2 ^ bitsOf n)) = true := by decide +kernel
theorem bits_ok {n : Nat} (h : n < 257) : 5 ≤ bitsOf n ∧ bitsOf n ≤ 30 ∧ codeOf n < 2 ^ bitsOf n := by
  have := List.all_eq_true.1 bits_check n (by simpa using h)
  simpa using this
theorem bits_ge {n : Nat} (h : 257 ≤ n) : bitsOf n = 0 := by
  unfold bitsOf
  rw [List.getD, List.getElem?_eq_none (by rw [bitsL_len]; exact h)]
  rfl
end Go.Proofs.YtblenefhoidhaaaDoor.Huff
