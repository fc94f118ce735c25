/-
  No code begins another one's; the codes leave no room: plain numbers.
-/
import Derived.Test.YtblenefhoidhaaaDoorHuffSpec
namespace Go.Proofs.YtblenefhoidhaaaDoor.Huff
/-- the symbols by rising codes, and each symbol's place among them -/
def permL : List Nat := [48, 49, 50, 97, 99, 101, 105, 111, 115, 116, 32, 37, 45, 46, 47, 51, 52, 53, 54, 55, 56, 57, 61, 65, 95, 98, 100, 102, 103, 104, 108, 109, 110, 112, 114, 117, 58, 66, 67, 68, 69, 70, 71, 72, 73, 74, 75, 76, 77, 78, 79, 80, 81, 82, 83, 84, 85, 86, 87, 89, 106, 107, 113, 118, 119, 120, 121, 122, 38, 42, 44, 59, 88, 90, 33, 34, 40, 41, 63, 39, 43, 124, 35, 62, 0, 36, 64, 91, 93, 126, 94, 125, 60, 96, 123, 92, 195, 208, 128, 130, 131, 162, 184, 194, 224, 226, 153, 161, 167, 172, 176, 177, 179, 209, 216, 217, 227, 229, 230, 129, 132, 133, 134, 136, 146, 154, 156, 160, 163, 164, 169, 170, 173, 178, 181, 185, 186, 187, 189, 190, 196, 198, 228, 232, 233, 1, 135, 137, 138, 139, 140, 141, 143, 147, 149, 150, 151, 152, 155, 157, 158, 165, 166, 168, 174, 175, 180, 182, 183, 188, 191, 197, 231, 239, 9, 142, 144, 145, 148, 159, 171, 206, 215, 225, 236, 237, 199, 207, 234, 235, 192, 193, 200, 201, 202, 205, 210, 213, 218, 219, 238, 240, 242, 243, 255, 203, 204, 211, 212, 214, 221, 222, 223, 241, 244, 245, 246, 247, 248, 250, 251, 252, 253, 254, 2, 3, 4, 5, 6, 7, 8, 11, 12, 14, 15, 16, 17, 18, 19, 20, 21, 23, 24, 25, 26, 27, 28, 29, 30, 31, 127, 220, 249, 10, 13, 22, 256]
def placeL : List Nat := [84, 145, 224, 225, 226, 227, 228, 229, 230, 174, 253, 231, 232, 254, 233, 234, 235, 236, 237, 238, 239, 240, 255, 241, 242, 243, 244, 245, 246, 247, 248, 249, 10, 74, 75, 82, 85, 11, 68, 79, 76, 77, 69, 80, 70, 12, 13, 14, 0, 1, 2, 15, 16, 17, 18, 19, 20, 21, 36, 71, 92, 22, 83, 78, 86, 23, 37, 38, 39, 40, 41, 42, 43, 44, 45, 46, 47, 48, 49, 50, 51, 52, 53, 54, 55, 56, 57, 58, 72, 59, 73, 87, 95, 88, 90, 24, 93, 3, 25, 4, 26, 5, 27, 28, 29, 6, 60, 61, 30, 31, 32, 7, 33, 62, 34, 8, 9, 35, 63, 64, 65, 66, 67, 94, 81, 91, 89, 250, 98, 119, 99, 100, 120, 121, 122, 146, 123, 147, 148, 149, 150, 151, 175, 152, 176, 177, 124, 153, 178, 154, 155, 156, 157, 106, 125, 158, 126, 159, 160, 179, 127, 107, 101, 128, 129, 161, 162, 108, 163, 130, 131, 180, 109, 132, 164, 165, 110, 111, 133, 112, 166, 134, 167, 168, 102, 135, 136, 137, 169, 138, 139, 170, 190, 191, 103, 96, 140, 171, 141, 186, 192, 193, 194, 205, 206, 195, 181, 187, 97, 113, 196, 207, 208, 197, 209, 182, 114, 115, 198, 199, 251, 210, 211, 212, 104, 183, 105, 116, 142, 117, 118, 172, 143, 144, 188, 189, 184, 185, 200, 173, 201, 213, 202, 203, 214, 215, 216, 217, 218, 252, 219, 220, 221, 222, 223, 204, 256]
def permOf (i : Nat) : Nat := permL.getD i 0
def placeOf (n : Nat) : Nat := placeL.getD n 0
/-- where a code's room begins, and how much it is, of 2^30 -/
def startOf (n : Nat) : Nat := codeOf n * 2 ^ (30 - bitsOf n)
def roomOf (n : Nat) : Nat := 2 ^ (30 - bitsOf n)
theorem perm_check : ((List.range 256).all fun i => decide (startOf (permOf (i + 1)) = startOf (permOf i) + roomOf (permOf i))) = true := by decide +kernel
theorem place_check : ((List.range 257).all fun n => decide (permOf (placeOf n) = n ∧ placeOf n < 257)) = true := by decide +kernel
theorem perm_succ {i : Nat} (h : i < 256) : startOf (permOf (i + 1)) = startOf (permOf i) + roomOf (permOf i) := by
  exact of_decide_eq_true (List.all_eq_true.1 perm_check i (List.mem_range.2 h))
theorem place_ok {n : Nat} (h : n < 257) : permOf (placeOf n) = n ∧ placeOf n < 257 := of_decide_eq_true (List.all_eq_true.1 place_check n (List.mem_range.2 h))
theorem start_mono (i d : Nat) (h : i + d < 256) : startOf (permOf i) + roomOf (permOf i) ≤ startOf (permOf (i + d + 1)) := by
  induction d with
  | zero => rw [Nat.add_zero, perm_succ (by omega)]; exact Nat.le_refl _
  | succ d ih =>
    have := ih (by omega)
    rw [← Nat.add_assoc, perm_succ (by omega : i + d + 1 < 256)]
    omega
theorem start_apart {a b : Nat} (ha : a < 257) (hb : b < 257) (hne : a ≠ b) : startOf a + roomOf a ≤ startOf b ∨ startOf b + roomOf b ≤ startOf a := by
  obtain ⟨ea, la⟩ := place_ok ha
  obtain ⟨eb, lb⟩ := place_ok hb
  have hp : placeOf a ≠ placeOf b := fun e => hne (by rw [← ea, ← eb, e])
  rcases Nat.lt_or_gt_of_ne hp with h | h
  · left
    have := start_mono (placeOf a) (placeOf b - placeOf a - 1) (by omega)
    rw [show placeOf a + (placeOf b - placeOf a - 1) + 1 = placeOf b by omega, ea, eb] at this
    exact this
  · right
    have := start_mono (placeOf b) (placeOf a - placeOf b - 1) (by omega)
    rw [show placeOf b + (placeOf a - placeOf b - 1) + 1 = placeOf a by omega, ea, eb] at this
    exact this
/-- no code begins another one's -/
theorem apart {a b : Nat} (ha : a < 257) (hb : b < 257) (hne : a ≠ b) (hn : bitsOf a ≤ bitsOf b) : codeOf b / 2 ^ (bitsOf b - bitsOf a) ≠ codeOf a := by
  intro e
  obtain ⟨_, a30, _⟩ := bits_ok ha
  obtain ⟨_, b30, _⟩ := bits_ok hb
  have hd := Nat.div_add_mod (codeOf b) (2 ^ (bitsOf b - bitsOf a))
  have hm : codeOf b % 2 ^ (bitsOf b - bitsOf a) < 2 ^ (bitsOf b - bitsOf a) := Nat.mod_lt _ (Nat.two_pow_pos _)
  rw [e] at hd
  have e1 : 2 ^ (30 - bitsOf a) = 2 ^ (bitsOf b - bitsOf a) * 2 ^ (30 - bitsOf b) := by rw [← Nat.pow_add]; congr 1; omega
  have hlow : startOf a ≤ startOf b := by
    unfold startOf
    rw [e1, ← Nat.mul_assoc]
    refine Nat.mul_le_mul_right _ ?_
    rw [← hd, Nat.mul_comm]
    exact Nat.le_add_right _ _
  have hup : startOf b < startOf a + roomOf a := by
    unfold startOf roomOf
    rw [e1, ← Nat.mul_assoc, ← Nat.add_mul]
    refine Nat.mul_lt_mul_of_pos_right ?_ (Nat.two_pow_pos _)
    rw [← hd, Nat.mul_comm (2 ^ (bitsOf b - bitsOf a))]
    omega
  rcases start_apart ha hb hne with h | h
  · omega
  · have : 0 < roomOf b := Nat.two_pow_pos _
    omega
theorem distinct {a b : Nat} (ha : a < 257) (hb : b < 257) (hn : bitsOf a = bitsOf b) (hc : codeOf a = codeOf b) : a = b := by
  by_cases hne : a = b
  · exact hne
  · exact absurd (by rw [hn, Nat.sub_self, Nat.pow_zero, Nat.div_one, hc]) (apart ha hb hne (by omega))
/-- the rooms make up all -/
theorem room_sum : (((List.range 257).map roomOf).sum) = 1073741824 := by decide +kernel
end Go.Proofs.YtblenefhoidhaaaDoor.Huff
