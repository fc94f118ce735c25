/-
  The document's Huffman code: its letters, the bits of a symbol and the code of a symbol.
-/
import Derived.Test.YtflmgjidnclegaaDoorHuffDM
namespace Go.Proofs.YtflmgjidnclegaaDoor.Huff
open Go.RowKit
def lettersRL : List UInt8 := bitsL.map fun n => UInt8.ofNat (n + 92)
def lettersR : ByteArray := ⟨lettersRL.toArray⟩
theorem lettersR_len : lettersRL.length = 257 := by simp [lettersRL, bitsL_len]
theorem lettersR_size : lettersR.size = 257 := by
  show lettersRL.toArray.size = 257
  simp [lettersR_len]
theorem lettersR_check : ((List.range 257).all fun n => decide (((lettersRL.getD n 0).toNat : Nat) = bitsOf n + 92)) = true := by decide +kernel
theorem lettersR_at (n : Nat) (h : n < lettersR.size) : lettersR[n].toNat = bitsOf n + 92 := by
  have h' : n < 257 := by rw [← lettersR_size]; exact h
  have hl : n < lettersRL.length := by rw [lettersR_len]; exact h'
  have hm : n ∈ List.range 257 := List.mem_range.2 h'
  have hd := of_decide_eq_true (List.all_eq_true.1 lettersR_check n hm)
  have hg : lettersR[n] = lettersRL.getD n 0 := by
    show lettersRL.toArray[n]'hl = _
    rw [List.getElem_toArray, List.getD, List.getElem?_eq_getElem hl]
    rfl
  exact (congrArg UInt8.toNat hg).trans hd
set_option maxRecDepth 100000 in
set_option maxHeartbeats 400000 in
theorem lengths_any (w : World) : Calls Tryd.prog 104 #[] w fun e w' => e = .returned (.string lettersR) ∧ w = w' := by
  go_enter Tryd.func104, Tryd.ntmps104
  go_wp2
  go_ret
  exact ⟨congrArg (fun l => Ending.returned (Value.string ⟨l⟩)) (by decide +kernel), rfl⟩
theorem step_other {b s k : Nat} (acc : List Nat × Nat) (h : bitsOf s ≠ b ∨ s ≠ k) : (stepC b acc k).1.getD s 0 = acc.1.getD s 0 := by
  unfold stepC
  split
  · rename_i hk
    have hne : k ≠ s := by
      rintro rfl
      rcases h with h | h
      · exact h hk
      · exact h rfl
    simp [List.getD, List.getElem?_set_ne hne]
  · rfl
theorem inner_other {b s : Nat} (acc : List Nat × Nat) (h : bitsOf s ≠ b) : ∀ k, (innerC b acc k).1.getD s 0 = acc.1.getD s 0 := by
  intro k
  induction k with
  | zero => rfl
  | succ k ih => rw [inner_succ, step_other _ (Or.inl h), ih]
theorem inner_own {b s : Nat} (acc : List Nat × Nat) (h : bitsOf s = b) (hs : s < acc.1.length) : ∀ d, (innerC b acc (s + 1 + d)).1.getD s 0 = (innerC b acc s).2 := by
  intro d
  induction d with
  | zero =>
    rw [Nat.add_zero, inner_succ]
    unfold stepC
    rw [if_pos h]
    have hl : s < (innerC b acc s).1.length := by rw [inner_len]; exact hs
    simp [List.getD, List.getElem?_set_self hl]
  | succ d ih => rw [show s + 1 + (d + 1) = (s + 1 + d) + 1 by omega, inner_succ, step_other _ (Or.inr (by omega)), ih]
theorem outer_own {s b : Nat} (hs : s < 257) (hb : bitsOf s = b + 1) : ∀ d, (outerC (b + 1 + d)).1.getD s 0 = (innerC (b + 1) ((outerC b).1, (outerC b).2 * 2) s).2 := by
  intro d
  induction d with
  | zero =>
    have := inner_own ((outerC b).1, (outerC b).2 * 2) hb (by rw [show ((outerC b).1, (outerC b).2 * 2).1 = (outerC b).1 from rfl, outer_len]; exact hs) (256 - s)
    rw [show s + 1 + (256 - s) = 257 by omega] at this
    rw [Nat.add_zero, outer_succ]
    exact this
  | succ d ih => rw [show b + 1 + (d + 1) = (b + 1 + d) + 1 by omega, outer_succ, inner_other _ (by omega), ih]
theorem code_own {s b : Nat} (hs : s < 257) (hb : bitsOf s = b + 1) : (innerC (b + 1) ((outerC b).1, (outerC b).2 * 2) s).2 = codeOf s := by
  have h30 := (bits_ok hs).2.1
  have := outer_own hs hb (30 - (b + 1))
  rw [show b + 1 + (30 - (b + 1)) = 30 by omega, outer_codes] at this
  exact this.symm
theorem outer_four : (outerC 4).2 = 0 := by decide +kernel
/-- what the document's count is within round j + 1, before k -/
def refCnt (s j k : Nat) : Nat := (innerC (j + 1) ((outerC j).1, (outerC j).2 * 2) (if j + 1 = bitsOf s then min k s else k)).2
/-- what it is behind round j -/
def refVal (s j : Nat) : Nat := if j < bitsOf s then (outerC j).2 else codeOf s
theorem cnt_zero (s j : Nat) : refCnt s j 0 = (outerC j).2 * 2 := by
  unfold refCnt
  rw [show (if j + 1 = bitsOf s then min 0 s else 0) = 0 by split <;> simp]
  rfl
theorem cnt_le {s j k : Nat} (hs : s < 257) (hj : j < 30) (hk : k ≤ 257) : refCnt s j k ≤ 1073741824 := by
  unfold refCnt
  exact inner_le hj (by split <;> omega)
theorem cnt_yes {s j k : Nat} (h1 : bitsOf k = j + 1) (h2 : ¬ (j + 1 = bitsOf s ∧ s ≤ k)) : refCnt s j (k + 1) = refCnt s j k + 1 := by
  unfold refCnt
  have e : (if j + 1 = bitsOf s then min (k + 1) s else k + 1) = k + 1 ∧ (if j + 1 = bitsOf s then min k s else k) = k := by
    split <;> omega
  rw [e.1, e.2, inner_succ]
  unfold stepC
  rw [if_pos h1]
theorem cnt_no {s j k : Nat} (h : bitsOf k ≠ j + 1 ∨ (j + 1 = bitsOf s ∧ s ≤ k)) : refCnt s j (k + 1) = refCnt s j k := by
  unfold refCnt
  by_cases h2 : j + 1 = bitsOf s ∧ s ≤ k
  · rw [if_pos h2.1, if_pos h2.1, Nat.min_eq_right (by omega), Nat.min_eq_right h2.2]
  · have h1 : bitsOf k ≠ j + 1 := h.resolve_right h2
    have e : (if j + 1 = bitsOf s then min (k + 1) s else k + 1) = k + 1 ∧ (if j + 1 = bitsOf s then min k s else k) = k := by
      split <;> omega
    rw [e.1, e.2, inner_succ]
    unfold stepC
    rw [if_neg h1]
theorem cnt_end {s j : Nat} (hs : s < 257) (hj : j < bitsOf s) : refCnt s j 257 = refVal s (j + 1) := by
  unfold refCnt refVal
  by_cases h : j + 1 = bitsOf s
  · rw [if_pos h, if_neg (by omega), Nat.min_eq_right (by omega)]
    exact code_own hs h.symm
  · rw [if_neg h, if_pos (by omega)]
    rfl
end Go.Proofs.YtflmgjidnclegaaDoor.Huff
