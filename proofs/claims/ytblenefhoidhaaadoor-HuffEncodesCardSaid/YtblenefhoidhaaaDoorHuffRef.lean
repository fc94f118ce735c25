/-
  The document's Huffman code: its letters, the bits of a symbol and the code of a symbol.
-/
import Derived.Test.YtblenefhoidhaaaDoorHuffFirst
namespace Go.Proofs.YtblenefhoidhaaaDoor.Huff
open Go.RowKit
def lettersRL : List UInt8 := bitsL.map fun n => UInt8.ofNat (n + 92)
def lettersR : ByteArray := ⟨lettersRL.toArray⟩
theorem lettersR_len : lettersRL.length = 257 := by simp [lettersRL, bitsL_len]
theorem lettersR_size : lettersR.size = 257 := by
  show lettersRL.toArray.size = 257
  simp [lettersR_len]
theorem lettersR_check : ((List.range 257).all fun n => decide (((lettersRL.getD n 0).toNat : Nat) = bitsOf n + 92)) = true := by decide +kernel
theorem lettersR_at (n : Nat) (h : n < lettersR.size) : lettersR[n].toNat = bitsOf n + 92 := by
  have h' : n < 257 := by rw [← lettersR_size]; exact h
  have hl : n < lettersRL.length := by rw [lettersR_len]; exact h'
  have hm : n ∈ List.range 257 := List.mem_range.2 h'
  have hd := of_decide_eq_true (List.all_eq_true.1 lettersR_check n hm)
  have hg : lettersR[n] = lettersRL.getD n 0 := by
    show lettersRL.toArray[n]'hl = _
    rw [List.getElem_toArray, List.getD, List.getElem?_eq_getElem hl]
    rfl
  exact (congrArg UInt8.toNat hg).trans hd
set_option maxRecDepth 100000 in
set_option maxHeartbeats 400000 in
theorem lengths_any (w : World) : Calls Tryd.prog 21 #[] w fun e w' => e = .returned (.string lettersR) ∧ w = w' := by
  go_enter Tryd.func21, Tryd.ntmps21
  go_wp2
  go_ret
  exact ⟨congrArg (fun l => Ending.returned (Value.string ⟨l⟩)) (by decide +kernel), rfl⟩
set_option maxHeartbeats 400000 in
theorem rbits_yes (n : Nat) (w : World) (h : n < 257) :
    Calls Tryd.prog 11 #[.int .i64 n] w fun e w' => e = .returned (.int .i64 (bitsOf n)) ∧ w = w' := by
  have hs : n < lettersR.size := by rw [lettersR_size]; exact h
  have hat := lettersR_at n hs
  have hb := bits_ok h
  have HS := Lib.hid (lengths_any w)
  generalize lettersR = S at *
  have hc0 : 97 ≤ (S[n].toNat : Int) := by omega
  have hc1 : (S[n].toNat : Int) ≤ 122 := by omega
  have Hat := Lib.hid hat
  clear hat hb
  go_enter Tryd.func11, Tryd.ntmps11
  go_wp2_with (go_at_call 21; refine HS.out.mono ?_; rintro e w' ⟨rfl, rfl⟩)
  go_ret
  have e : (S[n].toNat : Int) - 97 + 5 = (bitsOf n : Int) := by have := Hat.out; omega
  exact ⟨congrArg (fun x => Ending.returned (.int .i64 x)) e, rfl⟩
set_option maxHeartbeats 400000 in
theorem rbits_no (n : Int) (w : World) (h : n < 0 ∨ 257 ≤ n) :
    Calls Tryd.prog 11 #[.int .i64 n] w fun e w' => e = .returned (.int .i64 0) ∧ w = w' := by
  rcases h with h | h
  · go_enter Tryd.func11, Tryd.ntmps11
    go_wp2
    go_ret
    exact ⟨rfl, rfl⟩
  · have h2 : 0 ≤ n := by omega
    go_enter Tryd.func11, Tryd.ntmps11
    go_wp2
    go_ret
    exact ⟨rfl, rfl⟩
set_option maxHeartbeats 400000 in
theorem rcode_no (n : Int) (w : World) (h : n < 0 ∨ 257 ≤ n) :
    Calls Tryd.prog 12 #[.int .i64 n] w fun e w' => e = .returned (.tuple #[.int .u32 0, .bool false]) ∧ w = w' := by
  go_enter Tryd.func12, Tryd.ntmps12
  go_wp2_with (go_at_call 11; refine (rbits_no n _ h).mono ?_; rintro e w' ⟨rfl, rfl⟩)
  go_ret2
  exact ⟨rfl, rfl⟩
/-! ### The code that a symbol's own round hands out -/
theorem step_other {b s k : Nat} (acc : List Nat × Nat) (h : bitsOf s ≠ b ∨ s ≠ k) : (stepC b acc k).1.getD s 0 = acc.1.getD s 0 := by
  unfold stepC
  split
  · rename_i hk
    have hne : k ≠ s := by
      rintro rfl
      rcases h with h | h
      · exact h hk
      · exact h rfl
    simp [List.getD, List.getElem?_set_ne hne]
  · rfl
theorem inner_other {b s : Nat} (acc : List Nat × Nat) (h : bitsOf s ≠ b) : ∀ k, (innerC b acc k).1.getD s 0 = acc.1.getD s 0 := by
  intro k
  induction k with
  | zero => rfl
  | succ k ih => rw [inner_succ, step_other _ (Or.inl h), ih]
theorem inner_own {b s : Nat} (acc : List Nat × Nat) (h : bitsOf s = b) (hs : s < acc.1.length) : ∀ d, (innerC b acc (s + 1 + d)).1.getD s 0 = (innerC b acc s).2 := by
  intro d
  induction d with
  | zero =>
    rw [Nat.add_zero, inner_succ]
    unfold stepC
    rw [if_pos h]
    have hl : s < (innerC b acc s).1.length := by rw [inner_len]; exact hs
    simp [List.getD, List.getElem?_set_self hl]
  | succ d ih => rw [show s + 1 + (d + 1) = (s + 1 + d) + 1 by omega, inner_succ, step_other _ (Or.inr (by omega)), ih]
theorem outer_own {s b : Nat} (hs : s < 257) (hb : bitsOf s = b + 1) : ∀ d, (outerC (b + 1 + d)).1.getD s 0 = (innerC (b + 1) ((outerC b).1, (outerC b).2 * 2) s).2 := by
  intro d
  induction d with
  | zero =>
    have := inner_own ((outerC b).1, (outerC b).2 * 2) hb (by rw [show ((outerC b).1, (outerC b).2 * 2).1 = (outerC b).1 from rfl, outer_len]; exact hs) (256 - s)
    rw [show s + 1 + (256 - s) = 257 by omega] at this
    rw [Nat.add_zero, outer_succ]
    exact this
  | succ d ih => rw [show b + 1 + (d + 1) = (b + 1 + d) + 1 by omega, outer_succ, inner_other _ (by omega), ih]
theorem code_own {s b : Nat} (hs : s < 257) (hb : bitsOf s = b + 1) : (innerC (b + 1) ((outerC b).1, (outerC b).2 * 2) s).2 = codeOf s := by
  have h30 := (bits_ok hs).2.1
  have := outer_own hs hb (30 - (b + 1))
  rw [show b + 1 + (30 - (b + 1)) = 30 by omega, outer_codes] at this
  exact this.symm
theorem outer_four : (outerC 4).2 = 0 := by decide +kernel
/-- what the document's count is within round j + 1, before k -/
def refCnt (s j k : Nat) : Nat := (innerC (j + 1) ((outerC j).1, (outerC j).2 * 2) (if j + 1 = bitsOf s then min k s else k)).2
/-- what it is behind round j -/
def refVal (s j : Nat) : Nat := if j < bitsOf s then (outerC j).2 else codeOf s
theorem cnt_zero (s j : Nat) : refCnt s j 0 = (outerC j).2 * 2 := by
  unfold refCnt
  rw [show (if j + 1 = bitsOf s then min 0 s else 0) = 0 by split <;> simp]
  rfl
theorem cnt_le {s j k : Nat} (hs : s < 257) (hj : j < 30) (hk : k ≤ 257) : refCnt s j k ≤ 1073741824 := by
  unfold refCnt
  exact inner_le hj (by split <;> omega)
theorem cnt_yes {s j k : Nat} (h1 : bitsOf k = j + 1) (h2 : ¬ (j + 1 = bitsOf s ∧ s ≤ k)) : refCnt s j (k + 1) = refCnt s j k + 1 := by
  unfold refCnt
  have e : (if j + 1 = bitsOf s then min (k + 1) s else k + 1) = k + 1 ∧ (if j + 1 = bitsOf s then min k s else k) = k := by
    split <;> omega
  rw [e.1, e.2, inner_succ]
  unfold stepC
  rw [if_pos h1]
theorem cnt_no {s j k : Nat} (h : bitsOf k ≠ j + 1 ∨ (j + 1 = bitsOf s ∧ s ≤ k)) : refCnt s j (k + 1) = refCnt s j k := by
  unfold refCnt
  by_cases h2 : j + 1 = bitsOf s ∧ s ≤ k
  · rw [if_pos h2.1, if_pos h2.1, Nat.min_eq_right (by omega), Nat.min_eq_right h2.2]
  · have h1 : bitsOf k ≠ j + 1 := h.resolve_right h2
    have e : (if j + 1 = bitsOf s then min (k + 1) s else k + 1) = k + 1 ∧ (if j + 1 = bitsOf s then min k s else k) = k := by
      split <;> omega
    rw [e.1, e.2, inner_succ]
    unfold stepC
    rw [if_neg h1]
theorem cnt_end {s j : Nat} (hs : s < 257) (hj : j < bitsOf s) : refCnt s j 257 = refVal s (j + 1) := by
  unfold refCnt refVal
  by_cases h : j + 1 = bitsOf s
  · rw [if_pos h, if_neg (by omega), Nat.min_eq_right (by omega)]
    exact code_own hs h.symm
  · rw [if_neg h, if_pos (by omega)]
    rfl
set_option maxRecDepth 100000 in
set_option maxHeartbeats 1000000 in
theorem rcode_yes (s : Nat) (w : World) (hs : s < 257) :
    Calls Tryd.prog 12 #[.int .i64 s] w fun e w' => e = .returned (.tuple #[.int .u32 (codeOf s : Nat), .bool true]) ∧ w = w' := by
  have hbs := bits_ok hs
  have hn1 := hbs.1
  have hn2 := hbs.2.1
  have hcl : codeOf s < 4294967296 := (sym_small hs).1
  have hv4 : refVal s 4 = 0 := by unfold refVal; rw [if_pos (by omega)]; exact outer_four
  have hvn : refVal s (bitsOf s) = codeOf s := by unfold refVal; rw [if_neg (by omega)]
  have hz : ∀ j, j < bitsOf s → ((refCnt s j 0 : Nat) : Int) = (refVal s j : Int) * 2 := by
    intro j hj
    rw [cnt_zero]; unfold refVal; rw [if_pos hj]; simp
  have hce := fun j (hj : j < bitsOf s) => cnt_end hs hj
  have hle : ∀ j k, j < bitsOf s → k ≤ 257 → refCnt s j k ≤ 1073741824 := fun j k hj hk => cnt_le hs (by omega) hk
  have hy := fun j k (h1 : bitsOf k = j + 1) (h2 : ¬ (j + 1 = bitsOf s ∧ s ≤ k)) => cnt_yes h1 h2
  have hno := fun j k (h : bitsOf k ≠ j + 1 ∨ (j + 1 = bitsOf s ∧ s ≤ k)) => cnt_no h
  have hlet : ∀ k, (h : k < lettersR.size) → lettersR[k].toNat = bitsOf k + 92 := lettersR_at
  have hlz := lettersR_size
  have HB := Lib.hid (rbits_yes s w hs)
  have HL := Lib.hid (lengths_any w)
  have Hz := Lib.hid hz
  have Hce := Lib.hid hce
  have Hle := Lib.hid hle
  have Hy := Lib.hid hy
  have Hno := Lib.hid hno
  have Hlet := Lib.hid hlet
  have Hvn := Lib.hid hvn
  clear hz hce hle hy hno hlet hvn hbs
  generalize lettersR = S at *
  generalize bitsOf s = n at *
  go_enter Tryd.func12, Tryd.ntmps12
  go_wp2_with (first
    | (go_at_call 11; refine HB.out.mono ?_; rintro e w' ⟨rfl, rfl⟩)
    | (go_at_call 21; refine HL.out.mono ?_; rintro e w' ⟨rfl, rfl⟩))
  go_loop [6, 7] (fun c i => ∃ j : Nat, 4 ≤ j ∧ j ≤ n ∧ i = .int .i64 ((j : Int) + 1) ∧ c = .int .i64 (refVal s j : Nat)) (fun _ i => 31 - (intOf i).toNat)
  case atStart => exact ⟨4, by omega, by omega, by go_num, by rw [hv4]; go_num⟩
  case round =>
    obtain ⟨j, hj4, hjn, rfl, rfl⟩ := hrel
    by_cases hlt : j < n
    · have e2 := Hz.out j hlt
      have e3 := Hle.out j 0 hlt (by omega)
      have hv : refVal s j ≤ 536870912 := by omega
      have hd : decide ((j : Int) + 1 ≤ (n : Int)) = true := decide_eq_true (by omega)
      have E2 := Lib.hid e2
      clear e2 e3
      generalize refVal s j = rv at *
      go_wp2
      go_loop [6, 8] (fun c i => ∃ k : Nat, k ≤ 257 ∧ i = .int .i64 (k : Int) ∧ c = .int .i64 (refCnt s j k : Nat)) (fun _ i => 257 - (intOf i).toNat)
      case atStart => exact ⟨0, by omega, rfl, by rw [E2.out]⟩
      case round =>
        obtain ⟨k, hk, rfl, rfl⟩ := hrel
        have hle := Hle.out j k hlt hk
        by_cases hkl : k < 257
        · have hb := bits_ok hkl
          have hks : k < S.size := by omega
          have hat := Hlet.out k hks
          have hy := Hy.out j k
          have hno := Hno.out j k
          have hE : (S[k].toNat : Int) - 97 + 5 = (bitsOf k : Int) := by omega
          have hc0 : 97 ≤ (S[k].toNat : Int) := by omega
          have hc1 : (S[k].toNat : Int) ≤ 122 := by omega
          have HY := Lib.hid hy
          have HNo := Lib.hid hno
          clear hy hno hat hb
          generalize bitsOf k = bk at *
          by_cases h1 : bk = j + 1
          · by_cases h2 : j + 1 = n
            · by_cases h3 : s ≤ k
              · have e := HNo.out (Or.inr ⟨h2, h3⟩)
                have H := Lib.hid e
                have t1 : ((bk : Int) != (j : Int) + 1) = false := by subst h1; simp
                have t2 : ((j : Int) + 1 == (n : Int)) = true := by subst h2; simp
                clear e
                go_wp2
                go_round
                case rel => first
                  | exact ⟨k + 1, by omega, by go_num, by rw [H.out]⟩
                  | ((repeat apply Exists.intro); refine ⟨trivial, ?_⟩; (repeat apply Exists.intro); exact ⟨⟨k + 1, by omega, by go_num, by rw [H.out]⟩, by rw [show (n : Int) = (j : Int) + 1 by omega] <;> rfl⟩)
                case measure => simp [intOf]; omega
              · have e := HY.out h1 (fun h => h3 h.2)
                have H := Lib.hid e
                have t1 : ((bk : Int) != (j : Int) + 1) = false := by subst h1; simp
                have t2 : ((j : Int) + 1 == (n : Int)) = true := by subst h2; simp
                clear e
                go_wp2
                go_round
                case rel => first
                  | exact ⟨k + 1, by omega, by go_num, by rw [H.out] <;> go_num⟩
                  | ((repeat apply Exists.intro); refine ⟨trivial, ?_⟩; (repeat apply Exists.intro); exact ⟨⟨k + 1, by omega, by go_num, by rw [H.out] <;> go_num⟩, by rw [show (n : Int) = (j : Int) + 1 by omega] <;> rfl⟩)
                case measure => simp [intOf]; omega
            · have e := HY.out h1 (fun h => h2 h.1)
              have H := Lib.hid e
              have t1 : ((bk : Int) != (j : Int) + 1) = false := by subst h1; simp
              have t2 : ((j : Int) + 1 == (n : Int)) = false := by rw [beq_eq_false_iff_ne]; omega
              clear e
              go_wp2
              go_round
              case rel => first
                | exact ⟨k + 1, by omega, by go_num, by rw [H.out] <;> go_num⟩
                | ((repeat apply Exists.intro); refine ⟨trivial, ?_⟩; (repeat apply Exists.intro); exact ⟨⟨k + 1, by omega, by go_num, by rw [H.out] <;> go_num⟩, by rw [show (n : Int) = (j : Int) + 1 by omega] <;> rfl⟩)
              case measure => simp [intOf]; omega
          · have e := HNo.out (Or.inl h1)
            have H := Lib.hid e
            have t1 : ((bk : Int) != (j : Int) + 1) = true := by rw [bne_iff_ne]; omega
            clear e
            go_wp2
            go_round
            case rel => first
              | exact ⟨k + 1, by omega, by go_num, by rw [H.out]⟩
              | ((repeat apply Exists.intro); refine ⟨trivial, ?_⟩; (repeat apply Exists.intro); exact ⟨⟨k + 1, by omega, by go_num, by rw [H.out]⟩, by rw [show (n : Int) = (j : Int) + 1 by omega] <;> rfl⟩)
            case measure => simp [intOf]; omega
        · have e : k = 257 := by omega
          subst e
          rw [Hce.out j hlt] at hle ⊢
          go_wp2
          go_round
          case rel => exact ⟨j + 1, by omega, by omega, by go_num, by go_num⟩
          case measure => simp [intOf]; omega
    · have e : j = n := by omega
      subst e
      rw [Hvn.out]
      go_wp2
      go_ret2
      exact ⟨rfl, rfl⟩
end Go.Proofs.YtblenefhoidhaaaDoor.Huff
