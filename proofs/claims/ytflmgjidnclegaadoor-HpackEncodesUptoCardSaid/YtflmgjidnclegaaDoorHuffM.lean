/-
  The Huffman code's table as plain numbers: how many bits each symbol has, and the codes handed out by rising numbers of bits.
-/
import Derived.Test.YtflmgjidnclegaaDoorRows
import Derived.Test.YtflmgjidnclegaaDoorBaseM
import Derived.Deep.WholeRow
import Derived.StillTailTactics
import Derived.Deep.RegionHeld3
namespace Go.Proofs.YtflmgjidnclegaaDoor.Huff
/-- how many bits each symbol has -/
def bitsL : List Nat := [13, 23, 28, 28, 28, 28, 28, 28, 28, 24, 30, 28, 28, 30, 28, 28, 28, 28, 28, 28, 28, 28, 30, 28, 28, 28, 28, 28, 28, 28, 28, 28, 6, 10, 10, 12, 13, 6, 8, 11, 10, 10, 8, 11, 8, 6, 6, 6, 5, 5, 5, 6, 6, 6, 6, 6, 6, 6, 7, 8, 15, 6, 12, 10, 13, 6, 7, 7, 7, 7, 7, 7, 7, 7, 7, 7, 7, 7, 7, 7, 7, 7, 7, 7, 7, 7, 7, 7, 8, 7, 8, 13, 19, 13, 14, 6, 15, 5, 6, 5, 6, 5, 6, 6, 6, 5, 7, 7, 6, 6, 6, 5, 6, 7, 6, 5, 5, 6, 7, 7, 7, 7, 7, 15, 11, 14, 13, 28, 20, 22, 20, 20, 22, 22, 22, 23, 22, 23, 23, 23, 23, 23, 24, 23, 24, 24, 22, 23, 24, 23, 23, 23, 23, 21, 22, 23, 22, 23, 23, 24, 22, 21, 20, 22, 22, 23, 23, 21, 23, 22, 22, 24, 21, 22, 23, 23, 21, 21, 22, 21, 23, 22, 23, 23, 20, 22, 22, 22, 23, 22, 22, 23, 26, 26, 20, 19, 22, 23, 22, 25, 26, 26, 26, 27, 27, 26, 24, 25, 19, 21, 26, 27, 27, 26, 27, 24, 21, 21, 26, 26, 28, 27, 27, 27, 20, 24, 20, 21, 22, 21, 21, 23, 22, 22, 25, 25, 24, 24, 26, 23, 26, 27, 26, 26, 27, 27, 27, 27, 27, 28, 27, 27, 27, 27, 27, 26, 30]
def bitsOf (n : Nat) : Nat := bitsL.getD n 0
/-- one symbol of a round -/
def stepC (b : Nat) (acc : List Nat × Nat) (s : Nat) : List Nat × Nat := if bitsOf s = b then (acc.1.set s acc.2, acc.2 + 1) else acc
def innerC (b : Nat) (acc : List Nat × Nat) (k : Nat) : List Nat × Nat := (List.range k).foldl (stepC b) acc
/-- behind so many rounds -/
def outerC : Nat → List Nat × Nat
  | 0 => (List.replicate 257 0, 0)
  | j + 1 => match outerC j with
    | (l, n) => innerC (j + 1) (l, n * 2) 257
/-- the codes -/
def codeL : List Nat := [8184, 8388568, 268435426, 268435427, 268435428, 268435429, 268435430, 268435431, 268435432, 16777194, 1073741820, 268435433, 268435434, 1073741821, 268435435, 268435436, 268435437, 268435438, 268435439, 268435440, 268435441, 268435442, 1073741822, 268435443, 268435444, 268435445, 268435446, 268435447, 268435448, 268435449, 268435450, 268435451, 20, 1016, 1017, 4090, 8185, 21, 248, 2042, 1018, 1019, 249, 2043, 250, 22, 23, 24, 0, 1, 2, 25, 26, 27, 28, 29, 30, 31, 92, 251, 32764, 32, 4091, 1020, 8186, 33, 93, 94, 95, 96, 97, 98, 99, 100, 101, 102, 103, 104, 105, 106, 107, 108, 109, 110, 111, 112, 113, 114, 252, 115, 253, 8187, 524272, 8188, 16380, 34, 32765, 3, 35, 4, 36, 5, 37, 38, 39, 6, 116, 117, 40, 41, 42, 7, 43, 118, 44, 8, 9, 45, 119, 120, 121, 122, 123, 32766, 2044, 16381, 8189, 268435452, 1048550, 4194258, 1048551, 1048552, 4194259, 4194260, 4194261, 8388569, 4194262, 8388570, 8388571, 8388572, 8388573, 8388574, 16777195, 8388575, 16777196, 16777197, 4194263, 8388576, 16777198, 8388577, 8388578, 8388579, 8388580, 2097116, 4194264, 8388581, 4194265, 8388582, 8388583, 16777199, 4194266, 2097117, 1048553, 4194267, 4194268, 8388584, 8388585, 2097118, 8388586, 4194269, 4194270, 16777200, 2097119, 4194271, 8388587, 8388588, 2097120, 2097121, 4194272, 2097122, 8388589, 4194273, 8388590, 8388591, 1048554, 4194274, 4194275, 4194276, 8388592, 4194277, 4194278, 8388593, 67108832, 67108833, 1048555, 524273, 4194279, 8388594, 4194280, 33554412, 67108834, 67108835, 67108836, 134217694, 134217695, 67108837, 16777201, 33554413, 524274, 2097123, 67108838, 134217696, 134217697, 67108839, 134217698, 16777202, 2097124, 2097125, 67108840, 67108841, 268435453, 134217699, 134217700, 134217701, 1048556, 16777203, 1048557, 2097126, 4194281, 2097127, 2097128, 8388595, 4194282, 4194283, 33554414, 33554415, 16777204, 16777205, 67108842, 8388596, 67108843, 134217702, 67108844, 67108845, 134217703, 134217704, 134217705, 134217706, 134217707, 268435454, 134217708, 134217709, 134217710, 134217711, 134217712, 67108846, 1073741823]
def codeOf (n : Nat) : Nat := codeL.getD n 0
theorem bitsL_len : bitsL.length = 257 := by decide +kernel
theorem codeL_len : codeL.length = 257 := by decide +kernel
theorem outer_codes : outerC 30 = (codeL, 1073741824) := by decide +kernel
theorem outer_bound : ((List.range 31).all fun j => decide ((outerC j).2 ≤ 1073741824)) = true := by decide +kernel
theorem outer_le {j : Nat} (h : j ≤ 30) : (outerC j).2 ≤ 1073741824 := by
  have := List.all_eq_true.1 outer_bound j (by simp; omega)
  simpa using this
theorem inner_zero (b : Nat) (acc : List Nat × Nat) : innerC b acc 0 = acc := rfl
theorem inner_succ (b : Nat) (acc : List Nat × Nat) (k : Nat) : innerC b acc (k + 1) = stepC b (innerC b acc k) k := by
  simp [innerC, List.range_succ, List.foldl_append]
theorem step_mono (b : Nat) (acc : List Nat × Nat) (s : Nat) : acc.2 ≤ (stepC b acc s).2 := by
  unfold stepC; split <;> simp
theorem inner_mono (b : Nat) (acc : List Nat × Nat) (k : Nat) (d : Nat) : (innerC b acc k).2 ≤ (innerC b acc (k + d)).2 := by
  induction d with
  | zero => exact Nat.le_refl _
  | succ d ih => rw [← Nat.add_assoc, inner_succ]; exact Nat.le_trans ih (step_mono _ _ _)
theorem inner_len (b : Nat) (acc : List Nat × Nat) (k : Nat) : (innerC b acc k).1.length = acc.1.length := by
  induction k with
  | zero => rfl
  | succ k ih => rw [inner_succ]; unfold stepC; split <;> simp [ih]
theorem outer_succ (j : Nat) : outerC (j + 1) = innerC (j + 1) ((outerC j).1, (outerC j).2 * 2) 257 := rfl
theorem outer_len (j : Nat) : (outerC j).1.length = 257 := by
  induction j with
  | zero => exact List.length_replicate
  | succ j ih => rw [outer_succ, inner_len]; exact ih
theorem inner_le {j k : Nat} (hj : j < 30) (hk : k ≤ 257) : (innerC (j + 1) ((outerC j).1, (outerC j).2 * 2) k).2 ≤ 1073741824 := by
  have h := inner_mono (j + 1) ((outerC j).1, (outerC j).2 * 2) k (257 - k)
  rw [show k + (257 - k) = 257 by omega, ← outer_succ] at h
  exact Nat.le_trans h (outer_le (by omega))
theorem bits_check : ((List.range 257).all fun n => decide (5 ≤ bitsOf n ∧ bitsOf n ≤ 30 ∧ codeOf n < 2 ^ bitsOf n)) = true := by decide +kernel
theorem bits_ok {n : Nat} (h : n < 257) : 5 ≤ bitsOf n ∧ bitsOf n ≤ 30 ∧ codeOf n < 2 ^ bitsOf n := by
  have := List.all_eq_true.1 bits_check n (by simpa using h)
  simpa using this
theorem bits_ge {n : Nat} (h : 257 ≤ n) : bitsOf n = 0 := by
  unfold bitsOf
  rw [List.getD, List.getElem?_eq_none (by rw [bitsL_len]; exact h)]
  rfl
end Go.Proofs.YtflmgjidnclegaaDoor.Huff
/-
  The walks of package huff: sizes, Bits, codes, Code, Size.
-/
namespace Go.Proofs.YtflmgjidnclegaaDoor.Huff
open Go.RowKit

/-- the letters -/
def lettersL : List UInt8 := bitsL.map fun n => UInt8.ofNat (n + 60)
def lettersS : ByteArray := ⟨lettersL.toArray⟩
theorem letters_len : lettersL.length = 257 := by simp [lettersL, bitsL_len]
theorem letters_size : lettersS.size = 257 := by
  show lettersL.toArray.size = 257
  simp [letters_len]
theorem letters_check : ((List.range 257).all fun n => decide (((lettersL.getD n 0).toNat : Nat) = bitsOf n + 60)) = true := by decide +kernel
theorem letters_at (n : Nat) (h : n < lettersS.size) : lettersS[n].toNat = bitsOf n + 60 := by
  have h' : n < 257 := by rw [← letters_size]; exact h
  have hl : n < lettersL.length := by rw [letters_len]; exact h'
  have hm : n ∈ List.range 257 := List.mem_range.2 h'
  have hd := of_decide_eq_true (List.all_eq_true.1 letters_check n hm)
  have hg : lettersS[n] = lettersL.getD n 0 := by
    show lettersL.toArray[n]'hl = _
    rw [List.getElem_toArray, List.getD, List.getElem?_eq_getElem hl]
    rfl
  exact (congrArg UInt8.toNat hg).trans hd

set_option maxRecDepth 100000 in
set_option maxHeartbeats 400000 in
theorem sizes_any (w : World) : Calls Tryd.prog 102 #[] w fun e w' => e = .returned (.string lettersS) ∧ w = w' := by
  go_enter Tryd.func102, Tryd.ntmps102
  go_wp2
  go_ret
  exact ⟨congrArg (fun l => Ending.returned (Value.string ⟨l⟩)) (by decide +kernel), rfl⟩

set_option maxHeartbeats 400000 in
theorem bits_yes (n : Nat) (w : World) (h : n < 257) :
    Calls Tryd.prog 90 #[.int .i64 n] w fun e w' => e = .returned (.tuple #[.int .i64 (bitsOf n), .bool true]) ∧ w = w' := by
  have hs : n < lettersS.size := by rw [letters_size]; exact h
  have hat := letters_at n hs
  have hb := bits_ok h
  have HS := Lib.hid (sizes_any w)
  generalize lettersS = S at *
  have hc0 : 65 ≤ (S[n].toNat : Int) := by omega
  have hc1 : (S[n].toNat : Int) ≤ 90 := by omega
  have Hat := Lib.hid hat
  clear hat hb
  go_enter Tryd.func90, Tryd.ntmps90
  go_wp2_with (go_at_call 102; refine HS.out.mono ?_; rintro e w' ⟨rfl, rfl⟩)
  go_ret2
  have e : (S[n].toNat : Int) - 65 + 5 = (bitsOf n : Int) := by have := Hat.out; omega
  exact ⟨congrArg (fun x => Ending.returned (.tuple #[.int .i64 x, .bool true])) e, rfl⟩
set_option maxHeartbeats 400000 in
theorem bits_no (n : Int) (w : World) (h : n < 0 ∨ 257 ≤ n) :
    Calls Tryd.prog 90 #[.int .i64 n] w fun e w' => e = .returned (.tuple #[.int .i64 0, .bool false]) ∧ w = w' := by
  rcases h with h | h
  · go_enter Tryd.func90, Tryd.ntmps90
    go_wp2
    go_ret2
    exact ⟨rfl, rfl⟩
  · have h2 : 0 ≤ n := by omega
    go_enter Tryd.func90, Tryd.ntmps90
    go_wp2
    go_ret2
    exact ⟨rfl, rfl⟩
/-- the codes as cells -/
def tab (l : List Nat) : Array Value := (l.map fun n : Nat => Value.int .u32 n).toArray
theorem tab_size (l : List Nat) : (tab l).size = l.length := by simp [tab]
theorem tab_set (l : List Nat) (i n : Nat) : (tab l).setIfInBounds i (.int .u32 n) = tab (l.set i n) := by
  apply Array.ext'
  simp [tab, List.map_set]
theorem tab_at (l : List Nat) (i : Nat) (h : i < l.length) : (tab l)[i]? = some (.int .u32 (l.getD i 0 : Nat)) := by
  simp [tab, List.getElem?_eq_getElem h, List.getD]
theorem zero_tab (w : World) : (zeroValue 126).run Tryd.prog w = .ok (.agg (tab (List.replicate 257 0))) w := by kernel_rfl
theorem one_cell (l : List Nat) : ∀ v ∈ (tab l).toList, v.oneCell' = true := by
  intro v hv
  simp only [tab, List.mem_map] at hv
  obtain ⟨n, _, rfl⟩ := hv
  rfl
theorem info_tab (l : List Nat) (h : l.length = 257) : (Tryd.prog.info? 126).map (·.size) = some (tab l).size := by
  rw [tab_size, h]
  kernel_rfl
set_option maxRecDepth 100000 in
set_option maxHeartbeats 400000 in
theorem codes_any (w : World) :
    Calls Tryd.prog 91 #[] w fun e w' => e = .returned (.agg (tab codeL)) ∧ Below w.heap.size w w' := by
  have hz := zero_tab
  generalize hT0 : tab (List.replicate 257 0) = T0 at hz
  have HT0 := Lib.hid hT0
  clear hT0
  go_enter Tryd.func91, Tryd.ntmps91
  go_wp2
  have hR0 : Blk ((w.alloc (.cells T0 126)).alloc (.cells T0 126)) w.heap.size 126 T0 := (Blk.new _ _ _).alloc _
  have hL0 : Blk ((w.alloc (.cells T0 126)).alloc (.cells T0 126)) (w.heap.size + 1) 126 (tab (outerC 0).1) := by
    rw [show tab (outerC 0).1 = T0 from HT0.out]
    simpa using (Blk.new (w.alloc (.cells T0 126)) 126 T0)
  have hB0 : Below w.heap.size w ((w.alloc (.cells T0 126)).alloc (.cells T0 126)) := ((Below.refl _ _).alloc (Nat.le_refl _) _).alloc (by simp) _
  clear hz
  go_loopw [2, 3] (fun nx i wr => ∃ j : Nat, j ≤ 30 ∧ i = .int .i64 ((j : Int) + 1) ∧ nx = .int .u32 ((outerC j).2 : Nat) ∧ Blk wr w.heap.size 126 T0 ∧ Blk wr (w.heap.size + 1) 126 (tab (outerC j).1) ∧ Below w.heap.size w wr) (fun _ i _ => 31 - (intOf i).toNat)
  case atStart => exact ⟨0, by omega, by go_num, rfl, hR0, hL0, hB0⟩
  case round =>
    obtain ⟨j, hj, rfl, rfl, hR, hL, hB⟩ := hrel
    clear hR0 hL0 hB0
    have hle := outer_le hj
    have hlen := outer_len j
    by_cases hlt : j < 30
    · obtain ⟨acc0, hacc0⟩ : ∃ a : List Nat × Nat, a = ((outerC j).1, (outerC j).2 * 2) := ⟨_, rfl⟩
      have hnext : outerC (j + 1) = innerC (j + 1) acc0 257 := by rw [hacc0]; exact outer_succ j
      have hil : ∀ k, k ≤ 257 → (innerC (j + 1) acc0 k).2 ≤ 1073741824 := fun k hk => by rw [hacc0]; exact inner_le hlt hk
      have hll : ∀ k, (innerC (j + 1) acc0 k).1.length = 257 := fun k => by rw [inner_len, hacc0]; exact hlen
      have e2 : ((innerC (j + 1) acc0 0).2 : Int) = ((outerC j).2 : Int) * 2 := by rw [inner_zero, hacc0]; simp
      have hL1 : Blk wr (w.heap.size + 1) 126 (tab (innerC (j + 1) acc0 0).1) := by rw [inner_zero, hacc0]; exact hL
      have Hnext := Lib.hid hnext
      have Hil := Lib.hid hil
      have Hll := Lib.hid hll
      have E2 := Lib.hid e2
      clear hacc0 hnext hil hll e2 hL hlen
      generalize (outerC j).2 = n0 at *
      have hd8 : decide ((j : Int) + 1 ≤ 30) = true := by simp; omega
      go_wp2
      clear hj
      obtain ⟨wo, rfl⟩ : ∃ wo : World, wo = wr := ⟨_, rfl⟩
      go_loopw [2, 13] (fun nx i wi => ∃ k : Nat, k ≤ 257 ∧ i = .int .i64 (k : Int) ∧ nx = .int .u32 ((innerC (j + 1) acc0 k).2 : Nat) ∧ Blk wi w.heap.size 126 T0 ∧ Blk wi (w.heap.size + 1) 126 (tab (innerC (j + 1) acc0 k).1) ∧ Below w.heap.size w wi) (fun _ i _ => 257 - (intOf i).toNat)
      case atStart => exact ⟨0, by omega, rfl, by rw [E2.out], hR, hL1, hB⟩
      case round =>
        obtain ⟨k, hk, rfl, rfl, hRk, hLk, hBk⟩ := hrel
        clear hR hL1 hB
        have hn := Hil.out k hk
        have hlenk := Hll.out k
        by_cases hkl : k < 257
        · have hb := bits_ok hkl
          have hsucc := inner_succ (j + 1) acc0 k
          by_cases hbk : bitsOf k = j + 1
          · have hst : stepC (j + 1) (innerC (j + 1) acc0 k) k = ((innerC (j + 1) acc0 k).1.set k (innerC (j + 1) acc0 k).2, (innerC (j + 1) acc0 k).2 + 1) := by unfold stepC; rw [if_pos hbk]
            rw [hst] at hsucc
            have HS := Lib.hid hsucc
            clear hsucc hst
            have hcell : wr.cell? ⟨w.heap.size + 1, k, none⟩ = some (.int .u32 ((innerC (j + 1) acc0 k).1.getD k 0 : Nat)) := (hLk.cell k).trans (tab_at _ _ (by rw [hlenk]; exact hkl))
            have hfr : wr.frozen? ⟨w.heap.size + 1, k, none⟩ = false := hLk.frozen k
            generalize innerC (j + 1) acc0 k = ik at *
            have htest : ((bitsOf k : Int) == (j : Int) + 1) = true := beq_iff_eq.2 (by omega)
            clear hbk hlenk
            go_wp2_with (go_at_call 90; refine (bits_yes k _ hkl).mono ?_; rintro e w' ⟨rfl, rfl⟩)
            go_roundw
            case rel =>
              have r1 := hRk.far (p := ⟨w.heap.size + 1, k, none⟩) (by simp) (.int .u32 (ik.2 : Nat))
              have r2 : Blk (wr.setCell ⟨w.heap.size + 1, k, none⟩ (.int .u32 (ik.2 : Nat))) (w.heap.size + 1) 126 (tab (innerC (j + 1) acc0 (k + 1)).1) := by
                rw [HS.out]
                have := hLk.set_ k (.int .u32 (ik.2 : Nat))
                rwa [tab_set] at this
              have r3 := hBk.setCell (p := ⟨w.heap.size + 1, k, none⟩) (by simp) (.int .u32 (ik.2 : Nat))
              have r4 : Value.int .u32 ((ik.2 : Int) + 1) = Value.int .u32 ((innerC (j + 1) acc0 (k + 1)).2 : Nat) := by rw [HS.out]; simp
              first
                | exact ⟨k + 1, by omega, by go_num, r4, r1, r2, r3⟩
                | ((repeat apply Exists.intro); exact ⟨⟨k + 1, by omega, by go_num, r4, r1, r2, r3⟩, rfl⟩)
            case measure => simp [intOf]; omega
          · have hst : stepC (j + 1) (innerC (j + 1) acc0 k) k = innerC (j + 1) acc0 k := by unfold stepC; rw [if_neg hbk]
            rw [hst] at hsucc
            have HS := Lib.hid hsucc
            clear hsucc hst
            have htest : ((bitsOf k : Int) == (j : Int) + 1) = false := beq_eq_false_iff_ne.2 (by omega)
            clear hlenk
            generalize innerC (j + 1) acc0 k = ik at *
            go_wp2_with (go_at_call 90; refine (bits_yes k _ hkl).mono ?_; rintro e w' ⟨rfl, rfl⟩)
            go_roundw
            case rel =>
              exact ⟨k + 1, by omega, by go_num, by rw [HS.out], hRk, by rw [HS.out]; exact hLk, hBk⟩
            case measure => simp [intOf]; omega
        · have e : k = 257 := by omega
          subst e
          have E := Lib.hid Hnext.out.symm
          have hLk' : Blk wr (w.heap.size + 1) 126 (tab (outerC (j + 1)).1) := by rw [← E.out]; exact hLk
          have e3 : ((innerC (j + 1) acc0 257).2 : Nat) = (outerC (j + 1)).2 := by rw [E.out]
          rw [e3]
          clear e3 hLk hlenk hn
          go_wp2
          go_roundw
          case rel => exact ⟨j + 1, by omega, by go_num, rfl, hRk, hLk', hBk⟩
          case measure => simp [intOf]; omega
    · have e : j = 30 := by omega
      subst e
      have hL' : Blk wr (w.heap.size + 1) 126 (tab codeL) := by have := hL; rw [outer_codes] at this; exact this
      clear hL hlen hle
      generalize (outerC 30).2 = n0
      have hlr : w.heap.size + 1 ≠ w.heap.size := by omega
      have hlast : ∀ (R : Ending → World → Prop) (a : Act), R (.returned (.agg (tab codeL))) (wr.setRow w.heap.size (tab codeL)) → a.tmps.getD 0 undef = .pointer (some ⟨w.heap.size, 0, none⟩) → a.defers = [] →
          bodyPost Tryd.prog Tryd.f91 R .ret a (wr.setRow w.heap.size (tab codeL)) := fun R a hr h0 hd =>
        bodyPost_ret (results_cell_row (P := Tryd.prog) rfl _ _ w.heap.size 126 (tab codeL) (0, 0) _ h0 (setRow_heap _ _ _ _ _ _ hR) Tryd.underlying126 rfl (info_tab _ codeL_len)) hd hr
      have HL := Lib.hid hlast
      have hi44 := info_tab codeL codeL_len
      have hold : T0.size = (tab codeL).size := by rw [← HT0.out]; simp [tab_size, codeL_len]
      have hone : (tab codeL).all (·.oneCell') = true := Array.all_eq_true_iff_forall_mem.2 (fun v hv => one_cell _ v (by simpa using hv))
      clear hlast
      go_wp2_with (first
        | (refine wpList_load_row rfl 126 _ rfl (w.heap.size + 1) rfl 126 (tab codeL) (0, 0) _ hL' Tryd.underlying126 rfl (info_tab _ codeL_len) ?_)
        | (refine wpList_store_row rfl 126 _ _ rfl w.heap.size (tab codeL) rfl rfl 126 T0 hR hi44 hold hone ?_))
      refine HL.out _ _ ?_ rfl rfl
      exact ⟨rfl, hB.trans ⟨rfl, rfl, rfl, by simp, fun k hk => setRow_other _ _ _ _ (by omega)⟩⟩

/-- one element of an array of integers held by value -/
theorem run_index_tab {P : Program} {w : World} (t e : TypeId) (j : TypeInfo) (kd ki : IntKind) (n m : Nat) (cs : Array Value) (v : Value) (ht : P.underlying t = some (.array m e)) (he : P.underlying e = some (.int kd)) (hi : P.info? e = some j) (hs : j.size = 1)
    (hn : n < m) (hv : cs[n]? = some v) : (Instr.index t (.agg cs) (.int ki (n : Int))).run P w = .ok v w := by
  have h : 0 ≤ (n : Int) ∧ (n : Int) < (m : Int) := by omega
  have hagg : (isAgg e).run P w = .ok false w := by
    unfold isAgg
    rw [Sem.run_bind, run_underlying he w]
    simp
  simp [Instr.index, run_underlying ht, asIntOf, h, sizeOf, typeInfo, hi, hs, part, hagg, hv, hn, go_sem]
theorem index_tab {w : World} (l : List Nat) (n : Nat) (hl : l.length = 257) (h : n < 257) : (Instr.index 126 (.agg (tab l)) (.int .i64 (n : Int))).run Tryd.prog w = .ok (.int .u32 (l.getD n 0 : Nat)) w := by
  obtain ⟨j, hj, hj0⟩ : ∃ j, Tryd.prog.info? 125 = some j ∧ j.size = 1 := by
    have : (Tryd.prog.info? 125).map (·.size) = some 1 := by kernel_rfl
    simpa [Option.map_eq_some_iff] using this
  exact run_index_tab _ _ j _ _ n 257 _ _ Tryd.underlying126 Tryd.underlying125 hj hj0 h (tab_at l n (by omega))
/-- the bits of a text, in all -/
def bitsIn (l : List UInt8) : Nat := (l.map fun c => bitsOf c.toNat).sum
theorem bitsIn_snoc (l : List UInt8) (c : UInt8) : bitsIn (l ++ [c]) = bitsIn l + bitsOf c.toNat := by simp [bitsIn]
theorem bitsIn_le (l : List UInt8) : bitsIn l ≤ 30 * l.length := by
  induction l with
  | nil => simp [bitsIn]
  | cons c l ih =>
    have h : bitsOf c.toNat ≤ 30 := (bits_ok (by have := c.toNat_lt; omega)).2.1
    have : bitsIn (c :: l) = bitsOf c.toNat + bitsIn l := by simp [bitsIn]
    rw [this, List.length_cons]; omega
theorem take_snoc (s : ByteArray) (k : Nat) (h : k < s.size) : s.data.toList.take (k + 1) = s.data.toList.take k ++ [s[k]] := by
  rw [List.take_succ_eq_append_getElem (by simpa using h)]; rfl
set_option maxHeartbeats 400000 in
theorem size_any (s : ByteArray) (w : World) (hs : s.size ≤ 140737488355328) :
    Calls Tryd.prog 75 #[.string s] w fun e w' => e = .returned (.int .i64 ((bitsIn s.data.toList + 7) / 8 : Nat)) ∧ w = w' := by
  have hm : s.size ≤ maxLen := by unfold maxLen; omega
  go_enter Tryd.func75, Tryd.ntmps75
  go_wp2
  go_loop [3, 9] (fun b i => ∃ k : Nat, k ≤ s.size ∧ i = .int .i64 (k : Int) ∧ b = .int .i64 (bitsIn (s.data.toList.take k) : Nat)) (fun _ i => s.size - (intOf i).toNat)
  case atStart => exact ⟨0, Nat.zero_le _, rfl, rfl⟩
  case round =>
    obtain ⟨k, hk, rfl, rfl⟩ := hrel
    have hb := bitsIn_le (s.data.toList.take k)
    have hl : (s.data.toList.take k).length ≤ k := List.length_take_le _ _
    by_cases hlt : k < s.size
    · have hsn : bitsIn (s.data.toList.take (k + 1)) = bitsIn (s.data.toList.take k) + bitsOf s[k].toNat := by rw [take_snoc s k hlt, bitsIn_snoc]
      have HS := Lib.hid hsn
      clear hsn
      have hc : s[k].toNat < 257 := by have := s[k].toNat_lt; omega
      have hbb := bits_ok hc
      have hb1 : bitsOf s[k].toNat ≤ 30 := hbb.2.1
      clear hbb
      go_wp2_with (go_at_call 90; refine (bits_yes s[k].toNat _ hc).mono ?_; rintro e w' ⟨rfl, rfl⟩)
      go_round
      case rel => exact ⟨k + 1, by omega, by go_num, by rw [HS.out]; go_num⟩
      case measure => simp [intOf]; omega
    · have e : s.data.toList.take k = s.data.toList := List.take_of_length_le (by simp; omega)
      rw [e] at hb ⊢
      have hz : s.data.toList.length ≤ s.size := by simp
      go_wp2
      go_ret
      exact ⟨ret_int (by omega), rfl⟩
end Go.Proofs.YtflmgjidnclegaaDoor.Huff
/-
  The codes of a text, packed into bytes: plain numbers.
-/
namespace Go.Proofs.YtflmgjidnclegaaDoor.Huff
/-- all bits of a text as one number -/
def valN (l : List UInt8) : Nat := l.foldl (fun v c => v * 2 ^ bitsOf c.toNat + codeOf c.toNat) 0
theorem valN_snoc (l : List UInt8) (c : UInt8) : valN (l ++ [c]) = valN l * 2 ^ bitsOf c.toNat + codeOf c.toNat := by simp [valN]
theorem byte_ok (c : UInt8) : 5 ≤ bitsOf c.toNat ∧ bitsOf c.toNat ≤ 30 ∧ codeOf c.toNat < 2 ^ bitsOf c.toNat := bits_ok (by have := c.toNat_lt; omega)
theorem valN_lt_aux : ∀ (n : Nat) (l : List UInt8), l.length = n → valN l < 2 ^ bitsIn l := by
  intro n
  induction n with
  | zero => intro l h; have : l = [] := List.eq_nil_of_length_eq_zero h; subst this; simp [valN, bitsIn]
  | succ n ih =>
    intro l h
    obtain ⟨l', c, rfl⟩ : ∃ l' c, l = l' ++ [c] := ⟨l.dropLast, l.getLast (by intro e; subst e; simp at h), (List.dropLast_concat_getLast _).symm⟩
    have h1 := ih l' (by simpa using h)
    have h2 := (byte_ok c).2.2
    rw [valN_snoc, bitsIn_snoc, Nat.pow_add]
    calc valN l' * 2 ^ bitsOf c.toNat + codeOf c.toNat < valN l' * 2 ^ bitsOf c.toNat + 2 ^ bitsOf c.toNat := by omega
      _ = (valN l' + 1) * 2 ^ bitsOf c.toNat := by rw [Nat.add_mul, Nat.one_mul]
      _ ≤ 2 ^ bitsIn l' * 2 ^ bitsOf c.toNat := Nat.mul_le_mul_right _ h1
theorem valN_lt (l : List UInt8) : valN l < 2 ^ bitsIn l := valN_lt_aux _ l rfl
/-- the first q bytes of a number of L bits -/
def outTo (V L q : Nat) : List UInt8 := (List.range q).map fun i => UInt8.ofNat (V / 2 ^ (L - 8 * (i + 1)) % 256)
theorem outTo_len (V L q : Nat) : (outTo V L q).length = q := by simp [outTo]
theorem outTo_succ (V L q : Nat) : outTo V L (q + 1) = outTo V L q ++ [UInt8.ofNat (V / 2 ^ (L - 8 * (q + 1)) % 256)] := by simp [outTo, List.range_succ]
theorem div_ext (V n c k : Nat) (h : c < 2 ^ n) : (V * 2 ^ n + c) / 2 ^ (n + k) = V / 2 ^ k := by
  rw [Nat.pow_add, ← Nat.div_div_eq_div_mul, Nat.add_comm, Nat.add_mul_div_right _ _ (Nat.two_pow_pos n), Nat.div_eq_of_lt h, Nat.zero_add]
theorem outTo_ext (V L q n c : Nat) (hq : 8 * q ≤ L) (h : c < 2 ^ n) : outTo (V * 2 ^ n + c) (L + n) q = outTo V L q := by
  unfold outTo
  refine List.map_congr_left fun i hi => ?_
  have hi' : i < q := by simpa using hi
  rw [show L + n - 8 * (i + 1) = n + (L - 8 * (i + 1)) by omega, div_ext _ _ _ _ h]
theorem mod_ext (V m n c : Nat) (h : c < 2 ^ n) : (V * 2 ^ n + c) % 2 ^ (m + n) = (V % 2 ^ m) * 2 ^ n + c := by
  have h1 : V = 2 ^ m * (V / 2 ^ m) + V % 2 ^ m := (Nat.div_add_mod V (2 ^ m)).symm
  have hm : V % 2 ^ m < 2 ^ m := Nat.mod_lt _ (Nat.two_pow_pos m)
  have hlt : (V % 2 ^ m) * 2 ^ n + c < 2 ^ (m + n) := by
    rw [Nat.pow_add]
    calc (V % 2 ^ m) * 2 ^ n + c < (V % 2 ^ m) * 2 ^ n + 2 ^ n := by omega
      _ = (V % 2 ^ m + 1) * 2 ^ n := by rw [Nat.add_mul, Nat.one_mul]
      _ ≤ 2 ^ m * 2 ^ n := Nat.mul_le_mul_right _ hm
  have e : V * 2 ^ n + c = ((V % 2 ^ m) * 2 ^ n + c) + 2 ^ (m + n) * (V / 2 ^ m) := by
    have : V * 2 ^ n = (2 ^ m * (V / 2 ^ m) + V % 2 ^ m) * 2 ^ n := by rw [← h1]
    rw [this, Nat.add_mul, Nat.pow_add]
    have : 2 ^ m * (V / 2 ^ m) * 2 ^ n = 2 ^ m * 2 ^ n * (V / 2 ^ m) := by rw [Nat.mul_assoc, Nat.mul_comm (V / 2 ^ m), ← Nat.mul_assoc]
    omega
  rw [e, Nat.add_mul_mod_self_left, Nat.mod_eq_of_lt hlt]
theorem div_mod_ext (V M k : Nat) (h : k + 8 ≤ M) : V % 2 ^ M / 2 ^ k % 256 = V / 2 ^ k % 256 := by
  have e : M = k + (M - k) := by omega
  rw [e, Nat.pow_add, Nat.mod_mul_right_div_self, show (256 : Nat) = 2 ^ 8 from rfl, Nat.mod_mod_of_dvd]
  exact Nat.pow_dvd_pow 2 (by omega)
theorem mod_mod_pow (V M k : Nat) (h : k ≤ M) : V % 2 ^ M % 2 ^ k = V % 2 ^ k := Nat.mod_mod_of_dvd _ (Nat.pow_dvd_pow 2 h)
/-- the last byte: what is left, and ones behind it -/
def lastOf (V r : Nat) : UInt8 := UInt8.ofNat (V % 2 ^ r * 2 ^ (8 - r) + (2 ^ (8 - r) - 1))
/-- the code of a text -/
def enc (l : List UInt8) : List UInt8 :=
  outTo (valN l) (bitsIn l) (bitsIn l / 8) ++ if bitsIn l % 8 = 0 then [] else [lastOf (valN l) (bitsIn l % 8)]
theorem enc_len (l : List UInt8) : (enc l).length = (bitsIn l + 7) / 8 := by
  unfold enc
  rw [List.length_append, outTo_len]
  split
  · simp; omega
  · simp; omega
/-- the bytes as cells -/
def bytesV (l : List UInt8) : List Value := l.map fun c => .int .u8 c.toNat
theorem bytesV_len (l : List UInt8) : (bytesV l).length = l.length := by simp [bytesV]
theorem bytesV_append (l r : List UInt8) : bytesV (l ++ r) = bytesV l ++ bytesV r := by simp [bytesV]
/-! ### The walk's spelling -/
theorem wrap_u64_nat (x : Nat) (h : x < 18446744073709551616) : IntKind.u64.wrap (x : Int) = (x : Int) := by rw [IntKind.wrap_u64]; omega
theorem wrap_u8_nat (x : Nat) : IntKind.u8.wrap (x : Int) = ((x % 256 : Nat) : Int) := by rw [IntKind.wrap_u8']; omega
theorem mul_or (x n c : Nat) (h : c < 2 ^ n) : x * 2 ^ n ||| c = x * 2 ^ n + c := by
  rw [Nat.mul_comm, Nat.two_pow_add_eq_or_of_lt h]
theorem or_step (hv n c : Nat) (h1 : hv < 128) (h2 : n ≤ 30) (h3 : c < 2 ^ n) :
    bits .or .u64 (IntKind.u64.wrap ((hv : Int) * 2 ^ n)) (c : Int) = ((hv * 2 ^ n + c : Nat) : Int) := by
  have hp : 2 ^ n ≤ 1073741824 := Nat.pow_le_pow_right (by decide) h2
  have hx : hv * 2 ^ n ≤ 128 * 1073741824 := Nat.mul_le_mul (by omega) hp
  have e : ((hv : Int) * 2 ^ n) = ((hv * 2 ^ n : Nat) : Int) := by simp
  rw [e, wrap_u64_nat _ (by omega), u64_or_nat _ _ (by omega) (by omega), mul_or _ _ _ h3]
theorem step_lt (hv m n c : Nat) (h1 : hv < 2 ^ m) (h3 : c < 2 ^ n) : hv * 2 ^ n + c < 2 ^ (m + n) := by
  rw [Nat.pow_add]
  calc hv * 2 ^ n + c < hv * 2 ^ n + 2 ^ n := by omega
    _ = (hv + 1) * 2 ^ n := by rw [Nat.add_mul, Nat.one_mul]
    _ ≤ 2 ^ m * 2 ^ n := Nat.mul_le_mul_right _ h1
theorem mask_step (x r : Nat) (hx : x < 18446744073709551616) (hr : r < 32) :
    bits .and .u64 (x : Int) (IntKind.u64.wrap (IntKind.u64.wrap ((2 : Int) ^ r) - 1)) = ((x % 2 ^ r : Nat) : Int) := by
  have hp : 2 ^ r ≤ 4294967296 := Nat.le_trans (Nat.pow_le_pow_right (by decide) (by omega : r ≤ 32)) (by decide)
  have h1 : 1 ≤ 2 ^ r := Nat.one_le_two_pow
  have e : ((2 : Int) ^ r) = ((2 ^ r : Nat) : Int) := by simp
  have e2 : ((2 ^ r : Nat) : Int) - 1 = ((2 ^ r - 1 : Nat) : Int) := by omega
  rw [e, wrap_u64_nat _ (by omega), e2, wrap_u64_nat _ (by omega), u64_and_nat _ _ hx (by omega), Nat.and_two_pow_sub_one_eq_mod]
theorem last_lt (hv m j : Nat) (hm : m + j = 8) (hh : hv < 2 ^ m) : hv * 2 ^ j + (2 ^ j - 1) < 256 := by
  have h1 : 1 ≤ 2 ^ j := Nat.one_le_two_pow
  have := step_lt hv m j (2 ^ j - 1) hh (by omega)
  rwa [hm] at this
theorem last_step (hv m j : Nat) (hm : m + j = 8) (hm1 : 0 < m) (hh : hv < 2 ^ m) :
    bits .or .u8 (IntKind.u8.wrap (IntKind.u64.wrap ((hv : Int) * 2 ^ min j 64))) (IntKind.u8.wrap (IntKind.u8.wrap ((2 : Int) ^ min j 8) - 1)) = ((hv * 2 ^ j + (2 ^ j - 1) : Nat) : Int) := by
  have h1 : 1 ≤ 2 ^ j := Nat.one_le_two_pow
  have hl := last_lt hv m j hm hh
  have hp : 2 ^ j ≤ 2 ^ 7 := Nat.pow_le_pow_right (by decide) (by omega)
  have e0 : min j 64 = j := by omega
  have e1 : min j 8 = j := by omega
  have e : ((hv : Int) * 2 ^ j) = ((hv * 2 ^ j : Nat) : Int) := by simp
  have e2 : ((2 : Int) ^ j) = ((2 ^ j : Nat) : Int) := by simp
  have e3 : ((2 ^ j : Nat) : Int) - 1 = ((2 ^ j - 1 : Nat) : Int) := by omega
  rw [e0, e1, e, e2, wrap_u64_nat _ (by omega), wrap_u8_nat, wrap_u8_nat, Nat.mod_eq_of_lt (by omega), Nat.mod_eq_of_lt (by omega), e3, wrap_u8_nat, Nat.mod_eq_of_lt (by omega), u8_or_nat _ _ (by omega) (by omega), mul_or _ _ _ (by omega)]
end Go.Proofs.YtflmgjidnclegaaDoor.Huff
/-
  The walk of huff.Encode: the codes of a text, packed.
-/
namespace Go.Proofs.YtflmgjidnclegaaDoor.Huff
open Go.RowKit
/-- append of one byte to a row of the call's own -/
theorem append_byte {ops : Array Oper} {rest : List Oper} {o : Oper} {a : Act} {Q : Exit → Act → World → Prop} (W : World) (b : Int) (hgd : o.guard = none) (s x : Operand)
    (ho : o.op = .call { callee := .builtin .append, args := #[s, x], argTypes := #[66, 66] }) (base n : Nat) (v : Value) (xs : List Value) (hs : a.eval s = v) (hown : W.ownsRow base 5 1 v n xs) (c : Nat)
    (hx : a.eval x = .slice (some ⟨W.heap.size, 0, none⟩) 1 c) (hn : n + 1 ≤ 140737488355328) (hbase : base ≤ W.heap.size)
    (h : ∀ v' w', w'.ownsRow base 5 1 v' (n + 1) (xs ++ [.int .u8 b]) → (W.alloc (.cells #[.int .u8 b] 5)).grownBy w' v.ownBlock → wpList Tryd.prog ops Q rest (a.put o.dst v') w') :
    wpList Tryd.prog ops Q (o :: rest) a (W.alloc (.cells #[.int .u8 b] 5)) := by
  obtain ⟨i, hi, hi0, hi1, hi2⟩ := info_parts (P := Tryd.prog) (e := 5) (z := .int .u8 0) (size := 1) (bytes := 1) (by kernel_rfl)
  refine wpList_append_own _ hgd s x 66 ho base 5 i (.int .u8 0) 1 1 Tryd.underlying66 hi hi0 hi1 hi2 rfl (by decide) v n xs hs (hown.alloc _) ⟨W.heap.size, 0, none⟩ 1 c [.int .u8 b] hx rfl (cell_one_new _ _ _) ?_ (by unfold maxLen; omega) (by omega) (by simp; omega) ?_
  · intro u hu
    simp only [List.mem_singleton] at hu
    subst hu
    rfl
  · intro v' w' h1 h2 _
    exact h v' w' h1 h2
theorem step_append_byte {ops : Array Oper} {o : Oper} {a : Act} {K : Act → World → Prop} {Q : Exit → Act → World → Prop} {E : Prop} (W : World) (b : Int) (g : Nat) (hg : W.heap[g]? = some (.cells #[.int .u8 b] 5 (0, 0))) (hgd : o.guard = none) (s x : Operand)
    (ho : o.op = .call { callee := .builtin .append, args := #[s, x], argTypes := #[66, 66] }) (base n : Nat) (v : Value) (xs : List Value) (hs : a.eval s = v) (hown : W.ownsRow base 5 1 v n xs) (c : Nat)
    (hx : a.eval x = .slice (some ⟨g, 0, none⟩) 1 c) (hn : n + 1 ≤ 140737488355328) (hbase : base ≤ W.heap.size)
    (h : ∀ v' w', w'.ownsRow base 5 1 v' (n + 1) (xs ++ [.int .u8 b]) → W.grownBy w' v.ownBlock → K (a.put o.dst v') w') :
    if Region.wanted o (yielded ops a.tmps) = true then Oper.wp Tryd.prog o a W K Q else E := by
  obtain ⟨i, hi, hi0, hi1, hi2⟩ := info_parts (P := Tryd.prog) (e := 5) (z := .int .u8 0) (size := 1) (bytes := 1) (by kernel_rfl)
  rw [if_pos (by simp [Region.wanted, hgd])]
  refine wp_append_own W s x 66 ho base 5 i (.int .u8 0) 1 1 Tryd.underlying66 hi hi0 hi1 hi2 rfl (by decide) v n xs hs hown ⟨g, 0, none⟩ 1 c [.int .u8 b] hx rfl ?_ ?_ (by unfold maxLen; omega) (by omega) hbase ?_
  · intro j u hu
    have : j = 0 ∧ u = .int .u8 b := by
      cases j with
      | zero => simpa [eq_comm] using hu
      | succ j => simp at hu
    obtain ⟨rfl, rfl⟩ := this
    exact cell_of_row W g 0 _ _ _ hg
  · intro u hu
    simp only [List.mem_singleton] at hu
    subst hu
    rfl
  · intro v' w' h1 h2 _
    exact h v' w' h1 h2
theorem own_ge {w : World} {base : Nat} {e : TypeId} {size n : Nat} {v : Value} {xs : List Value} (h : w.ownsRow base e size v n xs) : ∀ k, v.ownBlock = some k → base ≤ k := by
  intro k hk
  rcases h.2 with ⟨rfl, _⟩ | ⟨g, cap, cur, rfl, hg, _⟩
  · simp [Value.ownBlock] at hk
  · simp [Value.ownBlock] at hk
    omega
set_option maxRecDepth 100000 in
set_option maxHeartbeats 400000 in
theorem encode_any (s : ByteArray) (w : World) (hs : s.size ≤ 34359738368) :
    Calls Tryd.prog 76 #[.string s] w fun e w' => ∃ v, e = .returned v ∧ w'.ownsRow w.heap.size 5 1 v (enc s.data.toList).length (bytesV (enc s.data.toList)) ∧ Below w.heap.size w w' := by
  obtain ⟨E, hE⟩ : ∃ E, E = enc s.data.toList := ⟨_, rfl⟩
  rw [← hE]
  have HE := Lib.hid hE
  clear hE
  have hz := zero_tab
  generalize hT0 : tab (List.replicate 257 0) = T0 at hz
  have HT0 := Lib.hid hT0
  clear hT0
  have hmk : ∀ W : World, (Instr.makeSlice 66 (.int .i64 0) (.int .i64 (s.size : Int))).run Tryd.prog W = .ok (.slice (some ⟨W.heap.size, 0, none⟩) 0 s.size) (W.alloc (.cells (madeCells #[.int .u8 0] s.size) 5)) := by
    obtain ⟨i, hi, hi0, hi1, hi2⟩ := info_parts (P := Tryd.prog) (e := 5) (z := .int .u8 0) (size := 1) (bytes := 1) (by kernel_rfl)
    intro W
    have := run_make_rowN (P := Tryd.prog) 66 5 i (.int .u8 0) Tryd.underlying66 hi hi0 .i64 .i64 0 s.size (Nat.zero_le _) (by rw [hi2]; omega) (by omega) W
    rw [hi1, Nat.mul_one] at this
    exact this
  go_enter Tryd.func76, Tryd.ntmps76
  go_wp2_with fail
  refine (codes_any w).mono ?_
  rintro e w1 ⟨rfl, hb1⟩
  have hi44 := info_tab codeL codeL_len
  have hold : T0.size = (tab codeL).size := by rw [← HT0.out]; simp [tab_size, codeL_len]
  have hone : (tab codeL).all (·.oneCell') = true := Array.all_eq_true_iff_forall_mem.2 (fun v hv => one_cell _ v (by simpa using hv))
  go_wp2_with (refine wpList_store_row rfl 126 _ _ rfl w1.heap.size (tab codeL) rfl rfl 126 T0 (heap_alloc_new w1 _) hi44 hold hone ?_; rw [World.setRow_alloc_new])
  have hT0 : Blk ((w1.alloc (.cells (tab codeL) 126)).alloc (.cells (madeCells #[.int .u8 0] s.size) 5)) w1.heap.size 126 (tab codeL) := (Blk.new _ _ _).alloc _
  have hO0 : ((w1.alloc (.cells (tab codeL) 126)).alloc (.cells (madeCells #[.int .u8 0] s.size) 5)).ownsRow w.heap.size 5 1 (.slice (some ⟨w1.heap.size + 1, 0, none⟩) 0 s.size) 0 (bytesV (outTo 0 0 0)) :=
    ⟨rfl, Or.inr ⟨w1.heap.size + 1, s.size, madeCells #[.int .u8 0] s.size, rfl, by have := hb1.size; omega, by
      have := heap_alloc_new (w1.alloc (.cells (tab codeL) 126)) (.cells (madeCells #[.int .u8 0] s.size) 5)
      simpa using this, Nat.zero_le _, by unfold maxLen; omega, by simp [madeCells], by simp [bytesV, outTo]⟩⟩
  have hB0 : Below w.heap.size w ((w1.alloc (.cells (tab codeL) 126)).alloc (.cells (madeCells #[.int .u8 0] s.size) 5)) := (hb1.alloc hb1.size _).alloc (by have := hb1.size; simp; omega) _
  clear hmk hz hi44 hold hone HT0
  go_loopw [4, 5, 6, 16] (fun o h m i wr => ∃ (k : Nat), k ≤ s.size ∧ i = .int .i64 (k : Int) ∧ h = .int .u64 (valN (s.data.toList.take k) % 2 ^ (bitsIn (s.data.toList.take k) % 8) : Nat) ∧ m = .int .i64 (bitsIn (s.data.toList.take k) % 8 : Nat) ∧
      wr.ownsRow w.heap.size 5 1 o (bitsIn (s.data.toList.take k) / 8) (bytesV (outTo (valN (s.data.toList.take k)) (bitsIn (s.data.toList.take k)) (bitsIn (s.data.toList.take k) / 8))) ∧ Blk wr w1.heap.size 126 (tab codeL) ∧ Below w.heap.size w wr)
    (fun _ _ _ i _ => s.size - (intOf i).toNat)
  case atStart => exact ⟨0, Nat.zero_le _, rfl, rfl, rfl, by simpa [bitsIn, valN] using hO0, hT0, hB0⟩
  case round =>
    obtain ⟨k, hk, rfl, rfl, rfl, hO, hT, hB⟩ := hrel
    clear hO0 hT0 hB0
    by_cases hlt : k < s.size
    · have hv := valN_snoc (s.data.toList.take k) s[k]
      have hbi := bitsIn_snoc (s.data.toList.take k) s[k]
      rw [← take_snoc s k hlt] at hv hbi
      have hc : s[k].toNat < 257 := by have := s[k].toNat_lt; omega
      have hc8 : s[k].toNat < 256 := s[k].toNat_lt
      obtain ⟨hn5, hn30, hcode⟩ := bits_ok hc
      have hcell : wr.cell? ⟨w1.heap.size, s[k].toNat, none⟩ = some (.int .u32 (codeOf s[k].toNat : Nat)) := (hT.cell _).trans (tab_at _ _ (by rw [codeL_len]; exact hc))
      have hLk : bitsIn (s.data.toList.take k) ≤ 30 * k := Nat.le_trans (bitsIn_le _) (Nat.mul_le_mul_left _ (List.length_take_le _ _))
      generalize hV : valN (s.data.toList.take k) = V at *
      generalize hL : bitsIn (s.data.toList.take k) = L at *
      have HV := Lib.hid hv
      have HL := Lib.hid hbi
      have Hcode := Lib.hid hcode
      clear hv hbi hV hL hcode
      have hm0 : L % 8 < 8 := Nat.mod_lt _ (by decide)
      have hh : V % 2 ^ (L % 8) < 128 := Nat.lt_of_lt_of_le (Nat.mod_lt _ (Nat.two_pow_pos _)) (Nat.pow_le_pow_right (by decide) (by omega : L % 8 ≤ 7))
      generalize hm : L % 8 = m at *
      generalize hhv : V % 2 ^ m = hv at *
      have Hm := Lib.hid hm
      have Hh := Lib.hid hhv
      clear hm hhv
      have hbits := fun W => bits_yes s[k].toNat W hc
      have HBits := Lib.hid hbits
      clear hbits
      generalize bitsOf s[k].toNat = n at *
      have hcl : codeOf s[k].toNat < 1073741824 := Nat.lt_of_lt_of_le Hcode.out (Nat.pow_le_pow_right (by decide) hn30)
      generalize codeOf s[k].toNat = c at *
      have hmn : ((m : Int) + (n : Int)) ≤ 37 := by omega
      go_wp2_with fail
      refine (HBits.out _).mono ?_
      rintro e w' ⟨rfl, rfl⟩
      go_wp2_with fail
      go_quiet (fail)
      rw [or_step hv n c hh hn30 Hcode.out]
      have hx : hv * 2 ^ n + c = (V * 2 ^ n + c) % 2 ^ (m + n) := by rw [mod_ext _ _ _ _ Hcode.out, Hh.out]
      have hx37 : hv * 2 ^ n + c < 2 ^ (m + n) := by rw [hx]; exact Nat.mod_lt _ (Nat.two_pow_pos _)
      have hx64 : hv * 2 ^ n + c < 18446744073709551616 := Nat.lt_of_lt_of_le hx37 (Nat.pow_le_pow_right (by decide) (by omega : m + n ≤ 64))
      have HX := Lib.hid hx
      clear hx hx37
      generalize hv * 2 ^ n + c = x at *
      have hO' : (wr.drewN nq).ownsRow w.heap.size 5 1 u4 (L / 8) (bytesV (outTo (V * 2 ^ n + c) (L + n) (L / 8))) := by
        rw [outTo_ext V L (L / 8) n c (by omega) Hcode.out]
        exact hO
      have hT' : Blk (wr.drewN nq) w1.heap.size 126 (tab codeL) := hT
      have hB' : Below w.heap.size w (wr.drewN nq) := below_drewN hB nq
      clear hO hT hB hcell hh
      generalize wr.drewN nq = wo at *
      have hLm := Hm.out
      go_wp2_with fail
      go_loopw [4, 6] (fun o m' wi => ∃ q : Nat, L / 8 ≤ q ∧ 8 * q ≤ L + n ∧ m' = .int .i64 ((L + n - 8 * q : Nat) : Int) ∧ wi.ownsRow w.heap.size 5 1 o q (bytesV (outTo (V * 2 ^ n + c) (L + n) q)) ∧ Blk wi w1.heap.size 126 (tab codeL) ∧ Below w.heap.size w wi)
        (fun _ m' _ => (intOf m').toNat)
      case atStart => exact ⟨L / 8, Nat.le_refl _, by omega, by congr 1; omega, hO', hT', hB'⟩
      case round =>
        obtain ⟨q, hq0, hq1, rfl, hOq, hTq, hBq⟩ := hrel
        clear hO' hT' hB'
        by_cases hq : 8 ≤ L + n - 8 * q
        · have hmq : L + n - 8 * q ≤ 37 := by omega
          generalize hr : L + n - 8 * q = r at *
          have Hr := Lib.hid hr
          clear hr
          have hqn : q + 1 ≤ 140737488355328 := by have := Hr.out; omega
          go_wp2_with (at_builtin; refine append_byte _ _ rfl _ _ rfl _ _ _ _ rfl hOq _ rfl hqn hBq.size ?_; intro v1 w2 hO1 hg1)
          have hr := Hr.out
          have hxb : (x : Int) / 2 ^ (r - 8) % 256 = (((UInt8.ofNat ((V * 2 ^ n + c) / 2 ^ (L + n - 8 * (q + 1)) % 256)).toNat : Nat) : Int) := by
            have e1 : r - 8 = L + n - 8 * (q + 1) := by omega
            have e2 := div_mod_ext (V * 2 ^ n + c) (m + n) (r - 8) (by have := Hm.out; omega)
            rw [← HX.out] at e2
            rw [← e1, ← e2, UInt8.toNat_ofNat_of_lt' (Nat.mod_lt _ (by decide))]
            simp
          rw [hxb] at hO1
          have hO2 : w2.ownsRow w.heap.size 5 1 v1 (q + 1) (bytesV (outTo (V * 2 ^ n + c) (L + n) (q + 1))) := by
            rw [outTo_succ, bytesV_append]
            exact hO1
          have hT2 := (hTq.alloc (.cells #[.int .u8 ((x : Int) / 2 ^ (r - 8) % 256)] 5)).grown hg1 (Ne.symm (own_blk_ne hOq hTq (by decide)))
          have hB2 := (hBq.alloc hBq.size (.cells #[.int .u8 ((x : Int) / 2 ^ (r - 8) % 256)] 5)).grown hg1 (by have := hBq.size; simp; omega) (own_ge hOq)
          go_roundw
          case rel =>
            have e6 : Value.int .i64 ((r : Int) - 8) = Value.int .i64 ((L + n - 8 * (q + 1) : Nat) : Int) := by congr 1; omega
            exact ⟨q + 1, by omega, by omega, e6, hO2, hT2, hB2⟩
          case measure => simp [intOf]; omega
        · have eq1 : q = (L + n) / 8 := by omega
          have er : L + n - 8 * q = (L + n) % 8 := by omega
          subst eq1
          rw [er]
          clear er hq0 hq1 hq
          have hr8 : (L + n) % 8 < 8 := Nat.mod_lt _ (by decide)
          generalize hr : (L + n) % 8 = r at *
          have Hr := Lib.hid hr
          clear hr
          go_wp2_with fail
          go_roundw
          case rel =>
            rw [mask_step x r hx64 (by omega)]
            have hv2 : x % 2 ^ r = valN (s.data.toList.take (k + 1)) % 2 ^ (bitsIn (s.data.toList.take (k + 1)) % 8) := by
              rw [HV.out, HL.out, Hr.out, HX.out, mod_mod_pow]
              have := Hr.out; have := Hm.out; omega
            refine ⟨k + 1, by omega, by go_num, by rw [hv2], by rw [HL.out, Hr.out], ?_, hTq, hBq⟩
            rw [HV.out, HL.out]
            exact hOq
          case measure => simp [intOf]; omega
    · have ek : s.data.toList.take k = s.data.toList := List.take_of_length_le (by simp; omega)
      rw [ek] at hO ⊢
      have hLk : bitsIn s.data.toList ≤ 30 * s.size := by have := bitsIn_le s.data.toList; simpa using this
      have hE := HE.out
      have hEl := enc_len s.data.toList
      rw [← hE] at hEl
      unfold enc at hE
      have HE2 := Lib.hid hE
      have HEl := Lib.hid hEl
      clear hE hEl HE
      generalize valN s.data.toList = V at *
      generalize bitsIn s.data.toList = L at *
      have hm0 : L % 8 < 8 := Nat.mod_lt _ (by decide)
      by_cases hz : L % 8 = 0
      · have hEq := HE2.out
        rw [if_pos hz, List.append_nil] at hEq
        have hn : E.length = L / 8 := by rw [hEq, outTo_len]
        have hO2 : wr.ownsRow w.heap.size 5 1 u4 E.length (bytesV E) := by rw [hn, hEq]; exact hO
        clear hO hEq hn HE2 HEl hT
        rw [hz]
        go_wp2
        go_ret
        exact ⟨u4, rfl, hO2, hB⟩
      · have hm1 : 0 < L % 8 := by omega
        generalize hm : L % 8 = m at *
        have hh : V % 2 ^ m < 2 ^ m := Nat.mod_lt _ (Nat.two_pow_pos _)
        generalize hhv : V % 2 ^ m = hv at *
        have Hm := Lib.hid hm
        have Hh := Lib.hid hhv
        clear hm hhv hz
        go_wp2_with fail
        have hq47 : L / 8 + 1 ≤ 140737488355328 := by omega
        obtain ⟨j, hj⟩ : ∃ j : Nat, j = 8 - m := ⟨_, rfl⟩
        have hwj : IntKind.i64.wrap (8 - (m : Int)) = (j : Int) := by rw [IntWalk.i64_in _ (by omega)]; omega
        have Hj := Lib.hid hj
        clear hj
        have hown := hO
        have hBq := hB
        have hbs : ∀ o : Obj, w.heap.size ≤ ((wr.alloc o).drew).heap.size := fun o => by have := hBq.size; show _ ≤ (wr.heap.push o).size; simp; omega
        have hbs1 : w.heap.size ≤ wr.heap.size := hBq.size
        go_region_held3 (fun _ => True) (trivial) ((refine step_append_byte _ _ wr.heap.size (heap_alloc_new wr _) (by rfl) _ _ (by rfl) w.heap.size (L / 8) _ _ (by rfl) ((hown.alloc _).drew) 1 (by rfl) hq47 (hbs _) ?_; intro v1 w2 hO1 hg1))
        go_wp2
        go_ret
        rw [last_step hv m j (by have := Hj.out; omega) hm1 hh] at hO1
        rw [last_step hv m j (by have := Hj.out; omega) hm1 hh] at hg1
        have hlast : ((hv * 2 ^ j + (2 ^ j - 1) : Nat) : Int) = (((lastOf V m).toNat : Nat) : Int) := by
          unfold lastOf
          rw [Hh.out, ← Hj.out, UInt8.toNat_ofNat_of_lt' (last_lt hv m j (by have := Hj.out; omega) hh)]
        have hB2 := ((hBq.alloc hBq.size (.cells #[.int .u8 ((hv * 2 ^ j + (2 ^ j - 1) : Nat) : Int)] 5)).drew).grown hg1 (hbs _) (own_ge hown)
        refine ⟨v1, rfl, ?_, hB2⟩
        rw [hlast] at hO1
        have hEq := HE2.out
        rw [if_neg (by omega)] at hEq
        have hn : E.length = L / 8 + 1 := by rw [hEq, List.length_append, outTo_len]; simp
        rw [hn, hEq, bytesV_append]
        exact hO1
end Go.Proofs.YtflmgjidnclegaaDoor.Huff
/-
  No code begins another one's; the codes leave no room: plain numbers.
-/
namespace Go.Proofs.YtflmgjidnclegaaDoor.Huff
/-- the symbols by rising codes, and each symbol's place among them -/
def permL : List Nat := [48, 49, 50, 97, 99, 101, 105, 111, 115, 116, 32, 37, 45, 46, 47, 51, 52, 53, 54, 55, 56, 57, 61, 65, 95, 98, 100, 102, 103, 104, 108, 109, 110, 112, 114, 117, 58, 66, 67, 68, 69, 70, 71, 72, 73, 74, 75, 76, 77, 78, 79, 80, 81, 82, 83, 84, 85, 86, 87, 89, 106, 107, 113, 118, 119, 120, 121, 122, 38, 42, 44, 59, 88, 90, 33, 34, 40, 41, 63, 39, 43, 124, 35, 62, 0, 36, 64, 91, 93, 126, 94, 125, 60, 96, 123, 92, 195, 208, 128, 130, 131, 162, 184, 194, 224, 226, 153, 161, 167, 172, 176, 177, 179, 209, 216, 217, 227, 229, 230, 129, 132, 133, 134, 136, 146, 154, 156, 160, 163, 164, 169, 170, 173, 178, 181, 185, 186, 187, 189, 190, 196, 198, 228, 232, 233, 1, 135, 137, 138, 139, 140, 141, 143, 147, 149, 150, 151, 152, 155, 157, 158, 165, 166, 168, 174, 175, 180, 182, 183, 188, 191, 197, 231, 239, 9, 142, 144, 145, 148, 159, 171, 206, 215, 225, 236, 237, 199, 207, 234, 235, 192, 193, 200, 201, 202, 205, 210, 213, 218, 219, 238, 240, 242, 243, 255, 203, 204, 211, 212, 214, 221, 222, 223, 241, 244, 245, 246, 247, 248, 250, 251, 252, 253, 254, 2, 3, 4, 5, 6, 7, 8, 11, 12, 14, 15, 16, 17, 18, 19, 20, 21, 23, 24, 25, 26, 27, 28, 29, 30, 31, 127, 220, 249, 10, 13, 22, 256]
def placeL : List Nat := [84, 145, 224, 225, 226, 227, 228, 229, 230, 174, 253, 231, 232, 254, 233, 234, 235, 236, 237, 238, 239, 240, 255, 241, 242, 243, 244, 245, 246, 247, 248, 249, 10, 74, 75, 82, 85, 11, 68, 79, 76, 77, 69, 80, 70, 12, 13, 14, 0, 1, 2, 15, 16, 17, 18, 19, 20, 21, 36, 71, 92, 22, 83, 78, 86, 23, 37, 38, 39, 40, 41, 42, 43, 44, 45, 46, 47, 48, 49, 50, 51, 52, 53, 54, 55, 56, 57, 58, 72, 59, 73, 87, 95, 88, 90, 24, 93, 3, 25, 4, 26, 5, 27, 28, 29, 6, 60, 61, 30, 31, 32, 7, 33, 62, 34, 8, 9, 35, 63, 64, 65, 66, 67, 94, 81, 91, 89, 250, 98, 119, 99, 100, 120, 121, 122, 146, 123, 147, 148, 149, 150, 151, 175, 152, 176, 177, 124, 153, 178, 154, 155, 156, 157, 106, 125, 158, 126, 159, 160, 179, 127, 107, 101, 128, 129, 161, 162, 108, 163, 130, 131, 180, 109, 132, 164, 165, 110, 111, 133, 112, 166, 134, 167, 168, 102, 135, 136, 137, 169, 138, 139, 170, 190, 191, 103, 96, 140, 171, 141, 186, 192, 193, 194, 205, 206, 195, 181, 187, 97, 113, 196, 207, 208, 197, 209, 182, 114, 115, 198, 199, 251, 210, 211, 212, 104, 183, 105, 116, 142, 117, 118, 172, 143, 144, 188, 189, 184, 185, 200, 173, 201, 213, 202, 203, 214, 215, 216, 217, 218, 252, 219, 220, 221, 222, 223, 204, 256]
def permOf (i : Nat) : Nat := permL.getD i 0
def placeOf (n : Nat) : Nat := placeL.getD n 0
/-- where a code's room begins, and how much it is, of 2^30 -/
def startOf (n : Nat) : Nat := codeOf n * 2 ^ (30 - bitsOf n)
def roomOf (n : Nat) : Nat := 2 ^ (30 - bitsOf n)
theorem perm_check : ((List.range 256).all fun i => decide (startOf (permOf (i + 1)) = startOf (permOf i) + roomOf (permOf i))) = true := by decide +kernel
theorem place_check : ((List.range 257).all fun n => decide (permOf (placeOf n) = n ∧ placeOf n < 257)) = true := by decide +kernel
theorem perm_succ {i : Nat} (h : i < 256) : startOf (permOf (i + 1)) = startOf (permOf i) + roomOf (permOf i) := by
  exact of_decide_eq_true (List.all_eq_true.1 perm_check i (List.mem_range.2 h))
theorem place_ok {n : Nat} (h : n < 257) : permOf (placeOf n) = n ∧ placeOf n < 257 := of_decide_eq_true (List.all_eq_true.1 place_check n (List.mem_range.2 h))
theorem start_mono (i d : Nat) (h : i + d < 256) : startOf (permOf i) + roomOf (permOf i) ≤ startOf (permOf (i + d + 1)) := by
  induction d with
  | zero => rw [Nat.add_zero, perm_succ (by omega)]; exact Nat.le_refl _
  | succ d ih =>
    have := ih (by omega)
    rw [← Nat.add_assoc, perm_succ (by omega : i + d + 1 < 256)]
    omega
theorem start_apart {a b : Nat} (ha : a < 257) (hb : b < 257) (hne : a ≠ b) : startOf a + roomOf a ≤ startOf b ∨ startOf b + roomOf b ≤ startOf a := by
  obtain ⟨ea, la⟩ := place_ok ha
  obtain ⟨eb, lb⟩ := place_ok hb
  have hp : placeOf a ≠ placeOf b := fun e => hne (by rw [← ea, ← eb, e])
  rcases Nat.lt_or_gt_of_ne hp with h | h
  · left
    have := start_mono (placeOf a) (placeOf b - placeOf a - 1) (by omega)
    rw [show placeOf a + (placeOf b - placeOf a - 1) + 1 = placeOf b by omega, ea, eb] at this
    exact this
  · right
    have := start_mono (placeOf b) (placeOf a - placeOf b - 1) (by omega)
    rw [show placeOf b + (placeOf a - placeOf b - 1) + 1 = placeOf a by omega, ea, eb] at this
    exact this
/-- no code begins another one's -/
theorem apart {a b : Nat} (ha : a < 257) (hb : b < 257) (hne : a ≠ b) (hn : bitsOf a ≤ bitsOf b) : codeOf b / 2 ^ (bitsOf b - bitsOf a) ≠ codeOf a := by
  intro e
  obtain ⟨_, a30, _⟩ := bits_ok ha
  obtain ⟨_, b30, _⟩ := bits_ok hb
  have hd := Nat.div_add_mod (codeOf b) (2 ^ (bitsOf b - bitsOf a))
  have hm : codeOf b % 2 ^ (bitsOf b - bitsOf a) < 2 ^ (bitsOf b - bitsOf a) := Nat.mod_lt _ (Nat.two_pow_pos _)
  rw [e] at hd
  have e1 : 2 ^ (30 - bitsOf a) = 2 ^ (bitsOf b - bitsOf a) * 2 ^ (30 - bitsOf b) := by rw [← Nat.pow_add]; congr 1; omega
  have hlow : startOf a ≤ startOf b := by
    unfold startOf
    rw [e1, ← Nat.mul_assoc]
    refine Nat.mul_le_mul_right _ ?_
    rw [← hd, Nat.mul_comm]
    exact Nat.le_add_right _ _
  have hup : startOf b < startOf a + roomOf a := by
    unfold startOf roomOf
    rw [e1, ← Nat.mul_assoc, ← Nat.add_mul]
    refine Nat.mul_lt_mul_of_pos_right ?_ (Nat.two_pow_pos _)
    rw [← hd, Nat.mul_comm (2 ^ (bitsOf b - bitsOf a))]
    omega
  rcases start_apart ha hb hne with h | h
  · omega
  · have : 0 < roomOf b := Nat.two_pow_pos _
    omega
theorem distinct {a b : Nat} (ha : a < 257) (hb : b < 257) (hn : bitsOf a = bitsOf b) (hc : codeOf a = codeOf b) : a = b := by
  by_cases hne : a = b
  · exact hne
  · exact absurd (by rw [hn, Nat.sub_self, Nat.pow_zero, Nat.div_one, hc]) (apart ha hb hne (by omega))
/-- the rooms make up all -/
theorem room_sum : (((List.range 257).map roomOf).sum) = 1073741824 := by decide +kernel
end Go.Proofs.YtflmgjidnclegaaDoor.Huff
