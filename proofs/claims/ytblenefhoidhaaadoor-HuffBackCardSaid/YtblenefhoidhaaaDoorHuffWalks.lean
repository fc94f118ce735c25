/-
  The walks of package huff: sizes, Bits, codes, Code, Size.
-/
import Derived.Test.YtblenefhoidhaaaDoorKit
import Derived.Test.YtblenefhoidhaaaDoorHuffSpec
import Derived.Deep.WholeRow
namespace Go.Proofs.YtblenefhoidhaaaDoor.Huff
open Go.RowKit

/-- the letters -/
def lettersL : List UInt8 := bitsL.map fun n => UInt8.ofNat (n + 60)
def lettersS : ByteArray := ⟨lettersL.toArray⟩
theorem letters_len : lettersL.length = 257 := by simp [lettersL, bitsL_len]
theorem letters_size : lettersS.size = 257 := by
  show lettersL.toArray.size = 257
  simp [letters_len]
theorem letters_check : ((List.range 257).all fun n => decide (((lettersL.getD n 0).toNat : Nat) = bitsOf n + 60)) = true := by decide +kernel
theorem letters_at (n : Nat) (h : n < lettersS.size) : lettersS[n].toNat = bitsOf n + 60 := by
  have h' : n < 257 := by rw [← letters_size]; exact h
  have hl : n < lettersL.length := by rw [letters_len]; exact h'
  have hm : n ∈ List.range 257 := List.mem_range.2 h'
  have hd := of_decide_eq_true (List.all_eq_true.1 letters_check n hm)
  have hg : lettersS[n] = lettersL.getD n 0 := by
    show lettersL.toArray[n]'hl = _
    rw [List.getElem_toArray, List.getD, List.getElem?_eq_getElem hl]
    rfl
  exact (congrArg UInt8.toNat hg).trans hd

set_option maxRecDepth 100000 in
set_option maxHeartbeats 400000 in
theorem sizes_any (w : World) : Calls Tryd.prog 19 #[] w fun e w' => e = .returned (.string lettersS) ∧ w = w' := by
  go_enter Tryd.func19, Tryd.ntmps19
  go_wp2
  go_ret
  exact ⟨congrArg (fun l => Ending.returned (Value.string ⟨l⟩)) (by decide +kernel), rfl⟩

set_option maxHeartbeats 400000 in
theorem bits_yes (n : Nat) (w : World) (h : n < 257) :
    Calls Tryd.prog 9 #[.int .i64 n] w fun e w' => e = .returned (.tuple #[.int .i64 (bitsOf n), .bool true]) ∧ w = w' := by
  have hs : n < lettersS.size := by rw [letters_size]; exact h
  have hat := letters_at n hs
  have hb := bits_ok h
  have HS := Lib.hid (sizes_any w)
  generalize lettersS = S at *
  have hc0 : 65 ≤ (S[n].toNat : Int) := by omega
  have hc1 : (S[n].toNat : Int) ≤ 90 := by omega
  have Hat := Lib.hid hat
  clear hat hb
  go_enter Tryd.func9, Tryd.ntmps9
  go_wp2_with (go_at_call 19; refine HS.out.mono ?_; rintro e w' ⟨rfl, rfl⟩)
  go_ret2
  have e : (S[n].toNat : Int) - 65 + 5 = (bitsOf n : Int) := by have := Hat.out; omega
  exact ⟨congrArg (fun x => Ending.returned (.tuple #[.int .i64 x, .bool true])) e, rfl⟩
set_option maxHeartbeats 400000 in
theorem bits_no (n : Int) (w : World) (h : n < 0 ∨ 257 ≤ n) :
    Calls Tryd.prog 9 #[.int .i64 n] w fun e w' => e = .returned (.tuple #[.int .i64 0, .bool false]) ∧ w = w' := by
  rcases h with h | h
  · go_enter Tryd.func9, Tryd.ntmps9
    go_wp2
    go_ret2
    exact ⟨rfl, rfl⟩
  · have h2 : 0 ≤ n := by omega
    go_enter Tryd.func9, Tryd.ntmps9
    go_wp2
    go_ret2
    exact ⟨rfl, rfl⟩
/-- the codes as cells -/
def tab (l : List Nat) : Array Value := (l.map fun n : Nat => Value.int .u32 n).toArray
theorem tab_size (l : List Nat) : (tab l).size = l.length := by simp [tab]
theorem tab_set (l : List Nat) (i n : Nat) : (tab l).setIfInBounds i (.int .u32 n) = tab (l.set i n) := by
  apply Array.ext'
  simp [tab, List.map_set]
theorem tab_at (l : List Nat) (i : Nat) (h : i < l.length) : (tab l)[i]? = some (.int .u32 (l.getD i 0 : Nat)) := by
  simp [tab, List.getElem?_eq_getElem h, List.getD]
theorem zero_tab (w : World) : (zeroValue 44).run Tryd.prog w = .ok (.agg (tab (List.replicate 257 0))) w := by kernel_rfl
theorem one_cell (l : List Nat) : ∀ v ∈ (tab l).toList, v.oneCell' = true := by
  intro v hv
  simp only [tab, List.mem_map] at hv
  obtain ⟨n, _, rfl⟩ := hv
  rfl
theorem info_tab (l : List Nat) (h : l.length = 257) : (Tryd.prog.info? 44).map (·.size) = some (tab l).size := by
  rw [tab_size, h]
  kernel_rfl
set_option maxRecDepth 100000 in
set_option maxHeartbeats 400000 in
theorem codes_any (w : World) :
    Calls Tryd.prog 20 #[] w fun e w' => e = .returned (.agg (tab codeL)) ∧ Below w.heap.size w w' := by
  have hz := zero_tab
  generalize hT0 : tab (List.replicate 257 0) = T0 at hz
  have HT0 := Lib.hid hT0
  clear hT0
  go_enter Tryd.func20, Tryd.ntmps20
  go_wp2
  have hR0 : Blk ((w.alloc (.cells T0 44)).alloc (.cells T0 44)) w.heap.size 44 T0 := (Blk.new _ _ _).alloc _
  have hL0 : Blk ((w.alloc (.cells T0 44)).alloc (.cells T0 44)) (w.heap.size + 1) 44 (tab (outerC 0).1) := by
    rw [show tab (outerC 0).1 = T0 from HT0.out]
    simpa using (Blk.new (w.alloc (.cells T0 44)) 44 T0)
  have hB0 : Below w.heap.size w ((w.alloc (.cells T0 44)).alloc (.cells T0 44)) := ((Below.refl _ _).alloc (Nat.le_refl _) _).alloc (by simp) _
  clear hz
  go_loopw [2, 3] (fun nx i wr => ∃ j : Nat, j ≤ 30 ∧ i = .int .i64 ((j : Int) + 1) ∧ nx = .int .u32 ((outerC j).2 : Nat) ∧ Blk wr w.heap.size 44 T0 ∧ Blk wr (w.heap.size + 1) 44 (tab (outerC j).1) ∧ Below w.heap.size w wr) (fun _ i _ => 31 - (intOf i).toNat)
  case atStart => exact ⟨0, by omega, by go_num, rfl, hR0, hL0, hB0⟩
  case round =>
    obtain ⟨j, hj, rfl, rfl, hR, hL, hB⟩ := hrel
    clear hR0 hL0 hB0
    have hle := outer_le hj
    have hlen := outer_len j
    by_cases hlt : j < 30
    · obtain ⟨acc0, hacc0⟩ : ∃ a : List Nat × Nat, a = ((outerC j).1, (outerC j).2 * 2) := ⟨_, rfl⟩
      have hnext : outerC (j + 1) = innerC (j + 1) acc0 257 := by rw [hacc0]; exact outer_succ j
      have hil : ∀ k, k ≤ 257 → (innerC (j + 1) acc0 k).2 ≤ 1073741824 := fun k hk => by rw [hacc0]; exact inner_le hlt hk
      have hll : ∀ k, (innerC (j + 1) acc0 k).1.length = 257 := fun k => by rw [inner_len, hacc0]; exact hlen
      have e2 : ((innerC (j + 1) acc0 0).2 : Int) = ((outerC j).2 : Int) * 2 := by rw [inner_zero, hacc0]; simp
      have hL1 : Blk wr (w.heap.size + 1) 44 (tab (innerC (j + 1) acc0 0).1) := by rw [inner_zero, hacc0]; exact hL
      have Hnext := Lib.hid hnext
      have Hil := Lib.hid hil
      have Hll := Lib.hid hll
      have E2 := Lib.hid e2
      clear hacc0 hnext hil hll e2 hL hlen
      generalize (outerC j).2 = n0 at *
      have hd8 : decide ((j : Int) + 1 ≤ 30) = true := by simp; omega
      go_wp2
      clear hj
      obtain ⟨wo, rfl⟩ : ∃ wo : World, wo = wr := ⟨_, rfl⟩
      go_loopw [2, 13] (fun nx i wi => ∃ k : Nat, k ≤ 257 ∧ i = .int .i64 (k : Int) ∧ nx = .int .u32 ((innerC (j + 1) acc0 k).2 : Nat) ∧ Blk wi w.heap.size 44 T0 ∧ Blk wi (w.heap.size + 1) 44 (tab (innerC (j + 1) acc0 k).1) ∧ Below w.heap.size w wi) (fun _ i _ => 257 - (intOf i).toNat)
      case atStart => exact ⟨0, by omega, rfl, by rw [E2.out], hR, hL1, hB⟩
      case round =>
        obtain ⟨k, hk, rfl, rfl, hRk, hLk, hBk⟩ := hrel
        clear hR hL1 hB
        have hn := Hil.out k hk
        have hlenk := Hll.out k
        by_cases hkl : k < 257
        · have hb := bits_ok hkl
          have hsucc := inner_succ (j + 1) acc0 k
          by_cases hbk : bitsOf k = j + 1
          · have hst : stepC (j + 1) (innerC (j + 1) acc0 k) k = ((innerC (j + 1) acc0 k).1.set k (innerC (j + 1) acc0 k).2, (innerC (j + 1) acc0 k).2 + 1) := by unfold stepC; rw [if_pos hbk]
            rw [hst] at hsucc
            have HS := Lib.hid hsucc
            clear hsucc hst
            have hcell : wr.cell? ⟨w.heap.size + 1, k, none⟩ = some (.int .u32 ((innerC (j + 1) acc0 k).1.getD k 0 : Nat)) := (hLk.cell k).trans (tab_at _ _ (by rw [hlenk]; exact hkl))
            have hfr : wr.frozen? ⟨w.heap.size + 1, k, none⟩ = false := hLk.frozen k
            generalize innerC (j + 1) acc0 k = ik at *
            have htest : ((bitsOf k : Int) == (j : Int) + 1) = true := beq_iff_eq.2 (by omega)
            clear hbk hlenk
            go_wp2_with (go_at_call 9; refine (bits_yes k _ hkl).mono ?_; rintro e w' ⟨rfl, rfl⟩)
            go_roundw
            case rel =>
              have r1 := hRk.far (p := ⟨w.heap.size + 1, k, none⟩) (by simp) (.int .u32 (ik.2 : Nat))
              have r2 : Blk (wr.setCell ⟨w.heap.size + 1, k, none⟩ (.int .u32 (ik.2 : Nat))) (w.heap.size + 1) 44 (tab (innerC (j + 1) acc0 (k + 1)).1) := by
                rw [HS.out]
                have := hLk.set_ k (.int .u32 (ik.2 : Nat))
                rwa [tab_set] at this
              have r3 := hBk.setCell (p := ⟨w.heap.size + 1, k, none⟩) (by simp) (.int .u32 (ik.2 : Nat))
              have r4 : Value.int .u32 ((ik.2 : Int) + 1) = Value.int .u32 ((innerC (j + 1) acc0 (k + 1)).2 : Nat) := by rw [HS.out]; simp
              first
                | exact ⟨k + 1, by omega, by go_num, r4, r1, r2, r3⟩
                | ((repeat apply Exists.intro); exact ⟨⟨k + 1, by omega, by go_num, r4, r1, r2, r3⟩, rfl⟩)
            case measure => simp [intOf]; omega
          · have hst : stepC (j + 1) (innerC (j + 1) acc0 k) k = innerC (j + 1) acc0 k := by unfold stepC; rw [if_neg hbk]
            rw [hst] at hsucc
            have HS := Lib.hid hsucc
            clear hsucc hst
            have htest : ((bitsOf k : Int) == (j : Int) + 1) = false := beq_eq_false_iff_ne.2 (by omega)
            clear hlenk
            generalize innerC (j + 1) acc0 k = ik at *
            go_wp2_with (go_at_call 9; refine (bits_yes k _ hkl).mono ?_; rintro e w' ⟨rfl, rfl⟩)
            go_roundw
            case rel =>
              exact ⟨k + 1, by omega, by go_num, by rw [HS.out], hRk, by rw [HS.out]; exact hLk, hBk⟩
            case measure => simp [intOf]; omega
        · have e : k = 257 := by omega
          subst e
          have E := Lib.hid Hnext.out.symm
          have hLk' : Blk wr (w.heap.size + 1) 44 (tab (outerC (j + 1)).1) := by rw [← E.out]; exact hLk
          have e3 : ((innerC (j + 1) acc0 257).2 : Nat) = (outerC (j + 1)).2 := by rw [E.out]
          rw [e3]
          clear e3 hLk hlenk hn
          go_wp2
          go_roundw
          case rel => exact ⟨j + 1, by omega, by go_num, rfl, hRk, hLk', hBk⟩
          case measure => simp [intOf]; omega
    · have e : j = 30 := by omega
      subst e
      have hL' : Blk wr (w.heap.size + 1) 44 (tab codeL) := by have := hL; rw [outer_codes] at this; exact this
      clear hL hlen hle
      generalize (outerC 30).2 = n0
      have hlr : w.heap.size + 1 ≠ w.heap.size := by omega
      have hlast : ∀ (R : Ending → World → Prop) (a : Act), R (.returned (.agg (tab codeL))) (wr.setRow w.heap.size (tab codeL)) → a.tmps.getD 0 undef = .pointer (some ⟨w.heap.size, 0, none⟩) → a.defers = [] →
          bodyPost Tryd.prog Tryd.f20 R .ret a (wr.setRow w.heap.size (tab codeL)) := fun R a hr h0 hd =>
        bodyPost_ret (results_cell_row (P := Tryd.prog) rfl _ _ w.heap.size 44 (tab codeL) (0, 0) _ h0 (setRow_heap _ _ _ _ _ _ hR) Tryd.underlying44 rfl (info_tab _ codeL_len)) hd hr
      have HL := Lib.hid hlast
      have hi44 := info_tab codeL codeL_len
      have hold : T0.size = (tab codeL).size := by rw [← HT0.out]; simp [tab_size, codeL_len]
      have hone : (tab codeL).all (·.oneCell') = true := Array.all_eq_true_iff_forall_mem.2 (fun v hv => one_cell _ v (by simpa using hv))
      clear hlast
      go_wp2_with (first
        | (refine wpList_load_row rfl 44 _ rfl (w.heap.size + 1) rfl 44 (tab codeL) (0, 0) _ hL' Tryd.underlying44 rfl (info_tab _ codeL_len) ?_)
        | (refine wpList_store_row rfl 44 _ _ rfl w.heap.size (tab codeL) rfl rfl 44 T0 hR hi44 hold hone ?_))
      refine HL.out _ _ ?_ rfl rfl
      exact ⟨rfl, hB.trans ⟨rfl, rfl, rfl, by simp, fun k hk => setRow_other _ _ _ _ (by omega)⟩⟩

/-- one element of an array of integers held by value -/
theorem run_index_tab {P : Program} {w : World} (t e : TypeId) (j : TypeInfo) (kd ki : IntKind) (n m : Nat) (cs : Array Value) (v : Value) (ht : P.underlying t = some (.array m e)) (he : P.underlying e = some (.int kd)) (hi : P.info? e = some j) (hs : j.size = 1)
    (hn : n < m) (hv : cs[n]? = some v) : (Instr.index t (.agg cs) (.int ki (n : Int))).run P w = .ok v w := by
  have h : 0 ≤ (n : Int) ∧ (n : Int) < (m : Int) := by omega
  have hagg : (isAgg e).run P w = .ok false w := by
    unfold isAgg
    rw [Sem.run_bind, run_underlying he w]
    simp
  simp [Instr.index, run_underlying ht, asIntOf, h, sizeOf, typeInfo, hi, hs, part, hagg, hv, hn, go_sem]
theorem index_tab {w : World} (l : List Nat) (n : Nat) (hl : l.length = 257) (h : n < 257) : (Instr.index 44 (.agg (tab l)) (.int .i64 (n : Int))).run Tryd.prog w = .ok (.int .u32 (l.getD n 0 : Nat)) w := by
  obtain ⟨j, hj, hj0⟩ : ∃ j, Tryd.prog.info? 25 = some j ∧ j.size = 1 := by
    have : (Tryd.prog.info? 25).map (·.size) = some 1 := by kernel_rfl
    simpa [Option.map_eq_some_iff] using this
  exact run_index_tab _ _ j _ _ n 257 _ _ Tryd.underlying44 Tryd.underlying25 hj hj0 h (tab_at l n (by omega))
set_option maxHeartbeats 400000 in
theorem code_yes (n : Nat) (w : World) (h : n < 257) :
    Calls Tryd.prog 10 #[.int .i64 n] w fun e w' => e = .returned (.tuple #[.int .u32 (codeOf n : Nat), .bool true]) ∧ Below w.heap.size w w' := by
  have hx := fun W : World => index_tab (w := W) codeL n codeL_len h
  have HC := Lib.hid (codes_any w)
  generalize tab codeL = T at *
  have hcd : codeL.getD n 0 = codeOf n := rfl
  rw [hcd] at hx
  clear hcd
  go_enter Tryd.func10, Tryd.ntmps10
  go_wp2_with fail
  refine HC.out.mono ?_
  rintro e w1 ⟨rfl, hb⟩
  go_wp2
  go_ret2
  exact ⟨rfl, hb⟩
set_option maxHeartbeats 400000 in
theorem code_no (n : Int) (w : World) (h : n < 0 ∨ 257 ≤ n) :
    Calls Tryd.prog 10 #[.int .i64 n] w fun e w' => e = .returned (.tuple #[.int .u32 0, .bool false]) ∧ w = w' := by
  rcases h with h | h
  · go_enter Tryd.func10, Tryd.ntmps10
    go_wp2
    go_ret2
    exact ⟨rfl, rfl⟩
  · have h2 : 0 ≤ n := by omega
    go_enter Tryd.func10, Tryd.ntmps10
    go_wp2
    go_ret2
    exact ⟨rfl, rfl⟩
/-- the bits of a text, in all -/
def bitsIn (l : List UInt8) : Nat := (l.map fun c => bitsOf c.toNat).sum
theorem bitsIn_snoc (l : List UInt8) (c : UInt8) : bitsIn (l ++ [c]) = bitsIn l + bitsOf c.toNat := by simp [bitsIn]
theorem bitsIn_le (l : List UInt8) : bitsIn l ≤ 30 * l.length := by
  induction l with
  | nil => simp [bitsIn]
  | cons c l ih =>
    have h : bitsOf c.toNat ≤ 30 := (bits_ok (by have := c.toNat_lt; omega)).2.1
    have : bitsIn (c :: l) = bitsOf c.toNat + bitsIn l := by simp [bitsIn]
    rw [this, List.length_cons]; omega
theorem take_snoc (s : ByteArray) (k : Nat) (h : k < s.size) : s.data.toList.take (k + 1) = s.data.toList.take k ++ [s[k]] := by
  rw [List.take_succ_eq_append_getElem (by simpa using h)]; rfl
set_option maxHeartbeats 400000 in
theorem size_any (s : ByteArray) (w : World) (hs : s.size ≤ 140737488355328) :
    Calls Tryd.prog 16 #[.string s] w fun e w' => e = .returned (.int .i64 ((bitsIn s.data.toList + 7) / 8 : Nat)) ∧ w = w' := by
  have hm : s.size ≤ maxLen := by unfold maxLen; omega
  go_enter Tryd.func16, Tryd.ntmps16
  go_wp2
  go_loop [3, 9] (fun b i => ∃ k : Nat, k ≤ s.size ∧ i = .int .i64 (k : Int) ∧ b = .int .i64 (bitsIn (s.data.toList.take k) : Nat)) (fun _ i => s.size - (intOf i).toNat)
  case atStart => exact ⟨0, Nat.zero_le _, rfl, rfl⟩
  case round =>
    obtain ⟨k, hk, rfl, rfl⟩ := hrel
    have hb := bitsIn_le (s.data.toList.take k)
    have hl : (s.data.toList.take k).length ≤ k := List.length_take_le _ _
    by_cases hlt : k < s.size
    · have hsn : bitsIn (s.data.toList.take (k + 1)) = bitsIn (s.data.toList.take k) + bitsOf s[k].toNat := by rw [take_snoc s k hlt, bitsIn_snoc]
      have HS := Lib.hid hsn
      clear hsn
      have hc : s[k].toNat < 257 := by have := s[k].toNat_lt; omega
      have hbb := bits_ok hc
      have hb1 : bitsOf s[k].toNat ≤ 30 := hbb.2.1
      clear hbb
      go_wp2_with (go_at_call 9; refine (bits_yes s[k].toNat _ hc).mono ?_; rintro e w' ⟨rfl, rfl⟩)
      go_round
      case rel => exact ⟨k + 1, by omega, by go_num, by rw [HS.out]; go_num⟩
      case measure => simp [intOf]; omega
    · have e : s.data.toList.take k = s.data.toList := List.take_of_length_le (by simp; omega)
      rw [e] at hb ⊢
      have hz : s.data.toList.length ≤ s.size := by simp
      go_wp2
      go_ret
      exact ⟨ret_int (by omega), rfl⟩
end Go.Proofs.YtblenefhoidhaaaDoor.Huff
