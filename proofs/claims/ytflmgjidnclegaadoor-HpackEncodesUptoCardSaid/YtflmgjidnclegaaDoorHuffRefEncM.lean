/-
  The document's Huffman code: the codes of all symbols, the size and the code of a text.
-/
import Derived.Test.YtflmgjidnclegaaDoorHuffRefM
namespace Go.Proofs.YtflmgjidnclegaaDoor.Huff
open Go.RowKit
theorem outer_four1 : (outerC 4).1 = List.replicate 257 0 := by decide +kernel
theorem made_tab (n : Nat) : madeCells (Value.int .u32 0).cells n = tab (List.replicate n 0) := by
  show madeCells #[.int .u32 0] n = _
  simp only [madeCells, tab, List.map_replicate]
  apply Array.ext
  · simp
  · intro i h1 h2
    simp [Nat.mod_one]
set_option maxRecDepth 100000 in
set_option maxHeartbeats 1000000 in
theorem rcodes_any (w : World) :
    Calls Tryd.prog 105 #[] w fun e w' => e = .returned (.slice (some ⟨w.heap.size, 0, none⟩) 257 257) ∧ Blk w' w.heap.size 125 (tab codeL) ∧ Below w.heap.size w w' := by
  have hmk : ∀ W : World, (Instr.makeSlice 134 (.int .i64 257) (.int .i64 257)).run Tryd.prog W = .ok (.slice (some ⟨W.heap.size, 0, none⟩) 257 257) (W.alloc (.cells (tab (outerC 4).1) 125)) := by
    obtain ⟨i, hi, hi0, hi1, hi2⟩ := info_parts (P := Tryd.prog) (e := 125) (z := .int .u32 0) (size := 1) (bytes := 4) (by kernel_rfl)
    intro W
    have := run_make_rowN (P := Tryd.prog) 134 125 i (.int .u32 0) Tryd.underlying134 hi hi0 .i64 .i64 257 257 (Nat.le_refl _) (by rw [hi2]; omega) (by omega) W
    rw [hi1, Nat.mul_one, made_tab] at this
    rw [outer_four1]
    exact this
  have hlet : ∀ k, (h : k < lettersR.size) → lettersR[k].toNat = bitsOf k + 92 := lettersR_at
  have hlz := lettersR_size
  have HLn := fun W : World => Lib.hid (lengths_any W)
  have Hlet := Lib.hid hlet
  have h40 := outer_four
  have h4l := outer_len 4
  clear hlet
  generalize lettersR = S at *
  go_enter Tryd.func105, Tryd.ntmps105
  go_wp2_with (go_at_call 104; refine (HLn _).out.mono ?_; rintro e w' ⟨rfl, rfl⟩)
  have hL0 : Blk (w.alloc (.cells (tab (outerC 4).1) 125)) w.heap.size 125 (tab (outerC 4).1) := Blk.new _ _ _
  have hB0 : Below w.heap.size w (w.alloc (.cells (tab (outerC 4).1) 125)) := (Below.refl _ _).alloc (Nat.le_refl _) _
  clear hmk
  go_loopw [3, 4] (fun nx i wr => ∃ j : Nat, 4 ≤ j ∧ j ≤ 30 ∧ i = .int .i64 ((j : Int) + 1) ∧ nx = .int .u32 ((outerC j).2 : Nat) ∧ Blk wr w.heap.size 125 (tab (outerC j).1) ∧ Below w.heap.size w wr) (fun _ i _ => 31 - (intOf i).toNat)
  case atStart => exact ⟨4, by omega, by omega, by go_num, by rw [h40]; go_num, hL0, hB0⟩
  case round =>
    obtain ⟨j, hj4, hj, rfl, rfl, hL, hB⟩ := hrel
    clear hL0 hB0
    have hle := outer_le hj
    have hlen := outer_len j
    by_cases hlt : j < 30
    · obtain ⟨acc0, hacc0⟩ : ∃ a : List Nat × Nat, a = ((outerC j).1, (outerC j).2 * 2) := ⟨_, rfl⟩
      have hnext : outerC (j + 1) = innerC (j + 1) acc0 257 := by rw [hacc0]; exact outer_succ j
      have hil : ∀ k, k ≤ 257 → (innerC (j + 1) acc0 k).2 ≤ 1073741824 := fun k hk => by rw [hacc0]; exact inner_le hlt hk
      have hll : ∀ k, (innerC (j + 1) acc0 k).1.length = 257 := fun k => by rw [inner_len, hacc0]; exact hlen
      have e2 : ((innerC (j + 1) acc0 0).2 : Int) = ((outerC j).2 : Int) * 2 := by rw [inner_zero, hacc0]; simp
      have hL1 : Blk wr w.heap.size 125 (tab (innerC (j + 1) acc0 0).1) := by rw [inner_zero, hacc0]; exact hL
      have Hnext := Lib.hid hnext
      have Hil := Lib.hid hil
      have Hll := Lib.hid hll
      have E2 := Lib.hid e2
      clear hacc0 hnext hil hll e2 hL hlen
      generalize (outerC j).2 = n0 at *
      have hd8 : decide ((j : Int) + 1 ≤ 30) = true := by simp; omega
      go_wp2
      clear hj
      go_loopw [3, 5] (fun nx i wi => ∃ k : Nat, k ≤ 257 ∧ i = .int .i64 (k : Int) ∧ nx = .int .u32 ((innerC (j + 1) acc0 k).2 : Nat) ∧ Blk wi w.heap.size 125 (tab (innerC (j + 1) acc0 k).1) ∧ Below w.heap.size w wi) (fun _ i _ => 257 - (intOf i).toNat)
      case atStart => exact ⟨0, by omega, rfl, by rw [E2.out], hL1, hB⟩
      case round =>
        obtain ⟨k, hk, rfl, rfl, hLk, hBk⟩ := hrel
        clear hL1 hB
        have hn := Hil.out k hk
        have hlenk := Hll.out k
        by_cases hkl : k < 257
        · have hb := bits_ok hkl
          have hks : k < S.size := by omega
          have hat := Hlet.out k hks
          have hE : (S[k].toNat : Int) - 97 + 5 = (bitsOf k : Int) := by omega
          have hc0 : 97 ≤ (S[k].toNat : Int) := by omega
          have hc1 : (S[k].toNat : Int) ≤ 122 := by omega
          have hsucc := inner_succ (j + 1) acc0 k
          by_cases hbk : bitsOf k = j + 1
          · have hst : stepC (j + 1) (innerC (j + 1) acc0 k) k = ((innerC (j + 1) acc0 k).1.set k (innerC (j + 1) acc0 k).2, (innerC (j + 1) acc0 k).2 + 1) := by unfold stepC; rw [if_pos hbk]
            rw [hst] at hsucc
            have HS := Lib.hid hsucc
            clear hsucc hst hat
            have hcell : wr.cell? ⟨w.heap.size, k, none⟩ = some (.int .u32 ((innerC (j + 1) acc0 k).1.getD k 0 : Nat)) := (hLk.cell k).trans (tab_at _ _ (by rw [hlenk]; exact hkl))
            have hfr : wr.frozen? ⟨w.heap.size, k, none⟩ = false := hLk.frozen k
            generalize innerC (j + 1) acc0 k = ik at *
            have htest : ((bitsOf k : Int) == (j : Int) + 1) = true := beq_iff_eq.2 (by omega)
            clear hlenk hb
            generalize bitsOf k = bk at *
            go_wp2
            go_roundw
            case rel =>
              have r2 : Blk (wr.setCell ⟨w.heap.size, k, none⟩ (.int .u32 (ik.2 : Nat))) w.heap.size 125 (tab (innerC (j + 1) acc0 (k + 1)).1) := by
                rw [HS.out]
                have := hLk.set_ k (.int .u32 (ik.2 : Nat))
                rwa [tab_set] at this
              have r3 := hBk.setCell (p := ⟨w.heap.size, k, none⟩) (by simp) (.int .u32 (ik.2 : Nat))
              have r4 : Value.int .u32 ((ik.2 : Int) + 1) = Value.int .u32 ((innerC (j + 1) acc0 (k + 1)).2 : Nat) := by rw [HS.out]; simp
              first
                | exact ⟨k + 1, by omega, by go_num, r4, r2, r3⟩
                | ((repeat apply Exists.intro); exact ⟨⟨k + 1, by omega, by go_num, r4, r2, r3⟩, rfl⟩)
            case measure => simp [intOf]; omega
          · have hst : stepC (j + 1) (innerC (j + 1) acc0 k) k = innerC (j + 1) acc0 k := by unfold stepC; rw [if_neg hbk]
            rw [hst] at hsucc
            have HS := Lib.hid hsucc
            clear hsucc hst hat
            have htest : ((bitsOf k : Int) == (j : Int) + 1) = false := beq_eq_false_iff_ne.2 (by omega)
            clear hlenk hb
            generalize innerC (j + 1) acc0 k = ik at *
            generalize bitsOf k = bk at *
            go_wp2
            go_roundw
            case rel =>
              exact ⟨k + 1, by omega, by go_num, by rw [HS.out], by rw [HS.out]; exact hLk, hBk⟩
            case measure => simp [intOf]; omega
        · have e : k = 257 := by omega
          subst e
          have E := Lib.hid Hnext.out.symm
          have hLk' : Blk wr w.heap.size 125 (tab (outerC (j + 1)).1) := by rw [← E.out]; exact hLk
          have e3 : ((innerC (j + 1) acc0 257).2 : Nat) = (outerC (j + 1)).2 := by rw [E.out]
          rw [e3]
          clear e3 hLk hlenk hn
          go_wp2
          go_roundw
          case rel => exact ⟨j + 1, by omega, by omega, by go_num, rfl, hLk', hBk⟩
          case measure => simp [intOf]; omega
    · have e : j = 30 := by omega
      subst e
      have hL' : Blk wr w.heap.size 125 (tab codeL) := by have := hL; rw [outer_codes] at this; exact this
      clear hL hlen hle
      generalize (outerC 30).2 = n0
      go_wp2
      go_ret
      exact ⟨rfl, hL', hB⟩
set_option maxRecDepth 100000 in
set_option maxHeartbeats 400000 in
theorem rsize_any (s : ByteArray) (w : World) (hs : s.size ≤ 140737488355328) :
    Calls Tryd.prog 93 #[.string s] w fun e w' => e = .returned (.int .i64 ((bitsIn s.data.toList + 7) / 8 : Nat)) ∧ w = w' := by
  have hm : s.size ≤ maxLen := by unfold maxLen; omega
  have hlet : ∀ k, (h : k < lettersR.size) → lettersR[k].toNat = bitsOf k + 92 := lettersR_at
  have hlz := lettersR_size
  have HLn := fun W : World => Lib.hid (lengths_any W)
  have Hlet := Lib.hid hlet
  clear hlet
  generalize lettersR = S at *
  go_enter Tryd.func93, Tryd.ntmps93
  go_wp2_with (go_at_call 104; refine (HLn _).out.mono ?_; rintro e w' ⟨rfl, rfl⟩)
  go_loop [3, 5] (fun b i => ∃ k : Nat, k ≤ s.size ∧ i = .int .i64 (k : Int) ∧ b = .int .i64 (bitsIn (s.data.toList.take k) : Nat)) (fun _ i => s.size - (intOf i).toNat)
  case atStart => exact ⟨0, Nat.zero_le _, rfl, rfl⟩
  case round =>
    obtain ⟨k, hk, rfl, rfl⟩ := hrel
    have hb := bitsIn_le (s.data.toList.take k)
    have hl : (s.data.toList.take k).length ≤ k := List.length_take_le _ _
    by_cases hlt : k < s.size
    · have hsn : bitsIn (s.data.toList.take (k + 1)) = bitsIn (s.data.toList.take k) + bitsOf s[k].toNat := by rw [take_snoc s k hlt, bitsIn_snoc]
      have HS := Lib.hid hsn
      clear hsn
      have hc : s[k].toNat < 257 := by have := s[k].toNat_lt; omega
      have hbb := bits_ok hc
      have hks : s[k].toNat < S.size := by omega
      have hat := Hlet.out s[k].toNat hks
      have hc0 : 97 ≤ (S[s[k].toNat].toNat : Int) := by omega
      have hc1 : (S[s[k].toNat].toNat : Int) ≤ 122 := by omega
      have Hat := Lib.hid hat
      clear hbb hat
      go_wp2
      go_round
      case rel =>
        refine ⟨k + 1, by omega, by go_num, ?_⟩
        have := Hat.out
        have h2 := HS.out
        congr 1
        omega
      case measure => simp [intOf]; omega
    · have e : s.data.toList.take k = s.data.toList := List.take_of_length_le (by simp; omega)
      rw [e] at hb ⊢
      have hz : s.data.toList.length ≤ s.size := by simp
      go_wp2
      go_ret
      exact ⟨ret_int (by omega), rfl⟩
theorem last_rest (m j : Nat) (hm : m + j = 8) (hm1 : 0 < m) : IntKind.u8.wrap (IntKind.u8.wrap ((2 : Int) ^ min j 8) - 1) = (255 : Int) / 2 ^ m := by
  have h : j = 8 - m := by omega
  subst h
  have hc : m = 1 ∨ m = 2 ∨ m = 3 ∨ m = 4 ∨ m = 5 ∨ m = 6 ∨ m = 7 ∨ m = 8 := by omega
  rcases hc with rfl | rfl | rfl | rfl | rfl | rfl | rfl | rfl <;> decide
theorem last_step2 (hv m j : Nat) (hm : m + j = 8) (hm1 : 0 < m) (hh : hv < 2 ^ m) :
    bits .or .u8 (IntKind.u64.wrap ((hv : Int) * 2 ^ j) % 256) ((255 : Int) / 2 ^ m) = ((hv * 2 ^ j + (2 ^ j - 1) : Nat) : Int) := by
  have h := last_step hv m j hm hm1 hh
  rw [last_rest m j hm hm1, Nat.min_eq_left (by omega : j ≤ 64), IntKind.wrap_u8'] at h
  exact h
set_option maxRecDepth 100000 in
set_option maxHeartbeats 1000000 in
theorem rencode_any (s : ByteArray) (w : World) (hs : s.size ≤ 34359738368) :
    Calls Tryd.prog 94 #[.string s] w fun e w' => ∃ v, e = .returned v ∧ w'.ownsRow w.heap.size 5 1 v (enc s.data.toList).length (bytesV (enc s.data.toList)) ∧ Below w.heap.size w w' := by
  obtain ⟨E, hE⟩ : ∃ E, E = enc s.data.toList := ⟨_, rfl⟩
  rw [← hE]
  have HE := Lib.hid hE
  clear hE
  have hlet : ∀ k, (h : k < lettersR.size) → lettersR[k].toNat = bitsOf k + 92 := lettersR_at
  have hlz := lettersR_size
  have HLn := fun W : World => Lib.hid (lengths_any W)
  have Hlet := Lib.hid hlet
  clear hlet
  generalize lettersR = S at *
  go_enter Tryd.func94, Tryd.ntmps94
  go_wp2_with fail
  refine (rcodes_any w).mono ?_
  rintro e w1 ⟨rfl, hT0, hb1⟩
  go_wp2_with (go_at_call 104; refine (HLn _).out.mono ?_; rintro e w' ⟨rfl, rfl⟩)
  have hO0 : w1.ownsRow w.heap.size 5 1 (.slice none 0 0) 0 (bytesV (outTo 0 0 0)) := ⟨rfl, Or.inl ⟨rfl, rfl⟩⟩
  go_loopw [5, 6, 7, 8] (fun o h m i wr => ∃ (k : Nat), k ≤ s.size ∧ i = .int .i64 (k : Int) ∧ h = .int .u64 (valN (s.data.toList.take k) % 2 ^ (bitsIn (s.data.toList.take k) % 8) : Nat) ∧ m = .int .i64 (bitsIn (s.data.toList.take k) % 8 : Nat) ∧
      wr.ownsRow w.heap.size 5 1 o (bitsIn (s.data.toList.take k) / 8) (bytesV (outTo (valN (s.data.toList.take k)) (bitsIn (s.data.toList.take k)) (bitsIn (s.data.toList.take k) / 8))) ∧ Blk wr w.heap.size 125 (tab codeL) ∧ Below w.heap.size w wr)
    (fun _ _ _ i _ => s.size - (intOf i).toNat)
  case atStart => exact ⟨0, Nat.zero_le _, rfl, rfl, rfl, by simpa [bitsIn, valN] using hO0, hT0, hb1⟩
  case round =>
    obtain ⟨k, hk, rfl, rfl, rfl, hO, hT, hB⟩ := hrel
    clear hO0 hT0 hb1
    by_cases hlt : k < s.size
    · have hv := valN_snoc (s.data.toList.take k) s[k]
      have hbi := bitsIn_snoc (s.data.toList.take k) s[k]
      rw [← take_snoc s k hlt] at hv hbi
      have hc : s[k].toNat < 257 := by have := s[k].toNat_lt; omega
      have hc8 : s[k].toNat < 256 := s[k].toNat_lt
      obtain ⟨hn5, hn30, hcode⟩ := bits_ok hc
      have hks : s[k].toNat < S.size := by omega
      have hat := Hlet.out s[k].toNat hks
      have hE1 : (S[s[k].toNat].toNat : Int) - 97 + 5 = (bitsOf s[k].toNat : Int) := by omega
      have hc0 : 97 ≤ (S[s[k].toNat].toNat : Int) := by omega
      have hc1 : (S[s[k].toNat].toNat : Int) ≤ 122 := by omega
      clear hat
      have hcell : wr.cell? ⟨w.heap.size, s[k].toNat, none⟩ = some (.int .u32 (codeOf s[k].toNat : Nat)) := (hT.cell _).trans (tab_at _ _ (by rw [codeL_len]; exact hc))
      have hLk : bitsIn (s.data.toList.take k) ≤ 30 * k := Nat.le_trans (bitsIn_le _) (Nat.mul_le_mul_left _ (List.length_take_le _ _))
      generalize hV : valN (s.data.toList.take k) = V at *
      generalize hL : bitsIn (s.data.toList.take k) = L at *
      have HV := Lib.hid hv
      have HL := Lib.hid hbi
      have Hcode := Lib.hid hcode
      clear hv hbi hV hL hcode
      have hm0 : L % 8 < 8 := Nat.mod_lt _ (by decide)
      have hh : V % 2 ^ (L % 8) < 128 := Nat.lt_of_lt_of_le (Nat.mod_lt _ (Nat.two_pow_pos _)) (Nat.pow_le_pow_right (by decide) (by omega : L % 8 ≤ 7))
      generalize hm : L % 8 = m at *
      generalize hhv : V % 2 ^ m = hv at *
      have Hm := Lib.hid hm
      have Hh := Lib.hid hhv
      clear hm hhv
      generalize bitsOf s[k].toNat = n at *
      have hcl : codeOf s[k].toNat < 1073741824 := Nat.lt_of_lt_of_le Hcode.out (Nat.pow_le_pow_right (by decide) hn30)
      generalize codeOf s[k].toNat = c at *
      have hmn : ((m : Int) + (n : Int)) ≤ 37 := by omega
      go_wp2_with fail
      rw [or_step hv n c hh hn30 Hcode.out]
      have hx : hv * 2 ^ n + c = (V * 2 ^ n + c) % 2 ^ (m + n) := by rw [mod_ext _ _ _ _ Hcode.out, Hh.out]
      have hO' : wr.ownsRow w.heap.size 5 1 u5 (L / 8) (bytesV (outTo (V * 2 ^ n + c) (L + n) (L / 8))) := by
        rw [outTo_ext V L (L / 8) n c (by omega) Hcode.out]
        exact hO
      clear hO hh hcell hE1 hc0 hc1
      have hLm := Hm.out
      have hx2 : hv * 2 ^ n + c = (V * 2 ^ n + c) % 2 ^ (L + n - 8 * (L / 8)) := by rw [hx]; congr 2; omega
      have HV2 : Hid (valN (s.data.toList.take (k + 1)) = V * 2 ^ n + c) := HV
      have HX0 := Lib.hid hx2
      clear hx hx2 HV Hh Hcode
      generalize hv * 2 ^ n + c = X0 at *
      generalize V * 2 ^ n + c = Y at *
      go_loopw [5, 6, 7] (fun o x' m' wi => ∃ q : Nat, L / 8 ≤ q ∧ 8 * q ≤ L + n ∧ m' = .int .i64 ((L + n - 8 * q : Nat) : Int) ∧ x' = .int .u64 ((Y % 2 ^ (L + n - 8 * q) : Nat) : Int) ∧ wi.ownsRow w.heap.size 5 1 o q (bytesV (outTo Y (L + n) q)) ∧ Blk wi w.heap.size 125 (tab codeL) ∧ Below w.heap.size w wi)
        (fun _ _ m' _ => (intOf m').toNat)
      case atStart => exact ⟨L / 8, Nat.le_refl _, by omega, by congr 1; omega, by rw [HX0.out], hO', hT, hB⟩
      case round =>
        obtain ⟨q, hq0, hq1, rfl, rfl, hOq, hTq, hBq⟩ := hrel
        clear hO' hT hB
        by_cases hq : 8 ≤ L + n - 8 * q
        · have hmq : L + n - 8 * q ≤ 37 := by omega
          generalize hr : L + n - 8 * q = r at *
          have Hr := Lib.hid hr
          clear hr
          have hx64 : Y % 2 ^ r < 18446744073709551616 := Nat.lt_of_lt_of_le (Nat.mod_lt _ (Nat.two_pow_pos _)) (Nat.pow_le_pow_right (by decide) (by omega : r ≤ 64))
          generalize hx : Y % 2 ^ r = x at *
          have HX := Lib.hid hx
          clear hx
          have hqn : q + 1 ≤ 140737488355328 := by have := Hr.out; omega
          go_wp2_with (at_builtin; refine append_byte _ _ rfl _ _ rfl _ _ _ _ rfl hOq _ rfl hqn hBq.size ?_; intro v1 w2 hO1 hg1)
          have hr := Hr.out
          have hxb : (x : Int) / 2 ^ (r - 8) % 256 = (((UInt8.ofNat (Y / 2 ^ (L + n - 8 * (q + 1)) % 256)).toNat : Nat) : Int) := by
            have e1 : r - 8 = L + n - 8 * (q + 1) := by omega
            have e2 := div_mod_ext Y r (r - 8) (by omega)
            rw [HX.out] at e2
            rw [← e1, ← e2, UInt8.toNat_ofNat_of_lt' (Nat.mod_lt _ (by decide))]
            simp
          rw [hxb] at hO1
          have hO2 : w2.ownsRow w.heap.size 5 1 v1 (q + 1) (bytesV (outTo Y (L + n) (q + 1))) := by
            rw [outTo_succ, bytesV_append]
            exact hO1
          have hT2 := (hTq.alloc (.cells #[.int .u8 ((x : Int) / 2 ^ (r - 8) % 256)] 5)).grown hg1 (Ne.symm (own_blk_ne hOq hTq (by decide)))
          have hB2 := (hBq.alloc hBq.size (.cells #[.int .u8 ((x : Int) / 2 ^ (r - 8) % 256)] 5)).grown hg1 (by have := hBq.size; simp; omega) (own_ge hOq)
          go_roundw
          case rel =>
            have e6 : Value.int .i64 ((r : Int) - 8) = Value.int .i64 ((L + n - 8 * (q + 1) : Nat) : Int) := by congr 1; omega
            have e7 : Value.int .u64 (bits .and .u64 (x : Int) (IntKind.u64.wrap (IntKind.u64.wrap ((2 : Int) ^ (r - 8)) - 1))) = Value.int .u64 ((Y % 2 ^ (L + n - 8 * (q + 1)) : Nat) : Int) := by
              rw [mask_step x (r - 8) hx64 (by omega), ← HX.out, mod_mod_pow _ _ _ (by omega)]
              congr 4
              omega
            exact ⟨q + 1, by omega, by omega, e6, e7, hO2, hT2, hB2⟩
          case measure => simp [intOf]; omega
        · have eq1 : q = (L + n) / 8 := by omega
          have er : L + n - 8 * q = (L + n) % 8 := by omega
          subst eq1
          rw [er]
          clear er hq0 hq1 hq
          have hr8 : (L + n) % 8 < 8 := Nat.mod_lt _ (by decide)
          generalize hr : (L + n) % 8 = r at *
          have Hr := Lib.hid hr
          clear hr
          generalize hx : Y % 2 ^ r = x at *
          have HX := Lib.hid hx
          clear hx
          go_wp2_with fail
          go_roundw
          case rel =>
            refine ⟨k + 1, by omega, by go_num, ?_, by rw [HL.out, Hr.out], ?_, hTq, hBq⟩
            · rw [HL.out, Hr.out, HV2.out, HX.out]
            · rw [HV2.out, HL.out]
              exact hOq
          case measure => simp [intOf]; omega
    · have ek : s.data.toList.take k = s.data.toList := List.take_of_length_le (by simp; omega)
      rw [ek] at hO ⊢
      have hLk : bitsIn s.data.toList ≤ 30 * s.size := by have := bitsIn_le s.data.toList; simpa using this
      have hE := HE.out
      have hEl := enc_len s.data.toList
      rw [← hE] at hEl
      unfold enc at hE
      have HE2 := Lib.hid hE
      have HEl := Lib.hid hEl
      clear hE hEl HE
      generalize valN s.data.toList = V at *
      generalize bitsIn s.data.toList = L at *
      have hm0 : L % 8 < 8 := Nat.mod_lt _ (by decide)
      by_cases hz : L % 8 = 0
      · have hEq := HE2.out
        rw [if_pos hz, List.append_nil] at hEq
        have hn : E.length = L / 8 := by rw [hEq, outTo_len]
        have hO2 : wr.ownsRow w.heap.size 5 1 u5 E.length (bytesV E) := by rw [hn, hEq]; exact hO
        clear hO hEq hn HE2 HEl hT
        rw [hz]
        go_wp2
        go_ret
        exact ⟨u5, rfl, hO2, hB⟩
      · have hm1 : 0 < L % 8 := by omega
        generalize hm : L % 8 = m at *
        have hh : V % 2 ^ m < 2 ^ m := Nat.mod_lt _ (Nat.two_pow_pos _)
        generalize hhv : V % 2 ^ m = hv at *
        have Hm := Lib.hid hm
        have Hh := Lib.hid hhv
        clear hm hhv hz
        have hq47 : L / 8 + 1 ≤ 140737488355328 := by omega
        obtain ⟨j, hj⟩ : ∃ j : Nat, j = 8 - m := ⟨_, rfl⟩
        have hwj : 8 - (m : Int) = (j : Int) := by omega
        have Hj := Lib.hid hj
        clear hj
        have hown := hO
        have hBq := hB
        go_wp2_with (at_builtin; refine append_byte _ _ rfl _ _ rfl _ _ _ _ rfl hown _ rfl hq47 hBq.size ?_; intro v1 w2 hO1 hg1)
        rw [last_step2 hv m j (by have := Hj.out; omega) hm1 hh] at hO1
        rw [last_step2 hv m j (by have := Hj.out; omega) hm1 hh] at hg1
        have hlast : ((hv * 2 ^ j + (2 ^ j - 1) : Nat) : Int) = (((lastOf V m).toNat : Nat) : Int) := by
          unfold lastOf
          rw [Hh.out, ← Hj.out, UInt8.toNat_ofNat_of_lt' (last_lt hv m j (by have := Hj.out; omega) hh)]
        have hB2 := (hBq.alloc hBq.size (.cells #[.int .u8 ((hv * 2 ^ j + (2 ^ j - 1) : Nat) : Int)] 5)).grown hg1 (by have := hBq.size; simp; omega) (own_ge hown)
        go_ret
        refine ⟨v1, rfl, ?_, hB2⟩
        rw [hlast] at hO1
        have hEq := HE2.out
        rw [if_neg (by omega)] at hEq
        have hn : E.length = L / 8 + 1 := by rw [hEq, List.length_append, outTo_len]; simp
        rw [hn, hEq, bytesV_append]
        exact hO1
end Go.Proofs.YtflmgjidnclegaaDoor.Huff
