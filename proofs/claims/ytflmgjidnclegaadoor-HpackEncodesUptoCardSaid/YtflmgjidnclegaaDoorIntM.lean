/-
  The walk of PutInt.
-/
import Derived.Test.YtflmgjidnclegaaDoorSpecM
namespace Go.Proofs.YtflmgjidnclegaaDoor.Hpk
open Go.RowKit
open Huff (bytesV bytesV_append bytesV_len append_byte mul_or)
theorem or_i64 (a b : Nat) (ha : a < 4611686018427387904) (hb : b < 4611686018427387904) : bits .or .i64 (a : Int) (b : Int) = ((a ||| b : Nat) : Int) := by
  have h : a ||| b < 4611686018427387904 := Nat.or_lt_two_pow (n := 62) ha hb
  show IntKind.i64.wrap ((BitVec.ofInt 64 (a : Int) ||| BitVec.ofInt 64 (b : Int)).toNat : Int) = _
  have e1 : (BitVec.ofInt 64 (a : Int)).toNat = a := by rw [BitVec.toNat_ofInt]; omega
  have e2 : (BitVec.ofInt 64 (b : Int)).toNat = b := by rw [BitVec.toNat_ofInt]; omega
  rw [BitVec.toNat_or, e1, e2, IntKind.wrap_i64]
  omega
theorem or_u8_all : ((List.range 256).all fun x => decide (Go.bits .or .u8 (x : Int) 128 = ((x % 128 + 128 : Nat) : Int))) = true := by decide +kernel
theorem or_u8 (x : Nat) (h : x < 256) : Go.bits .or .u8 (x : Int) 128 = ((x % 128 + 128 : Nat) : Int) := of_decide_eq_true (List.all_eq_true.1 or_u8_all x (List.mem_range.2 h))
/-- the prefix's numbers that are used -/
def Pre (first bits : Nat) : Prop := (first = 32 ∧ bits = 5) ∨ (first = 128 ∧ bits = 7) ∨ (first = 16 ∧ bits = 4) ∨ (first = 0 ∧ bits = 4) ∨ (first = 64 ∧ bits = 6) ∨ (first = 0 ∧ bits = 7)
theorem intTail_small {n : Nat} (h : n < 128) : intTail n = [UInt8.ofNat n] := by rw [intTail, if_pos h]
theorem intTail_more {n : Nat} (h : 128 ≤ n) : intTail n = UInt8.ofNat (n % 128 + 128) :: intTail (n / 128) := by rw [intTail, if_neg (by omega)]
theorem made_own (w : World) (n : Nat) (hn : n ≤ 1099511627782) : (w.alloc (.cells (madeCells #[.int .u8 0] n) 5)).ownsRow w.heap.size 5 1 (.slice (some ⟨w.heap.size, 0, none⟩) 0 n) 0 [] :=
  ⟨rfl, Or.inr ⟨w.heap.size, n, madeCells #[.int .u8 0] n, rfl, Nat.le_refl _, heap_alloc_new w _, Nat.zero_le _, by unfold maxLen; omega, by simp [madeCells], by simp⟩⟩
theorem bytes_one (l : List UInt8) : ∀ u ∈ bytesV l, u.oneCell' = true := by
  intro u hu
  simp only [bytesV, List.mem_map] at hu
  obtain ⟨x, _, rfl⟩ := hu
  rfl
theorem tail_step (k r : Nat) (h : 128 ≤ r) (hr : r * 128 ^ k ≤ 2147483647) : k + 1 ≤ 4 ∧ r / 128 * 128 ^ (k + 1) ≤ 2147483647 := by
  constructor
  · rcases Nat.lt_or_ge k 4 with h1 | h1
    · omega
    · have h2 : 128 ^ 4 ≤ 128 ^ k := Nat.pow_le_pow_right (by decide) h1
      have h3 := Nat.mul_le_mul h h2
      omega
  · rw [Nat.pow_succ, Nat.mul_comm (128 ^ k) 128, ← Nat.mul_assoc]
    exact Nat.le_trans (Nat.mul_le_mul_right _ (Nat.div_mul_le_self r 128)) hr
def BytesEnd (w : World) (ys : List UInt8) (e : Ending) (w' : World) : Prop := ∃ v', e = .returned v' ∧ w'.ownsRow w.heap.size 5 1 v' ys.length (bytesV ys) ∧ Below w.heap.size w w'
set_option maxRecDepth 100000 in
set_option maxHeartbeats 4000000 in
theorem putint_any (first bits n : Nat) (hp : Pre first bits) (hn : n ≤ 2147483647) (v : Value) (xs : List UInt8) (w : World) (base : Nat) (ho : w.ownsRow base 5 1 v xs.length (bytesV xs)) (hx : xs.length ≤ 1099511627776) :
    Calls Tryd.prog 66 #[v, .int .i64 (first : Int), .int .i64 (bits : Int), .int .i64 (n : Int)] w (BytesEnd w (xs ++ putInt first bits n)) := by
  obtain ⟨L, hL⟩ : ∃ L : Nat, L = xs.length := ⟨_, rfl⟩
  have hmk : ∀ W : World, (Instr.makeSlice 66 (.int .i64 0) (.int .i64 ((L : Int) + 6))).run Tryd.prog W = .ok (.slice (some ⟨W.heap.size, 0, none⟩) 0 (L + 6)) (W.alloc (.cells (madeCells #[.int .u8 0] (L + 6)) 5)) := by
    obtain ⟨i, hi, hi0, hi1, hi2⟩ := info_parts (P := Tryd.prog) (e := 5) (z := .int .u8 0) (size := 1) (bytes := 1) (by kernel_rfl)
    intro W
    have := run_make_rowN (P := Tryd.prog) 66 5 i (.int .u8 0) Tryd.underlying66 hi hi0 .i64 .i64 0 (L + 6) (Nat.zero_le _) (by rw [hi2]; omega) (by omega) W
    rw [hi1, Nat.mul_one] at this
    rw [show ((L + 6 : Nat) : Int) = (L : Int) + 6 by omega] at this
    exact this
  have hpre : (first = 32 ∧ bits = 5) ∨ (first = 128 ∧ bits = 7) ∨ (first = 16 ∧ bits = 4) ∨ (first = 0 ∧ bits = 4) ∨ (first = 64 ∧ bits = 6) ∨ (first = 0 ∧ bits = 7) := hp
  obtain ⟨A, c, rfl⟩ : ∃ A c, v = .slice A L c := by
    rcases ho.2 with ⟨e, h0⟩ | ⟨g, cap, cur, e, _⟩
    · exact ⟨none, 0, by rw [e, hL, h0]⟩
    · exact ⟨_, _, by rw [e, hL]⟩
  rw [← hL] at ho
  have HR := Lib.hid (Reads.of_own ho)
  obtain ⟨i, hi, hi0, hi1, hi2⟩ := info_parts (P := Tryd.prog) (e := 5) (z := .int .u8 0) (size := 1) (bytes := 1) (by kernel_rfl)
  have HI := Lib.hid hi
  rw [← hL] at hx
  have HLL := Lib.hid hL
  clear ho hi hp hL
  rcases hpre with ⟨rfl, rfl⟩ | ⟨rfl, rfl⟩ | ⟨rfl, rfl⟩ | ⟨rfl, rfl⟩ | ⟨rfl, rfl⟩ | ⟨rfl, rfl⟩
  · go_enter Tryd.func66, Tryd.ntmps66
    have d1 : decide ((n : Int) < 0) = false := decide_eq_false (by omega)
    have d2 : decide (2147483647 < (n : Int)) = false := decide_eq_false (by omega)
    have d3 : (Go.bits .and .i64 32 31 != 0) = false := by kernel_rfl
    have hq47 : L + 1 ≤ 140737488355328 := by omega
    by_cases hfl : n < 31
    · have hor : Go.bits .or .i64 (32 : Int) (n : Int) = ((32 + n : Nat) : Int) := by
        have e1 := or_i64 32 n (by omega) (by omega)
        have e2 := mul_or 1 5 n (by omega)
        rw [show 1 * 2 ^ 5 = 32 from rfl] at e2
        rw [e2] at e1
        exact e1
      have hwr : ((32 + n : Nat) : Int) % 256 = ((32 + n : Nat) : Int) := by omega
      have HW := Lib.hid hwr
      have HOR := Lib.hid hor
      clear hwr hor
      go_wp2_with (first | (refine wpList_append_any _ rfl (.tmp 14) (.tmp 15) 66 rfl w.heap.size 5 i (.int .u8 0) 1 1 Tryd.underlying66 HI.out hi0 hi1 hi2 rfl (by decide) _ 0 [] rfl (made_own w (L + 6) (by omega)) w.heap.size A L c (bytesV xs) rfl (HR.out.alloc (Nat.le_refl _) _) (bytes_one xs) (by unfold maxLen; omega) (by omega) (by simp) ?_; intro v1 w1 ho1 hg1 hat1; have hB1 : Below w.heap.size w w1 := ((Below.refl _ _).alloc (Nat.le_refl _) _).grown hg1 (by simp) (fun k hk => by have e : (some w.heap.size : Option Nat) = some k := hk; injection e with e; omega); rw [Nat.zero_add, List.nil_append] at ho1; have HO1 := Lib.hid ho1; have hs1 : w.heap.size ≤ w1.heap.size := hB1.size; have HB1 := Lib.hid hB1; clear ho1 hg1 hat1 hB1) | (at_builtin; refine append_byte _ _ rfl _ _ rfl _ _ _ _ rfl HO1.out _ rfl hq47 hs1 ?_; intro v2 w2 ho2 hg2))
      have hB2 : Below w.heap.size w w2 := (HB1.out.alloc hs1 _).grown hg2 (by simp; omega) (fun k hk => (HO1.out.lt k hk).1)
      have HO2 := Lib.hid ho2
      have HB2 := Lib.hid hB2
      clear ho2 hg2 hB2
      go_wp2_with fail
      go_ret
      refine ⟨v2, rfl, ?_, HB2.out⟩
      have h := HO2.out
      rw [HOR.out, HW.out] at h
      have e : putInt 32 5 n = [UInt8.ofNat (32 + n)] := by unfold putInt; rw [if_pos (by omega)]
      rw [e, bytesV_append, List.length_append, ← HLL.out]
      simpa [bytesV, Nat.mod_eq_of_lt (show 32 + n < 256 by omega)] using h
    · have hor : Go.bits .or .i64 (32 : Int) 31 = 63 := by kernel_rfl
      have hwr : (63 : Int) % 256 = 63 := by decide
      have HW := Lib.hid hwr
      have HOR := Lib.hid hor
      clear hwr hor
      go_wp2_with (first | (refine wpList_append_any _ rfl (.tmp 14) (.tmp 15) 66 rfl w.heap.size 5 i (.int .u8 0) 1 1 Tryd.underlying66 HI.out hi0 hi1 hi2 rfl (by decide) _ 0 [] rfl (made_own w (L + 6) (by omega)) w.heap.size A L c (bytesV xs) rfl (HR.out.alloc (Nat.le_refl _) _) (bytes_one xs) (by unfold maxLen; omega) (by omega) (by simp) ?_; intro v1 w1 ho1 hg1 hat1; have hB1 : Below w.heap.size w w1 := ((Below.refl _ _).alloc (Nat.le_refl _) _).grown hg1 (by simp) (fun k hk => by have e : (some w.heap.size : Option Nat) = some k := hk; injection e with e; omega); rw [Nat.zero_add, List.nil_append] at ho1; have HO1 := Lib.hid ho1; have hs1 : w.heap.size ≤ w1.heap.size := hB1.size; have HB1 := Lib.hid hB1; clear ho1 hg1 hat1 hB1) | (at_builtin; refine append_byte _ _ rfl _ _ rfl _ _ _ _ rfl HO1.out _ rfl hq47 hs1 ?_; intro v2 w2 ho2 hg2))
      have hB2 : Below w.heap.size w w2 := (HB1.out.alloc hs1 _).grown hg2 (by simp; omega) (fun k hk => (HO1.out.lt k hk).1)
      have e : putInt 32 5 n = UInt8.ofNat (32 + 31) :: intTail (n - 31) := by unfold putInt; rw [if_neg (by omega)]
      have ho3 : w2.ownsRow w.heap.size 5 1 v2 (xs ++ [UInt8.ofNat (32 + 31)] ++ []).length (bytesV (xs ++ [UInt8.ofNat (32 + 31)] ++ [])) := by
        have h := ho2
        try rw [HOR.out, HW.out] at h
        rw [List.append_nil, bytesV_append, List.length_append, ← HLL.out]
        simpa [bytesV] using h
      have HO3 := Lib.hid ho3
      have HB2 := Lib.hid hB2
      have HE := Lib.hid e
      have hzs : ∃ zs, zs = xs ++ [UInt8.ofNat (32 + 31)] ∧ zs.length = L + 1 := ⟨_, rfl, by rw [List.length_append, ← HLL.out]; rfl⟩
      obtain ⟨zs, hz, hzl⟩ := hzs
      rw [← hz] at HO3
      have HZ := Lib.hid hz
      have HZL := Lib.hid hzl
      obtain ⟨r0, hr0⟩ : ∃ r : Nat, n = r + 31 := ⟨n - 31, by omega⟩
      have hsub : n - 31 = r0 := by omega
      rw [hsub] at HE
      have HR0 := Lib.hid hr0
      clear ho2 ho3 hg2 hB2 HO1 HB1 hs1 e HW HOR hz hzl HLL hsub hr0
      go_wp2_with fail
      go_loopw [9, 3] (fun o q wr => ∃ (r : Nat) (ys : List UInt8), r ≤ 2147483647 ∧ (ys.length ≤ 4 ∧ r * 128 ^ ys.length ≤ 2147483647) ∧ q = .int .i64 (r : Int) ∧ ys ++ intTail r = intTail r0 ∧ wr.ownsRow w.heap.size 5 1 o (zs ++ ys).length (bytesV (zs ++ ys)) ∧ Below w.heap.size w wr) (fun _ q _ => (intOf q).toNat)
      case atStart => exact ⟨r0, [], by have := HR0.out; omega, ⟨by simp, by have := HR0.out; simp; omega⟩, by congr 1; have := HR0.out; omega, rfl, HO3.out, HB2.out⟩
      case round =>
        obtain ⟨r, ys, hr, hy, rfl, he, hO, hB⟩ := hrel
        clear HO3 HB2
        have hq48 : (zs ++ ys).length + 1 ≤ 140737488355328 := by rw [List.length_append, HZL.out]; have := hy.1; omega
        have hbs := hB.size
        have HO := Lib.hid hO
        have HY0 := Lib.hid hy
        have hy4 := hy.1
        clear hy
        have HBB := Lib.hid hB
        have HEE := Lib.hid he
        clear hO hB he
        by_cases h128 : 128 ≤ r
        · have HY := Lib.hid (tail_step ys.length r h128 HY0.out.2)
          have HY := Lib.hid (show (ys ++ [UInt8.ofNat (r % 128 + 128)]).length ≤ 4 ∧ r / 128 * 128 ^ (ys ++ [UInt8.ofNat (r % 128 + 128)]).length ≤ 2147483647 by rw [List.length_append]; exact HY.out)
          have hor := or_u8 (r % 256) (Nat.mod_lt _ (by decide))
          rw [show (((r % 256 : Nat)) : Int) = (r : Int) % 256 by omega] at hor
          have hmm : r % 256 % 128 = r % 128 := by omega
          rw [hmm] at hor
          have HOR := Lib.hid hor
          clear hor hmm
          go_wp2_with (at_builtin; refine append_byte _ _ rfl _ _ rfl _ _ _ _ rfl HO.out _ rfl hq48 hbs ?_; intro v3 w3 ho3 hg3)
          have hB3 : Below w.heap.size w w3 := (HBB.out.alloc hbs _).grown hg3 (by simp; omega) (fun k hk => (HO.out.lt k hk).1)
          have ho4 : w3.ownsRow w.heap.size 5 1 v3 (zs ++ (ys ++ [UInt8.ofNat (r % 128 + 128)])).length (bytesV (zs ++ (ys ++ [UInt8.ofNat (r % 128 + 128)]))) := by
            have h := ho3
            try rw [HOR.out] at h
            have hl : (zs ++ ys ++ [UInt8.ofNat (r % 128 + 128)]).length = (zs ++ ys).length + 1 := by rw [List.length_append]; rfl
            rw [← List.append_assoc, bytesV_append, hl]
            have e : ((r : Int) % 128 + 128) % 256 = (r : Int) % 128 + 128 := by omega
            simpa [bytesV, e] using h
          have HO4 := Lib.hid ho4
          have HB4 := Lib.hid hB3
          clear ho3 hg3 hB3 ho4 HO HBB hbs
          go_wp2_with fail
          go_roundw
          case rel => exact ⟨r / 128, ys ++ [UInt8.ofNat (r % 128 + 128)], by omega, HY.out, by go_num, by rw [List.append_assoc, List.singleton_append, ← intTail_more h128]; exact HEE.out, HO4.out, HB4.out⟩
          case measure => simp [intOf]; omega
        · go_wp2_with (at_builtin; refine append_byte _ _ rfl _ _ rfl _ _ _ _ rfl HO.out _ rfl hq48 hbs ?_; intro v3 w3 ho3 hg3)
          have hB3 : Below w.heap.size w w3 := (HBB.out.alloc hbs _).grown hg3 (by simp; omega) (fun k hk => (HO.out.lt k hk).1)
          have HO3 := Lib.hid ho3
          have HB3 := Lib.hid hB3
          clear ho3 hg3 hB3 HO HBB hbs
          go_wp2_with fail
          go_ret
          refine ⟨v3, rfl, ?_, HB3.out⟩
          have h := HO3.out
          have e : xs ++ putInt 32 5 n = zs ++ ys ++ [UInt8.ofNat r] := by
            rw [HE.out, ← HEE.out, intTail_small (by omega), HZ.out]
            simp
          rw [e, bytesV_append, List.length_append]
          simpa [bytesV, Nat.mod_eq_of_lt (show r < 256 by omega), Int.emod_eq_of_lt (show (0 : Int) ≤ (r : Int) by omega) (show (r : Int) < 256 by omega)] using h
  · go_enter Tryd.func66, Tryd.ntmps66
    have d1 : decide ((n : Int) < 0) = false := decide_eq_false (by omega)
    have d2 : decide (2147483647 < (n : Int)) = false := decide_eq_false (by omega)
    have d3 : (Go.bits .and .i64 128 127 != 0) = false := by kernel_rfl
    have hq47 : L + 1 ≤ 140737488355328 := by omega
    by_cases hfl : n < 127
    · have hor : Go.bits .or .i64 (128 : Int) (n : Int) = ((128 + n : Nat) : Int) := by
        have e1 := or_i64 128 n (by omega) (by omega)
        have e2 := mul_or 1 7 n (by omega)
        rw [show 1 * 2 ^ 7 = 128 from rfl] at e2
        rw [e2] at e1
        exact e1
      have hwr : ((128 + n : Nat) : Int) % 256 = ((128 + n : Nat) : Int) := by omega
      have HW := Lib.hid hwr
      have HOR := Lib.hid hor
      clear hwr hor
      go_wp2_with (first | (refine wpList_append_any _ rfl (.tmp 14) (.tmp 15) 66 rfl w.heap.size 5 i (.int .u8 0) 1 1 Tryd.underlying66 HI.out hi0 hi1 hi2 rfl (by decide) _ 0 [] rfl (made_own w (L + 6) (by omega)) w.heap.size A L c (bytesV xs) rfl (HR.out.alloc (Nat.le_refl _) _) (bytes_one xs) (by unfold maxLen; omega) (by omega) (by simp) ?_; intro v1 w1 ho1 hg1 hat1; have hB1 : Below w.heap.size w w1 := ((Below.refl _ _).alloc (Nat.le_refl _) _).grown hg1 (by simp) (fun k hk => by have e : (some w.heap.size : Option Nat) = some k := hk; injection e with e; omega); rw [Nat.zero_add, List.nil_append] at ho1; have HO1 := Lib.hid ho1; have hs1 : w.heap.size ≤ w1.heap.size := hB1.size; have HB1 := Lib.hid hB1; clear ho1 hg1 hat1 hB1) | (at_builtin; refine append_byte _ _ rfl _ _ rfl _ _ _ _ rfl HO1.out _ rfl hq47 hs1 ?_; intro v2 w2 ho2 hg2))
      have hB2 : Below w.heap.size w w2 := (HB1.out.alloc hs1 _).grown hg2 (by simp; omega) (fun k hk => (HO1.out.lt k hk).1)
      have HO2 := Lib.hid ho2
      have HB2 := Lib.hid hB2
      clear ho2 hg2 hB2
      go_wp2_with fail
      go_ret
      refine ⟨v2, rfl, ?_, HB2.out⟩
      have h := HO2.out
      rw [HOR.out, HW.out] at h
      have e : putInt 128 7 n = [UInt8.ofNat (128 + n)] := by unfold putInt; rw [if_pos (by omega)]
      rw [e, bytesV_append, List.length_append, ← HLL.out]
      simpa [bytesV, Nat.mod_eq_of_lt (show 128 + n < 256 by omega)] using h
    · have hor : Go.bits .or .i64 (128 : Int) 127 = 255 := by kernel_rfl
      have hwr : (255 : Int) % 256 = 255 := by decide
      have HW := Lib.hid hwr
      have HOR := Lib.hid hor
      clear hwr hor
      go_wp2_with (first | (refine wpList_append_any _ rfl (.tmp 14) (.tmp 15) 66 rfl w.heap.size 5 i (.int .u8 0) 1 1 Tryd.underlying66 HI.out hi0 hi1 hi2 rfl (by decide) _ 0 [] rfl (made_own w (L + 6) (by omega)) w.heap.size A L c (bytesV xs) rfl (HR.out.alloc (Nat.le_refl _) _) (bytes_one xs) (by unfold maxLen; omega) (by omega) (by simp) ?_; intro v1 w1 ho1 hg1 hat1; have hB1 : Below w.heap.size w w1 := ((Below.refl _ _).alloc (Nat.le_refl _) _).grown hg1 (by simp) (fun k hk => by have e : (some w.heap.size : Option Nat) = some k := hk; injection e with e; omega); rw [Nat.zero_add, List.nil_append] at ho1; have HO1 := Lib.hid ho1; have hs1 : w.heap.size ≤ w1.heap.size := hB1.size; have HB1 := Lib.hid hB1; clear ho1 hg1 hat1 hB1) | (at_builtin; refine append_byte _ _ rfl _ _ rfl _ _ _ _ rfl HO1.out _ rfl hq47 hs1 ?_; intro v2 w2 ho2 hg2))
      have hB2 : Below w.heap.size w w2 := (HB1.out.alloc hs1 _).grown hg2 (by simp; omega) (fun k hk => (HO1.out.lt k hk).1)
      have e : putInt 128 7 n = UInt8.ofNat (128 + 127) :: intTail (n - 127) := by unfold putInt; rw [if_neg (by omega)]
      have ho3 : w2.ownsRow w.heap.size 5 1 v2 (xs ++ [UInt8.ofNat (128 + 127)] ++ []).length (bytesV (xs ++ [UInt8.ofNat (128 + 127)] ++ [])) := by
        have h := ho2
        try rw [HOR.out, HW.out] at h
        rw [List.append_nil, bytesV_append, List.length_append, ← HLL.out]
        simpa [bytesV] using h
      have HO3 := Lib.hid ho3
      have HB2 := Lib.hid hB2
      have HE := Lib.hid e
      have hzs : ∃ zs, zs = xs ++ [UInt8.ofNat (128 + 127)] ∧ zs.length = L + 1 := ⟨_, rfl, by rw [List.length_append, ← HLL.out]; rfl⟩
      obtain ⟨zs, hz, hzl⟩ := hzs
      rw [← hz] at HO3
      have HZ := Lib.hid hz
      have HZL := Lib.hid hzl
      obtain ⟨r0, hr0⟩ : ∃ r : Nat, n = r + 127 := ⟨n - 127, by omega⟩
      have hsub : n - 127 = r0 := by omega
      rw [hsub] at HE
      have HR0 := Lib.hid hr0
      clear ho2 ho3 hg2 hB2 HO1 HB1 hs1 e HW HOR hz hzl HLL hsub hr0
      go_wp2_with fail
      go_loopw [9, 3] (fun o q wr => ∃ (r : Nat) (ys : List UInt8), r ≤ 2147483647 ∧ (ys.length ≤ 4 ∧ r * 128 ^ ys.length ≤ 2147483647) ∧ q = .int .i64 (r : Int) ∧ ys ++ intTail r = intTail r0 ∧ wr.ownsRow w.heap.size 5 1 o (zs ++ ys).length (bytesV (zs ++ ys)) ∧ Below w.heap.size w wr) (fun _ q _ => (intOf q).toNat)
      case atStart => exact ⟨r0, [], by have := HR0.out; omega, ⟨by simp, by have := HR0.out; simp; omega⟩, by congr 1; have := HR0.out; omega, rfl, HO3.out, HB2.out⟩
      case round =>
        obtain ⟨r, ys, hr, hy, rfl, he, hO, hB⟩ := hrel
        clear HO3 HB2
        have hq48 : (zs ++ ys).length + 1 ≤ 140737488355328 := by rw [List.length_append, HZL.out]; have := hy.1; omega
        have hbs := hB.size
        have HO := Lib.hid hO
        have HY0 := Lib.hid hy
        have hy4 := hy.1
        clear hy
        have HBB := Lib.hid hB
        have HEE := Lib.hid he
        clear hO hB he
        by_cases h128 : 128 ≤ r
        · have HY := Lib.hid (tail_step ys.length r h128 HY0.out.2)
          have HY := Lib.hid (show (ys ++ [UInt8.ofNat (r % 128 + 128)]).length ≤ 4 ∧ r / 128 * 128 ^ (ys ++ [UInt8.ofNat (r % 128 + 128)]).length ≤ 2147483647 by rw [List.length_append]; exact HY.out)
          have hor := or_u8 (r % 256) (Nat.mod_lt _ (by decide))
          rw [show (((r % 256 : Nat)) : Int) = (r : Int) % 256 by omega] at hor
          have hmm : r % 256 % 128 = r % 128 := by omega
          rw [hmm] at hor
          have HOR := Lib.hid hor
          clear hor hmm
          go_wp2_with (at_builtin; refine append_byte _ _ rfl _ _ rfl _ _ _ _ rfl HO.out _ rfl hq48 hbs ?_; intro v3 w3 ho3 hg3)
          have hB3 : Below w.heap.size w w3 := (HBB.out.alloc hbs _).grown hg3 (by simp; omega) (fun k hk => (HO.out.lt k hk).1)
          have ho4 : w3.ownsRow w.heap.size 5 1 v3 (zs ++ (ys ++ [UInt8.ofNat (r % 128 + 128)])).length (bytesV (zs ++ (ys ++ [UInt8.ofNat (r % 128 + 128)]))) := by
            have h := ho3
            try rw [HOR.out] at h
            have hl : (zs ++ ys ++ [UInt8.ofNat (r % 128 + 128)]).length = (zs ++ ys).length + 1 := by rw [List.length_append]; rfl
            rw [← List.append_assoc, bytesV_append, hl]
            have e : ((r : Int) % 128 + 128) % 256 = (r : Int) % 128 + 128 := by omega
            simpa [bytesV, e] using h
          have HO4 := Lib.hid ho4
          have HB4 := Lib.hid hB3
          clear ho3 hg3 hB3 ho4 HO HBB hbs
          go_wp2_with fail
          go_roundw
          case rel => exact ⟨r / 128, ys ++ [UInt8.ofNat (r % 128 + 128)], by omega, HY.out, by go_num, by rw [List.append_assoc, List.singleton_append, ← intTail_more h128]; exact HEE.out, HO4.out, HB4.out⟩
          case measure => simp [intOf]; omega
        · go_wp2_with (at_builtin; refine append_byte _ _ rfl _ _ rfl _ _ _ _ rfl HO.out _ rfl hq48 hbs ?_; intro v3 w3 ho3 hg3)
          have hB3 : Below w.heap.size w w3 := (HBB.out.alloc hbs _).grown hg3 (by simp; omega) (fun k hk => (HO.out.lt k hk).1)
          have HO3 := Lib.hid ho3
          have HB3 := Lib.hid hB3
          clear ho3 hg3 hB3 HO HBB hbs
          go_wp2_with fail
          go_ret
          refine ⟨v3, rfl, ?_, HB3.out⟩
          have h := HO3.out
          have e : xs ++ putInt 128 7 n = zs ++ ys ++ [UInt8.ofNat r] := by
            rw [HE.out, ← HEE.out, intTail_small (by omega), HZ.out]
            simp
          rw [e, bytesV_append, List.length_append]
          simpa [bytesV, Nat.mod_eq_of_lt (show r < 256 by omega), Int.emod_eq_of_lt (show (0 : Int) ≤ (r : Int) by omega) (show (r : Int) < 256 by omega)] using h
  · go_enter Tryd.func66, Tryd.ntmps66
    have d1 : decide ((n : Int) < 0) = false := decide_eq_false (by omega)
    have d2 : decide (2147483647 < (n : Int)) = false := decide_eq_false (by omega)
    have d3 : (Go.bits .and .i64 16 15 != 0) = false := by kernel_rfl
    have hq47 : L + 1 ≤ 140737488355328 := by omega
    by_cases hfl : n < 15
    · have hor : Go.bits .or .i64 (16 : Int) (n : Int) = ((16 + n : Nat) : Int) := by
        have e1 := or_i64 16 n (by omega) (by omega)
        have e2 := mul_or 1 4 n (by omega)
        rw [show 1 * 2 ^ 4 = 16 from rfl] at e2
        rw [e2] at e1
        exact e1
      have hwr : ((16 + n : Nat) : Int) % 256 = ((16 + n : Nat) : Int) := by omega
      have HW := Lib.hid hwr
      have HOR := Lib.hid hor
      clear hwr hor
      go_wp2_with (first | (refine wpList_append_any _ rfl (.tmp 14) (.tmp 15) 66 rfl w.heap.size 5 i (.int .u8 0) 1 1 Tryd.underlying66 HI.out hi0 hi1 hi2 rfl (by decide) _ 0 [] rfl (made_own w (L + 6) (by omega)) w.heap.size A L c (bytesV xs) rfl (HR.out.alloc (Nat.le_refl _) _) (bytes_one xs) (by unfold maxLen; omega) (by omega) (by simp) ?_; intro v1 w1 ho1 hg1 hat1; have hB1 : Below w.heap.size w w1 := ((Below.refl _ _).alloc (Nat.le_refl _) _).grown hg1 (by simp) (fun k hk => by have e : (some w.heap.size : Option Nat) = some k := hk; injection e with e; omega); rw [Nat.zero_add, List.nil_append] at ho1; have HO1 := Lib.hid ho1; have hs1 : w.heap.size ≤ w1.heap.size := hB1.size; have HB1 := Lib.hid hB1; clear ho1 hg1 hat1 hB1) | (at_builtin; refine append_byte _ _ rfl _ _ rfl _ _ _ _ rfl HO1.out _ rfl hq47 hs1 ?_; intro v2 w2 ho2 hg2))
      have hB2 : Below w.heap.size w w2 := (HB1.out.alloc hs1 _).grown hg2 (by simp; omega) (fun k hk => (HO1.out.lt k hk).1)
      have HO2 := Lib.hid ho2
      have HB2 := Lib.hid hB2
      clear ho2 hg2 hB2
      go_wp2_with fail
      go_ret
      refine ⟨v2, rfl, ?_, HB2.out⟩
      have h := HO2.out
      rw [HOR.out, HW.out] at h
      have e : putInt 16 4 n = [UInt8.ofNat (16 + n)] := by unfold putInt; rw [if_pos (by omega)]
      rw [e, bytesV_append, List.length_append, ← HLL.out]
      simpa [bytesV, Nat.mod_eq_of_lt (show 16 + n < 256 by omega)] using h
    · have hor : Go.bits .or .i64 (16 : Int) 15 = 31 := by kernel_rfl
      have hwr : (31 : Int) % 256 = 31 := by decide
      have HW := Lib.hid hwr
      have HOR := Lib.hid hor
      clear hwr hor
      go_wp2_with (first | (refine wpList_append_any _ rfl (.tmp 14) (.tmp 15) 66 rfl w.heap.size 5 i (.int .u8 0) 1 1 Tryd.underlying66 HI.out hi0 hi1 hi2 rfl (by decide) _ 0 [] rfl (made_own w (L + 6) (by omega)) w.heap.size A L c (bytesV xs) rfl (HR.out.alloc (Nat.le_refl _) _) (bytes_one xs) (by unfold maxLen; omega) (by omega) (by simp) ?_; intro v1 w1 ho1 hg1 hat1; have hB1 : Below w.heap.size w w1 := ((Below.refl _ _).alloc (Nat.le_refl _) _).grown hg1 (by simp) (fun k hk => by have e : (some w.heap.size : Option Nat) = some k := hk; injection e with e; omega); rw [Nat.zero_add, List.nil_append] at ho1; have HO1 := Lib.hid ho1; have hs1 : w.heap.size ≤ w1.heap.size := hB1.size; have HB1 := Lib.hid hB1; clear ho1 hg1 hat1 hB1) | (at_builtin; refine append_byte _ _ rfl _ _ rfl _ _ _ _ rfl HO1.out _ rfl hq47 hs1 ?_; intro v2 w2 ho2 hg2))
      have hB2 : Below w.heap.size w w2 := (HB1.out.alloc hs1 _).grown hg2 (by simp; omega) (fun k hk => (HO1.out.lt k hk).1)
      have e : putInt 16 4 n = UInt8.ofNat (16 + 15) :: intTail (n - 15) := by unfold putInt; rw [if_neg (by omega)]
      have ho3 : w2.ownsRow w.heap.size 5 1 v2 (xs ++ [UInt8.ofNat (16 + 15)] ++ []).length (bytesV (xs ++ [UInt8.ofNat (16 + 15)] ++ [])) := by
        have h := ho2
        try rw [HOR.out, HW.out] at h
        rw [List.append_nil, bytesV_append, List.length_append, ← HLL.out]
        simpa [bytesV] using h
      have HO3 := Lib.hid ho3
      have HB2 := Lib.hid hB2
      have HE := Lib.hid e
      have hzs : ∃ zs, zs = xs ++ [UInt8.ofNat (16 + 15)] ∧ zs.length = L + 1 := ⟨_, rfl, by rw [List.length_append, ← HLL.out]; rfl⟩
      obtain ⟨zs, hz, hzl⟩ := hzs
      rw [← hz] at HO3
      have HZ := Lib.hid hz
      have HZL := Lib.hid hzl
      obtain ⟨r0, hr0⟩ : ∃ r : Nat, n = r + 15 := ⟨n - 15, by omega⟩
      have hsub : n - 15 = r0 := by omega
      rw [hsub] at HE
      have HR0 := Lib.hid hr0
      clear ho2 ho3 hg2 hB2 HO1 HB1 hs1 e HW HOR hz hzl HLL hsub hr0
      go_wp2_with fail
      go_loopw [9, 3] (fun o q wr => ∃ (r : Nat) (ys : List UInt8), r ≤ 2147483647 ∧ (ys.length ≤ 4 ∧ r * 128 ^ ys.length ≤ 2147483647) ∧ q = .int .i64 (r : Int) ∧ ys ++ intTail r = intTail r0 ∧ wr.ownsRow w.heap.size 5 1 o (zs ++ ys).length (bytesV (zs ++ ys)) ∧ Below w.heap.size w wr) (fun _ q _ => (intOf q).toNat)
      case atStart => exact ⟨r0, [], by have := HR0.out; omega, ⟨by simp, by have := HR0.out; simp; omega⟩, by congr 1; have := HR0.out; omega, rfl, HO3.out, HB2.out⟩
      case round =>
        obtain ⟨r, ys, hr, hy, rfl, he, hO, hB⟩ := hrel
        clear HO3 HB2
        have hq48 : (zs ++ ys).length + 1 ≤ 140737488355328 := by rw [List.length_append, HZL.out]; have := hy.1; omega
        have hbs := hB.size
        have HO := Lib.hid hO
        have HY0 := Lib.hid hy
        have hy4 := hy.1
        clear hy
        have HBB := Lib.hid hB
        have HEE := Lib.hid he
        clear hO hB he
        by_cases h128 : 128 ≤ r
        · have HY := Lib.hid (tail_step ys.length r h128 HY0.out.2)
          have HY := Lib.hid (show (ys ++ [UInt8.ofNat (r % 128 + 128)]).length ≤ 4 ∧ r / 128 * 128 ^ (ys ++ [UInt8.ofNat (r % 128 + 128)]).length ≤ 2147483647 by rw [List.length_append]; exact HY.out)
          have hor := or_u8 (r % 256) (Nat.mod_lt _ (by decide))
          rw [show (((r % 256 : Nat)) : Int) = (r : Int) % 256 by omega] at hor
          have hmm : r % 256 % 128 = r % 128 := by omega
          rw [hmm] at hor
          have HOR := Lib.hid hor
          clear hor hmm
          go_wp2_with (at_builtin; refine append_byte _ _ rfl _ _ rfl _ _ _ _ rfl HO.out _ rfl hq48 hbs ?_; intro v3 w3 ho3 hg3)
          have hB3 : Below w.heap.size w w3 := (HBB.out.alloc hbs _).grown hg3 (by simp; omega) (fun k hk => (HO.out.lt k hk).1)
          have ho4 : w3.ownsRow w.heap.size 5 1 v3 (zs ++ (ys ++ [UInt8.ofNat (r % 128 + 128)])).length (bytesV (zs ++ (ys ++ [UInt8.ofNat (r % 128 + 128)]))) := by
            have h := ho3
            try rw [HOR.out] at h
            have hl : (zs ++ ys ++ [UInt8.ofNat (r % 128 + 128)]).length = (zs ++ ys).length + 1 := by rw [List.length_append]; rfl
            rw [← List.append_assoc, bytesV_append, hl]
            have e : ((r : Int) % 128 + 128) % 256 = (r : Int) % 128 + 128 := by omega
            simpa [bytesV, e] using h
          have HO4 := Lib.hid ho4
          have HB4 := Lib.hid hB3
          clear ho3 hg3 hB3 ho4 HO HBB hbs
          go_wp2_with fail
          go_roundw
          case rel => exact ⟨r / 128, ys ++ [UInt8.ofNat (r % 128 + 128)], by omega, HY.out, by go_num, by rw [List.append_assoc, List.singleton_append, ← intTail_more h128]; exact HEE.out, HO4.out, HB4.out⟩
          case measure => simp [intOf]; omega
        · go_wp2_with (at_builtin; refine append_byte _ _ rfl _ _ rfl _ _ _ _ rfl HO.out _ rfl hq48 hbs ?_; intro v3 w3 ho3 hg3)
          have hB3 : Below w.heap.size w w3 := (HBB.out.alloc hbs _).grown hg3 (by simp; omega) (fun k hk => (HO.out.lt k hk).1)
          have HO3 := Lib.hid ho3
          have HB3 := Lib.hid hB3
          clear ho3 hg3 hB3 HO HBB hbs
          go_wp2_with fail
          go_ret
          refine ⟨v3, rfl, ?_, HB3.out⟩
          have h := HO3.out
          have e : xs ++ putInt 16 4 n = zs ++ ys ++ [UInt8.ofNat r] := by
            rw [HE.out, ← HEE.out, intTail_small (by omega), HZ.out]
            simp
          rw [e, bytesV_append, List.length_append]
          simpa [bytesV, Nat.mod_eq_of_lt (show r < 256 by omega), Int.emod_eq_of_lt (show (0 : Int) ≤ (r : Int) by omega) (show (r : Int) < 256 by omega)] using h
  · go_enter Tryd.func66, Tryd.ntmps66
    have d1 : decide ((n : Int) < 0) = false := decide_eq_false (by omega)
    have d2 : decide (2147483647 < (n : Int)) = false := decide_eq_false (by omega)
    have d3 : (Go.bits .and .i64 0 15 != 0) = false := by kernel_rfl
    have hq47 : L + 1 ≤ 140737488355328 := by omega
    by_cases hfl : n < 15
    · have hor : Go.bits .or .i64 (0 : Int) (n : Int) = ((0 + n : Nat) : Int) := by
        have e1 := or_i64 0 n (by omega) (by omega)
        rw [Nat.zero_or] at e1
        rw [Nat.zero_add]
        exact e1
      have hwr : ((0 + n : Nat) : Int) % 256 = ((0 + n : Nat) : Int) := by omega
      have HW := Lib.hid hwr
      have HOR := Lib.hid hor
      clear hwr hor
      go_wp2_with (first | (refine wpList_append_any _ rfl (.tmp 14) (.tmp 15) 66 rfl w.heap.size 5 i (.int .u8 0) 1 1 Tryd.underlying66 HI.out hi0 hi1 hi2 rfl (by decide) _ 0 [] rfl (made_own w (L + 6) (by omega)) w.heap.size A L c (bytesV xs) rfl (HR.out.alloc (Nat.le_refl _) _) (bytes_one xs) (by unfold maxLen; omega) (by omega) (by simp) ?_; intro v1 w1 ho1 hg1 hat1; have hB1 : Below w.heap.size w w1 := ((Below.refl _ _).alloc (Nat.le_refl _) _).grown hg1 (by simp) (fun k hk => by have e : (some w.heap.size : Option Nat) = some k := hk; injection e with e; omega); rw [Nat.zero_add, List.nil_append] at ho1; have HO1 := Lib.hid ho1; have hs1 : w.heap.size ≤ w1.heap.size := hB1.size; have HB1 := Lib.hid hB1; clear ho1 hg1 hat1 hB1) | (at_builtin; refine append_byte _ _ rfl _ _ rfl _ _ _ _ rfl HO1.out _ rfl hq47 hs1 ?_; intro v2 w2 ho2 hg2))
      have hB2 : Below w.heap.size w w2 := (HB1.out.alloc hs1 _).grown hg2 (by simp; omega) (fun k hk => (HO1.out.lt k hk).1)
      have HO2 := Lib.hid ho2
      have HB2 := Lib.hid hB2
      clear ho2 hg2 hB2
      go_wp2_with fail
      go_ret
      refine ⟨v2, rfl, ?_, HB2.out⟩
      have h := HO2.out
      rw [HOR.out, HW.out] at h
      have e : putInt 0 4 n = [UInt8.ofNat (0 + n)] := by unfold putInt; rw [if_pos (by omega)]
      rw [e, bytesV_append, List.length_append, ← HLL.out]
      simpa [bytesV, show (n : Int) % 256 = (n : Int) by omega] using h
    · have hor : Go.bits .or .i64 (0 : Int) 15 = 15 := by kernel_rfl
      have hwr : (15 : Int) % 256 = 15 := by decide
      have HW := Lib.hid hwr
      have HOR := Lib.hid hor
      clear hwr hor
      go_wp2_with (first | (refine wpList_append_any _ rfl (.tmp 14) (.tmp 15) 66 rfl w.heap.size 5 i (.int .u8 0) 1 1 Tryd.underlying66 HI.out hi0 hi1 hi2 rfl (by decide) _ 0 [] rfl (made_own w (L + 6) (by omega)) w.heap.size A L c (bytesV xs) rfl (HR.out.alloc (Nat.le_refl _) _) (bytes_one xs) (by unfold maxLen; omega) (by omega) (by simp) ?_; intro v1 w1 ho1 hg1 hat1; have hB1 : Below w.heap.size w w1 := ((Below.refl _ _).alloc (Nat.le_refl _) _).grown hg1 (by simp) (fun k hk => by have e : (some w.heap.size : Option Nat) = some k := hk; injection e with e; omega); rw [Nat.zero_add, List.nil_append] at ho1; have HO1 := Lib.hid ho1; have hs1 : w.heap.size ≤ w1.heap.size := hB1.size; have HB1 := Lib.hid hB1; clear ho1 hg1 hat1 hB1) | (at_builtin; refine append_byte _ _ rfl _ _ rfl _ _ _ _ rfl HO1.out _ rfl hq47 hs1 ?_; intro v2 w2 ho2 hg2))
      have hB2 : Below w.heap.size w w2 := (HB1.out.alloc hs1 _).grown hg2 (by simp; omega) (fun k hk => (HO1.out.lt k hk).1)
      have e : putInt 0 4 n = UInt8.ofNat (0 + 15) :: intTail (n - 15) := by unfold putInt; rw [if_neg (by omega)]
      have ho3 : w2.ownsRow w.heap.size 5 1 v2 (xs ++ [UInt8.ofNat (0 + 15)] ++ []).length (bytesV (xs ++ [UInt8.ofNat (0 + 15)] ++ [])) := by
        have h := ho2
        try rw [HOR.out, HW.out] at h
        rw [List.append_nil, bytesV_append, List.length_append, ← HLL.out]
        simpa [bytesV] using h
      have HO3 := Lib.hid ho3
      have HB2 := Lib.hid hB2
      have HE := Lib.hid e
      have hzs : ∃ zs, zs = xs ++ [UInt8.ofNat (0 + 15)] ∧ zs.length = L + 1 := ⟨_, rfl, by rw [List.length_append, ← HLL.out]; rfl⟩
      obtain ⟨zs, hz, hzl⟩ := hzs
      rw [← hz] at HO3
      have HZ := Lib.hid hz
      have HZL := Lib.hid hzl
      obtain ⟨r0, hr0⟩ : ∃ r : Nat, n = r + 15 := ⟨n - 15, by omega⟩
      have hsub : n - 15 = r0 := by omega
      rw [hsub] at HE
      have HR0 := Lib.hid hr0
      clear ho2 ho3 hg2 hB2 HO1 HB1 hs1 e HW HOR hz hzl HLL hsub hr0
      go_wp2_with fail
      go_loopw [9, 3] (fun o q wr => ∃ (r : Nat) (ys : List UInt8), r ≤ 2147483647 ∧ (ys.length ≤ 4 ∧ r * 128 ^ ys.length ≤ 2147483647) ∧ q = .int .i64 (r : Int) ∧ ys ++ intTail r = intTail r0 ∧ wr.ownsRow w.heap.size 5 1 o (zs ++ ys).length (bytesV (zs ++ ys)) ∧ Below w.heap.size w wr) (fun _ q _ => (intOf q).toNat)
      case atStart => exact ⟨r0, [], by have := HR0.out; omega, ⟨by simp, by have := HR0.out; simp; omega⟩, by congr 1; have := HR0.out; omega, rfl, HO3.out, HB2.out⟩
      case round =>
        obtain ⟨r, ys, hr, hy, rfl, he, hO, hB⟩ := hrel
        clear HO3 HB2
        have hq48 : (zs ++ ys).length + 1 ≤ 140737488355328 := by rw [List.length_append, HZL.out]; have := hy.1; omega
        have hbs := hB.size
        have HO := Lib.hid hO
        have HY0 := Lib.hid hy
        have hy4 := hy.1
        clear hy
        have HBB := Lib.hid hB
        have HEE := Lib.hid he
        clear hO hB he
        by_cases h128 : 128 ≤ r
        · have HY := Lib.hid (tail_step ys.length r h128 HY0.out.2)
          have HY := Lib.hid (show (ys ++ [UInt8.ofNat (r % 128 + 128)]).length ≤ 4 ∧ r / 128 * 128 ^ (ys ++ [UInt8.ofNat (r % 128 + 128)]).length ≤ 2147483647 by rw [List.length_append]; exact HY.out)
          have hor := or_u8 (r % 256) (Nat.mod_lt _ (by decide))
          rw [show (((r % 256 : Nat)) : Int) = (r : Int) % 256 by omega] at hor
          have hmm : r % 256 % 128 = r % 128 := by omega
          rw [hmm] at hor
          have HOR := Lib.hid hor
          clear hor hmm
          go_wp2_with (at_builtin; refine append_byte _ _ rfl _ _ rfl _ _ _ _ rfl HO.out _ rfl hq48 hbs ?_; intro v3 w3 ho3 hg3)
          have hB3 : Below w.heap.size w w3 := (HBB.out.alloc hbs _).grown hg3 (by simp; omega) (fun k hk => (HO.out.lt k hk).1)
          have ho4 : w3.ownsRow w.heap.size 5 1 v3 (zs ++ (ys ++ [UInt8.ofNat (r % 128 + 128)])).length (bytesV (zs ++ (ys ++ [UInt8.ofNat (r % 128 + 128)]))) := by
            have h := ho3
            try rw [HOR.out] at h
            have hl : (zs ++ ys ++ [UInt8.ofNat (r % 128 + 128)]).length = (zs ++ ys).length + 1 := by rw [List.length_append]; rfl
            rw [← List.append_assoc, bytesV_append, hl]
            have e : ((r : Int) % 128 + 128) % 256 = (r : Int) % 128 + 128 := by omega
            simpa [bytesV, e] using h
          have HO4 := Lib.hid ho4
          have HB4 := Lib.hid hB3
          clear ho3 hg3 hB3 ho4 HO HBB hbs
          go_wp2_with fail
          go_roundw
          case rel => exact ⟨r / 128, ys ++ [UInt8.ofNat (r % 128 + 128)], by omega, HY.out, by go_num, by rw [List.append_assoc, List.singleton_append, ← intTail_more h128]; exact HEE.out, HO4.out, HB4.out⟩
          case measure => simp [intOf]; omega
        · go_wp2_with (at_builtin; refine append_byte _ _ rfl _ _ rfl _ _ _ _ rfl HO.out _ rfl hq48 hbs ?_; intro v3 w3 ho3 hg3)
          have hB3 : Below w.heap.size w w3 := (HBB.out.alloc hbs _).grown hg3 (by simp; omega) (fun k hk => (HO.out.lt k hk).1)
          have HO3 := Lib.hid ho3
          have HB3 := Lib.hid hB3
          clear ho3 hg3 hB3 HO HBB hbs
          go_wp2_with fail
          go_ret
          refine ⟨v3, rfl, ?_, HB3.out⟩
          have h := HO3.out
          have e : xs ++ putInt 0 4 n = zs ++ ys ++ [UInt8.ofNat r] := by
            rw [HE.out, ← HEE.out, intTail_small (by omega), HZ.out]
            simp
          rw [e, bytesV_append, List.length_append]
          simpa [bytesV, Nat.mod_eq_of_lt (show r < 256 by omega), Int.emod_eq_of_lt (show (0 : Int) ≤ (r : Int) by omega) (show (r : Int) < 256 by omega)] using h
  · go_enter Tryd.func66, Tryd.ntmps66
    have d1 : decide ((n : Int) < 0) = false := decide_eq_false (by omega)
    have d2 : decide (2147483647 < (n : Int)) = false := decide_eq_false (by omega)
    have d3 : (Go.bits .and .i64 64 63 != 0) = false := by kernel_rfl
    have hq47 : L + 1 ≤ 140737488355328 := by omega
    by_cases hfl : n < 63
    · have hor : Go.bits .or .i64 (64 : Int) (n : Int) = ((64 + n : Nat) : Int) := by
        have e1 := or_i64 64 n (by omega) (by omega)
        have e2 := mul_or 1 6 n (by omega)
        rw [show 1 * 2 ^ 6 = 64 from rfl] at e2
        rw [e2] at e1
        exact e1
      have hwr : ((64 + n : Nat) : Int) % 256 = ((64 + n : Nat) : Int) := by omega
      have HW := Lib.hid hwr
      have HOR := Lib.hid hor
      clear hwr hor
      go_wp2_with (first | (refine wpList_append_any _ rfl (.tmp 14) (.tmp 15) 66 rfl w.heap.size 5 i (.int .u8 0) 1 1 Tryd.underlying66 HI.out hi0 hi1 hi2 rfl (by decide) _ 0 [] rfl (made_own w (L + 6) (by omega)) w.heap.size A L c (bytesV xs) rfl (HR.out.alloc (Nat.le_refl _) _) (bytes_one xs) (by unfold maxLen; omega) (by omega) (by simp) ?_; intro v1 w1 ho1 hg1 hat1; have hB1 : Below w.heap.size w w1 := ((Below.refl _ _).alloc (Nat.le_refl _) _).grown hg1 (by simp) (fun k hk => by have e : (some w.heap.size : Option Nat) = some k := hk; injection e with e; omega); rw [Nat.zero_add, List.nil_append] at ho1; have HO1 := Lib.hid ho1; have hs1 : w.heap.size ≤ w1.heap.size := hB1.size; have HB1 := Lib.hid hB1; clear ho1 hg1 hat1 hB1) | (at_builtin; refine append_byte _ _ rfl _ _ rfl _ _ _ _ rfl HO1.out _ rfl hq47 hs1 ?_; intro v2 w2 ho2 hg2))
      have hB2 : Below w.heap.size w w2 := (HB1.out.alloc hs1 _).grown hg2 (by simp; omega) (fun k hk => (HO1.out.lt k hk).1)
      have HO2 := Lib.hid ho2
      have HB2 := Lib.hid hB2
      clear ho2 hg2 hB2
      go_wp2_with fail
      go_ret
      refine ⟨v2, rfl, ?_, HB2.out⟩
      have h := HO2.out
      rw [HOR.out, HW.out] at h
      have e : putInt 64 6 n = [UInt8.ofNat (64 + n)] := by unfold putInt; rw [if_pos (by omega)]
      rw [e, bytesV_append, List.length_append, ← HLL.out]
      simpa [bytesV, Nat.mod_eq_of_lt (show 64 + n < 256 by omega)] using h
    · have hor : Go.bits .or .i64 (64 : Int) 63 = 127 := by kernel_rfl
      have hwr : (127 : Int) % 256 = 127 := by decide
      have HW := Lib.hid hwr
      have HOR := Lib.hid hor
      clear hwr hor
      go_wp2_with (first | (refine wpList_append_any _ rfl (.tmp 14) (.tmp 15) 66 rfl w.heap.size 5 i (.int .u8 0) 1 1 Tryd.underlying66 HI.out hi0 hi1 hi2 rfl (by decide) _ 0 [] rfl (made_own w (L + 6) (by omega)) w.heap.size A L c (bytesV xs) rfl (HR.out.alloc (Nat.le_refl _) _) (bytes_one xs) (by unfold maxLen; omega) (by omega) (by simp) ?_; intro v1 w1 ho1 hg1 hat1; have hB1 : Below w.heap.size w w1 := ((Below.refl _ _).alloc (Nat.le_refl _) _).grown hg1 (by simp) (fun k hk => by have e : (some w.heap.size : Option Nat) = some k := hk; injection e with e; omega); rw [Nat.zero_add, List.nil_append] at ho1; have HO1 := Lib.hid ho1; have hs1 : w.heap.size ≤ w1.heap.size := hB1.size; have HB1 := Lib.hid hB1; clear ho1 hg1 hat1 hB1) | (at_builtin; refine append_byte _ _ rfl _ _ rfl _ _ _ _ rfl HO1.out _ rfl hq47 hs1 ?_; intro v2 w2 ho2 hg2))
      have hB2 : Below w.heap.size w w2 := (HB1.out.alloc hs1 _).grown hg2 (by simp; omega) (fun k hk => (HO1.out.lt k hk).1)
      have e : putInt 64 6 n = UInt8.ofNat (64 + 63) :: intTail (n - 63) := by unfold putInt; rw [if_neg (by omega)]
      have ho3 : w2.ownsRow w.heap.size 5 1 v2 (xs ++ [UInt8.ofNat (64 + 63)] ++ []).length (bytesV (xs ++ [UInt8.ofNat (64 + 63)] ++ [])) := by
        have h := ho2
        try rw [HOR.out, HW.out] at h
        rw [List.append_nil, bytesV_append, List.length_append, ← HLL.out]
        simpa [bytesV] using h
      have HO3 := Lib.hid ho3
      have HB2 := Lib.hid hB2
      have HE := Lib.hid e
      have hzs : ∃ zs, zs = xs ++ [UInt8.ofNat (64 + 63)] ∧ zs.length = L + 1 := ⟨_, rfl, by rw [List.length_append, ← HLL.out]; rfl⟩
      obtain ⟨zs, hz, hzl⟩ := hzs
      rw [← hz] at HO3
      have HZ := Lib.hid hz
      have HZL := Lib.hid hzl
      obtain ⟨r0, hr0⟩ : ∃ r : Nat, n = r + 63 := ⟨n - 63, by omega⟩
      have hsub : n - 63 = r0 := by omega
      rw [hsub] at HE
      have HR0 := Lib.hid hr0
      clear ho2 ho3 hg2 hB2 HO1 HB1 hs1 e HW HOR hz hzl HLL hsub hr0
      go_wp2_with fail
      go_loopw [9, 3] (fun o q wr => ∃ (r : Nat) (ys : List UInt8), r ≤ 2147483647 ∧ (ys.length ≤ 4 ∧ r * 128 ^ ys.length ≤ 2147483647) ∧ q = .int .i64 (r : Int) ∧ ys ++ intTail r = intTail r0 ∧ wr.ownsRow w.heap.size 5 1 o (zs ++ ys).length (bytesV (zs ++ ys)) ∧ Below w.heap.size w wr) (fun _ q _ => (intOf q).toNat)
      case atStart => exact ⟨r0, [], by have := HR0.out; omega, ⟨by simp, by have := HR0.out; simp; omega⟩, by congr 1; have := HR0.out; omega, rfl, HO3.out, HB2.out⟩
      case round =>
        obtain ⟨r, ys, hr, hy, rfl, he, hO, hB⟩ := hrel
        clear HO3 HB2
        have hq48 : (zs ++ ys).length + 1 ≤ 140737488355328 := by rw [List.length_append, HZL.out]; have := hy.1; omega
        have hbs := hB.size
        have HO := Lib.hid hO
        have HY0 := Lib.hid hy
        have hy4 := hy.1
        clear hy
        have HBB := Lib.hid hB
        have HEE := Lib.hid he
        clear hO hB he
        by_cases h128 : 128 ≤ r
        · have HY := Lib.hid (tail_step ys.length r h128 HY0.out.2)
          have HY := Lib.hid (show (ys ++ [UInt8.ofNat (r % 128 + 128)]).length ≤ 4 ∧ r / 128 * 128 ^ (ys ++ [UInt8.ofNat (r % 128 + 128)]).length ≤ 2147483647 by rw [List.length_append]; exact HY.out)
          have hor := or_u8 (r % 256) (Nat.mod_lt _ (by decide))
          rw [show (((r % 256 : Nat)) : Int) = (r : Int) % 256 by omega] at hor
          have hmm : r % 256 % 128 = r % 128 := by omega
          rw [hmm] at hor
          have HOR := Lib.hid hor
          clear hor hmm
          go_wp2_with (at_builtin; refine append_byte _ _ rfl _ _ rfl _ _ _ _ rfl HO.out _ rfl hq48 hbs ?_; intro v3 w3 ho3 hg3)
          have hB3 : Below w.heap.size w w3 := (HBB.out.alloc hbs _).grown hg3 (by simp; omega) (fun k hk => (HO.out.lt k hk).1)
          have ho4 : w3.ownsRow w.heap.size 5 1 v3 (zs ++ (ys ++ [UInt8.ofNat (r % 128 + 128)])).length (bytesV (zs ++ (ys ++ [UInt8.ofNat (r % 128 + 128)]))) := by
            have h := ho3
            try rw [HOR.out] at h
            have hl : (zs ++ ys ++ [UInt8.ofNat (r % 128 + 128)]).length = (zs ++ ys).length + 1 := by rw [List.length_append]; rfl
            rw [← List.append_assoc, bytesV_append, hl]
            have e : ((r : Int) % 128 + 128) % 256 = (r : Int) % 128 + 128 := by omega
            simpa [bytesV, e] using h
          have HO4 := Lib.hid ho4
          have HB4 := Lib.hid hB3
          clear ho3 hg3 hB3 ho4 HO HBB hbs
          go_wp2_with fail
          go_roundw
          case rel => exact ⟨r / 128, ys ++ [UInt8.ofNat (r % 128 + 128)], by omega, HY.out, by go_num, by rw [List.append_assoc, List.singleton_append, ← intTail_more h128]; exact HEE.out, HO4.out, HB4.out⟩
          case measure => simp [intOf]; omega
        · go_wp2_with (at_builtin; refine append_byte _ _ rfl _ _ rfl _ _ _ _ rfl HO.out _ rfl hq48 hbs ?_; intro v3 w3 ho3 hg3)
          have hB3 : Below w.heap.size w w3 := (HBB.out.alloc hbs _).grown hg3 (by simp; omega) (fun k hk => (HO.out.lt k hk).1)
          have HO3 := Lib.hid ho3
          have HB3 := Lib.hid hB3
          clear ho3 hg3 hB3 HO HBB hbs
          go_wp2_with fail
          go_ret
          refine ⟨v3, rfl, ?_, HB3.out⟩
          have h := HO3.out
          have e : xs ++ putInt 64 6 n = zs ++ ys ++ [UInt8.ofNat r] := by
            rw [HE.out, ← HEE.out, intTail_small (by omega), HZ.out]
            simp
          rw [e, bytesV_append, List.length_append]
          simpa [bytesV, Nat.mod_eq_of_lt (show r < 256 by omega), Int.emod_eq_of_lt (show (0 : Int) ≤ (r : Int) by omega) (show (r : Int) < 256 by omega)] using h
  · go_enter Tryd.func66, Tryd.ntmps66
    have d1 : decide ((n : Int) < 0) = false := decide_eq_false (by omega)
    have d2 : decide (2147483647 < (n : Int)) = false := decide_eq_false (by omega)
    have d3 : (Go.bits .and .i64 0 127 != 0) = false := by kernel_rfl
    have hq47 : L + 1 ≤ 140737488355328 := by omega
    by_cases hfl : n < 127
    · have hor : Go.bits .or .i64 (0 : Int) (n : Int) = ((0 + n : Nat) : Int) := by
        have e1 := or_i64 0 n (by omega) (by omega)
        rw [Nat.zero_or] at e1
        rw [Nat.zero_add]
        exact e1
      have hwr : ((0 + n : Nat) : Int) % 256 = ((0 + n : Nat) : Int) := by omega
      have HW := Lib.hid hwr
      have HOR := Lib.hid hor
      clear hwr hor
      go_wp2_with (first | (refine wpList_append_any _ rfl (.tmp 14) (.tmp 15) 66 rfl w.heap.size 5 i (.int .u8 0) 1 1 Tryd.underlying66 HI.out hi0 hi1 hi2 rfl (by decide) _ 0 [] rfl (made_own w (L + 6) (by omega)) w.heap.size A L c (bytesV xs) rfl (HR.out.alloc (Nat.le_refl _) _) (bytes_one xs) (by unfold maxLen; omega) (by omega) (by simp) ?_; intro v1 w1 ho1 hg1 hat1; have hB1 : Below w.heap.size w w1 := ((Below.refl _ _).alloc (Nat.le_refl _) _).grown hg1 (by simp) (fun k hk => by have e : (some w.heap.size : Option Nat) = some k := hk; injection e with e; omega); rw [Nat.zero_add, List.nil_append] at ho1; have HO1 := Lib.hid ho1; have hs1 : w.heap.size ≤ w1.heap.size := hB1.size; have HB1 := Lib.hid hB1; clear ho1 hg1 hat1 hB1) | (at_builtin; refine append_byte _ _ rfl _ _ rfl _ _ _ _ rfl HO1.out _ rfl hq47 hs1 ?_; intro v2 w2 ho2 hg2))
      have hB2 : Below w.heap.size w w2 := (HB1.out.alloc hs1 _).grown hg2 (by simp; omega) (fun k hk => (HO1.out.lt k hk).1)
      have HO2 := Lib.hid ho2
      have HB2 := Lib.hid hB2
      clear ho2 hg2 hB2
      go_wp2_with fail
      go_ret
      refine ⟨v2, rfl, ?_, HB2.out⟩
      have h := HO2.out
      rw [HOR.out, HW.out] at h
      have e : putInt 0 7 n = [UInt8.ofNat (0 + n)] := by unfold putInt; rw [if_pos (by omega)]
      rw [e, bytesV_append, List.length_append, ← HLL.out]
      simpa [bytesV, show (n : Int) % 256 = (n : Int) by omega] using h
    · have hor : Go.bits .or .i64 (0 : Int) 127 = 127 := by kernel_rfl
      have hwr : (127 : Int) % 256 = 127 := by decide
      have HW := Lib.hid hwr
      have HOR := Lib.hid hor
      clear hwr hor
      go_wp2_with (first | (refine wpList_append_any _ rfl (.tmp 14) (.tmp 15) 66 rfl w.heap.size 5 i (.int .u8 0) 1 1 Tryd.underlying66 HI.out hi0 hi1 hi2 rfl (by decide) _ 0 [] rfl (made_own w (L + 6) (by omega)) w.heap.size A L c (bytesV xs) rfl (HR.out.alloc (Nat.le_refl _) _) (bytes_one xs) (by unfold maxLen; omega) (by omega) (by simp) ?_; intro v1 w1 ho1 hg1 hat1; have hB1 : Below w.heap.size w w1 := ((Below.refl _ _).alloc (Nat.le_refl _) _).grown hg1 (by simp) (fun k hk => by have e : (some w.heap.size : Option Nat) = some k := hk; injection e with e; omega); rw [Nat.zero_add, List.nil_append] at ho1; have HO1 := Lib.hid ho1; have hs1 : w.heap.size ≤ w1.heap.size := hB1.size; have HB1 := Lib.hid hB1; clear ho1 hg1 hat1 hB1) | (at_builtin; refine append_byte _ _ rfl _ _ rfl _ _ _ _ rfl HO1.out _ rfl hq47 hs1 ?_; intro v2 w2 ho2 hg2))
      have hB2 : Below w.heap.size w w2 := (HB1.out.alloc hs1 _).grown hg2 (by simp; omega) (fun k hk => (HO1.out.lt k hk).1)
      have e : putInt 0 7 n = UInt8.ofNat (0 + 127) :: intTail (n - 127) := by unfold putInt; rw [if_neg (by omega)]
      have ho3 : w2.ownsRow w.heap.size 5 1 v2 (xs ++ [UInt8.ofNat (0 + 127)] ++ []).length (bytesV (xs ++ [UInt8.ofNat (0 + 127)] ++ [])) := by
        have h := ho2
        try rw [HOR.out, HW.out] at h
        rw [List.append_nil, bytesV_append, List.length_append, ← HLL.out]
        simpa [bytesV] using h
      have HO3 := Lib.hid ho3
      have HB2 := Lib.hid hB2
      have HE := Lib.hid e
      have hzs : ∃ zs, zs = xs ++ [UInt8.ofNat (0 + 127)] ∧ zs.length = L + 1 := ⟨_, rfl, by rw [List.length_append, ← HLL.out]; rfl⟩
      obtain ⟨zs, hz, hzl⟩ := hzs
      rw [← hz] at HO3
      have HZ := Lib.hid hz
      have HZL := Lib.hid hzl
      obtain ⟨r0, hr0⟩ : ∃ r : Nat, n = r + 127 := ⟨n - 127, by omega⟩
      have hsub : n - 127 = r0 := by omega
      rw [hsub] at HE
      have HR0 := Lib.hid hr0
      clear ho2 ho3 hg2 hB2 HO1 HB1 hs1 e HW HOR hz hzl HLL hsub hr0
      go_wp2_with fail
      go_loopw [9, 3] (fun o q wr => ∃ (r : Nat) (ys : List UInt8), r ≤ 2147483647 ∧ (ys.length ≤ 4 ∧ r * 128 ^ ys.length ≤ 2147483647) ∧ q = .int .i64 (r : Int) ∧ ys ++ intTail r = intTail r0 ∧ wr.ownsRow w.heap.size 5 1 o (zs ++ ys).length (bytesV (zs ++ ys)) ∧ Below w.heap.size w wr) (fun _ q _ => (intOf q).toNat)
      case atStart => exact ⟨r0, [], by have := HR0.out; omega, ⟨by simp, by have := HR0.out; simp; omega⟩, by congr 1; have := HR0.out; omega, rfl, HO3.out, HB2.out⟩
      case round =>
        obtain ⟨r, ys, hr, hy, rfl, he, hO, hB⟩ := hrel
        clear HO3 HB2
        have hq48 : (zs ++ ys).length + 1 ≤ 140737488355328 := by rw [List.length_append, HZL.out]; have := hy.1; omega
        have hbs := hB.size
        have HO := Lib.hid hO
        have HY0 := Lib.hid hy
        have hy4 := hy.1
        clear hy
        have HBB := Lib.hid hB
        have HEE := Lib.hid he
        clear hO hB he
        by_cases h128 : 128 ≤ r
        · have HY := Lib.hid (tail_step ys.length r h128 HY0.out.2)
          have HY := Lib.hid (show (ys ++ [UInt8.ofNat (r % 128 + 128)]).length ≤ 4 ∧ r / 128 * 128 ^ (ys ++ [UInt8.ofNat (r % 128 + 128)]).length ≤ 2147483647 by rw [List.length_append]; exact HY.out)
          have hor := or_u8 (r % 256) (Nat.mod_lt _ (by decide))
          rw [show (((r % 256 : Nat)) : Int) = (r : Int) % 256 by omega] at hor
          have hmm : r % 256 % 128 = r % 128 := by omega
          rw [hmm] at hor
          have HOR := Lib.hid hor
          clear hor hmm
          go_wp2_with (at_builtin; refine append_byte _ _ rfl _ _ rfl _ _ _ _ rfl HO.out _ rfl hq48 hbs ?_; intro v3 w3 ho3 hg3)
          have hB3 : Below w.heap.size w w3 := (HBB.out.alloc hbs _).grown hg3 (by simp; omega) (fun k hk => (HO.out.lt k hk).1)
          have ho4 : w3.ownsRow w.heap.size 5 1 v3 (zs ++ (ys ++ [UInt8.ofNat (r % 128 + 128)])).length (bytesV (zs ++ (ys ++ [UInt8.ofNat (r % 128 + 128)]))) := by
            have h := ho3
            try rw [HOR.out] at h
            have hl : (zs ++ ys ++ [UInt8.ofNat (r % 128 + 128)]).length = (zs ++ ys).length + 1 := by rw [List.length_append]; rfl
            rw [← List.append_assoc, bytesV_append, hl]
            have e : ((r : Int) % 128 + 128) % 256 = (r : Int) % 128 + 128 := by omega
            simpa [bytesV, e] using h
          have HO4 := Lib.hid ho4
          have HB4 := Lib.hid hB3
          clear ho3 hg3 hB3 ho4 HO HBB hbs
          go_wp2_with fail
          go_roundw
          case rel => exact ⟨r / 128, ys ++ [UInt8.ofNat (r % 128 + 128)], by omega, HY.out, by go_num, by rw [List.append_assoc, List.singleton_append, ← intTail_more h128]; exact HEE.out, HO4.out, HB4.out⟩
          case measure => simp [intOf]; omega
        · go_wp2_with (at_builtin; refine append_byte _ _ rfl _ _ rfl _ _ _ _ rfl HO.out _ rfl hq48 hbs ?_; intro v3 w3 ho3 hg3)
          have hB3 : Below w.heap.size w w3 := (HBB.out.alloc hbs _).grown hg3 (by simp; omega) (fun k hk => (HO.out.lt k hk).1)
          have HO3 := Lib.hid ho3
          have HB3 := Lib.hid hB3
          clear ho3 hg3 hB3 HO HBB hbs
          go_wp2_with fail
          go_ret
          refine ⟨v3, rfl, ?_, HB3.out⟩
          have h := HO3.out
          have e : xs ++ putInt 0 7 n = zs ++ ys ++ [UInt8.ofNat r] := by
            rw [HE.out, ← HEE.out, intTail_small (by omega), HZ.out]
            simp
          rw [e, bytesV_append, List.length_append]
          simpa [bytesV, Nat.mod_eq_of_lt (show r < 256 by omega), Int.emod_eq_of_lt (show (0 : Int) ≤ (r : Int) by omega) (show (r : Int) < 256 by omega)] using h
end Go.Proofs.YtflmgjidnclegaaDoor.Hpk
