/-
  The walk of parleyref4's PutInt.
-/
import Derived.Test.YtflmgjidnclegaaDoorPutM
namespace Go.Proofs.YtflmgjidnclegaaDoor.Hpk
open Go.RowKit
open Huff (bytesV bytesV_append bytesV_len append_byte)
theorem ofNat_toNat {n : Nat} (h : n < 256) : (UInt8.ofNat n).toNat = n := UInt8.toNat_ofNat_of_lt' h
theorem one_lit (w : World) (x : UInt8) (z : Int) (hz : z = (x.toNat : Int)) : (w.alloc (.cells #[.int .u8 z] 5)).ownsRow w.heap.size 5 1 (.slice (some ⟨w.heap.size, 0, none⟩) 1 1) 1 (bytesV [x]) := by
  subst hz
  exact World.ownsRow_lit w #[.int .u8 (x.toNat : Int)] 1 (Nat.le_refl _) (by unfold maxLen; omega) rfl
set_option maxRecDepth 100000 in
set_option maxHeartbeats 4000000 in
theorem rputint_any (first bits n : Nat) (hp : Pre first bits) (hn : n ≤ 2147483647) (w : World) :
    Calls Tryd.prog 71 #[.int .i64 (first : Int), .int .i64 (bits : Int), .int .i64 (n : Int)] w (BytesEnd w (putInt first bits n)) := by
  have hpre : (first = 32 ∧ bits = 5) ∨ (first = 128 ∧ bits = 7) ∨ (first = 16 ∧ bits = 4) ∨ (first = 0 ∧ bits = 4) ∨ (first = 64 ∧ bits = 6) ∨ (first = 0 ∧ bits = 7) := hp
  clear hp
  rcases hpre with ⟨rfl, rfl⟩ | ⟨rfl, rfl⟩ | ⟨rfl, rfl⟩ | ⟨rfl, rfl⟩ | ⟨rfl, rfl⟩ | ⟨rfl, rfl⟩
  · show Calls Tryd.prog 71 #[.int .i64 32, .int .i64 5, .int .i64 (n : Int)] w (BytesEnd w (putInt 32 5 n))
    go_enter Tryd.func71, Tryd.ntmps71
    have d1 : decide ((n : Int) < 0) = false := decide_eq_false (by omega)
    have d2 : decide ((n : Int) > 2147483647) = false := decide_eq_false (by omega)
    by_cases hfl : n < 31
    · have d4 : decide ((n : Int) < 31) = true := decide_eq_true (by omega)
      have hw : ((32 : Int) + (n : Int)) % 256 = (32 : Int) + (n : Int) := by omega
      go_wp2_with fail
      go_ret
      have e : putInt 32 5 n = [UInt8.ofNat (32 + n)] := by unfold putInt; rw [if_pos (by omega)]
      rw [e]
      exact ⟨_, rfl, one_lit w (UInt8.ofNat (32 + n)) _ (by rw [ofNat_toNat (by omega)]; first | omega | (simp only [hw]; omega)), (Below.refl _ _).alloc (Nat.le_refl _) _⟩
    · have d4 : decide ((n : Int) < 31) = false := decide_eq_false (by omega)
      have e : putInt 32 5 n = UInt8.ofNat 63 :: intTail (n - 31) := by unfold putInt; rw [if_neg (by omega)]
      have ho3 : (w.alloc (.cells #[.int .u8 63] 5)).ownsRow w.heap.size 5 1 (.slice (some ⟨w.heap.size, 0, none⟩) 1 1) ([UInt8.ofNat 63] ++ []).length (bytesV ([UInt8.ofNat 63] ++ [])) := one_lit w (UInt8.ofNat 63) 63 (by decide)
      have hB2 : Below w.heap.size w (w.alloc (.cells #[.int .u8 63] 5)) := (Below.refl _ _).alloc (Nat.le_refl _) _
      have HO3 := Lib.hid ho3
      have HB2 := Lib.hid hB2
      have HE := Lib.hid e
      obtain ⟨zs, hz, hzl⟩ : ∃ zs : List UInt8, zs = [UInt8.ofNat 63] ∧ zs.length = 1 := ⟨_, rfl, rfl⟩
      rw [← hz] at HO3
      have HZ := Lib.hid hz
      have HZL := Lib.hid hzl
      obtain ⟨r0, hr0⟩ : ∃ r : Nat, n = r + 31 := ⟨n - 31, by omega⟩
      have hsub : n - 31 = r0 := by omega
      rw [hsub] at HE
      have HR0 := Lib.hid hr0
      clear ho3 hB2 e hz hzl hsub hr0
      go_wp2_with fail
      go_loopw [8, 2] (fun o q wr => ∃ (r : Nat) (ys : List UInt8), r ≤ 2147483647 ∧ (ys.length ≤ 4 ∧ r * 128 ^ ys.length ≤ 2147483647) ∧ q = .int .i64 (r : Int) ∧ ys ++ intTail r = intTail r0 ∧ wr.ownsRow w.heap.size 5 1 o (zs ++ ys).length (bytesV (zs ++ ys)) ∧ Below w.heap.size w wr) (fun _ q _ => (intOf q).toNat)
      case atStart => exact ⟨r0, [], by have := HR0.out; omega, ⟨by simp, by have := HR0.out; simp; omega⟩, by congr 1; have := HR0.out; omega, rfl, HO3.out, HB2.out⟩
      case round =>
        obtain ⟨r, ys, hr, hy, rfl, he, hO, hB⟩ := hrel
        clear HO3 HB2
        have hq48 : (zs ++ ys).length + 1 ≤ 140737488355328 := by rw [List.length_append, HZL.out]; have := hy.1; omega
        have hbs := hB.size
        have HO := Lib.hid hO
        have HY0 := Lib.hid hy
        have hy4 := hy.1
        clear hy
        have HBB := Lib.hid hB
        have HEE := Lib.hid he
        clear hO hB he
        by_cases h128 : 128 ≤ r
        · have HY := Lib.hid (tail_step ys.length r h128 HY0.out.2)
          have HY := Lib.hid (show (ys ++ [UInt8.ofNat (r % 128 + 128)]).length ≤ 4 ∧ r / 128 * 128 ^ (ys ++ [UInt8.ofNat (r % 128 + 128)]).length ≤ 2147483647 by rw [List.length_append]; exact HY.out)
          go_wp2_with (at_builtin; refine append_byte _ _ rfl _ _ rfl _ _ _ _ rfl HO.out _ rfl hq48 hbs ?_; intro v3 w3 ho3 hg3)
          have hB3 : Below w.heap.size w w3 := (HBB.out.alloc hbs _).grown hg3 (by simp; omega) (fun k hk => (HO.out.lt k hk).1)
          have ho4 : w3.ownsRow w.heap.size 5 1 v3 (zs ++ (ys ++ [UInt8.ofNat (r % 128 + 128)])).length (bytesV (zs ++ (ys ++ [UInt8.ofNat (r % 128 + 128)]))) := by
            have h := ho3
            have hl : (zs ++ ys ++ [UInt8.ofNat (r % 128 + 128)]).length = (zs ++ ys).length + 1 := by rw [List.length_append]; rfl
            rw [← List.append_assoc, bytesV_append, hl]
            have e : ((r : Int) % 128 + 128) % 256 = (r : Int) % 128 + 128 := by omega
            simpa [bytesV, e] using h
          have HO4 := Lib.hid ho4
          have HB4 := Lib.hid hB3
          clear ho3 hg3 hB3 ho4 HO HBB hbs
          go_wp2_with fail
          go_roundw
          case rel => exact ⟨r / 128, ys ++ [UInt8.ofNat (r % 128 + 128)], by omega, HY.out, by go_num, by rw [List.append_assoc, List.singleton_append, ← intTail_more h128]; exact HEE.out, HO4.out, HB4.out⟩
          case measure => simp [intOf]; omega
        · go_wp2_with (at_builtin; refine append_byte _ _ rfl _ _ rfl _ _ _ _ rfl HO.out _ rfl hq48 hbs ?_; intro v3 w3 ho3 hg3)
          have hB3 : Below w.heap.size w w3 := (HBB.out.alloc hbs _).grown hg3 (by simp; omega) (fun k hk => (HO.out.lt k hk).1)
          have HO3 := Lib.hid ho3
          have HB3 := Lib.hid hB3
          clear ho3 hg3 hB3 HO HBB hbs
          go_wp2_with fail
          go_ret
          refine ⟨v3, rfl, ?_, HB3.out⟩
          have h := HO3.out
          have e : putInt 32 5 n = zs ++ ys ++ [UInt8.ofNat r] := by
            rw [HE.out, ← HEE.out, intTail_small (by omega), HZ.out]
            simp
          rw [e, bytesV_append, List.length_append]
          simpa [bytesV, Nat.mod_eq_of_lt (show r < 256 by omega), Int.emod_eq_of_lt (show (0 : Int) ≤ (r : Int) by omega) (show (r : Int) < 256 by omega)] using h
  · show Calls Tryd.prog 71 #[.int .i64 128, .int .i64 7, .int .i64 (n : Int)] w (BytesEnd w (putInt 128 7 n))
    go_enter Tryd.func71, Tryd.ntmps71
    have d1 : decide ((n : Int) < 0) = false := decide_eq_false (by omega)
    have d2 : decide ((n : Int) > 2147483647) = false := decide_eq_false (by omega)
    by_cases hfl : n < 127
    · have d4 : decide ((n : Int) < 127) = true := decide_eq_true (by omega)
      have hw : ((128 : Int) + (n : Int)) % 256 = (128 : Int) + (n : Int) := by omega
      go_wp2_with fail
      go_ret
      have e : putInt 128 7 n = [UInt8.ofNat (128 + n)] := by unfold putInt; rw [if_pos (by omega)]
      rw [e]
      exact ⟨_, rfl, one_lit w (UInt8.ofNat (128 + n)) _ (by rw [ofNat_toNat (by omega)]; first | omega | (simp only [hw]; omega)), (Below.refl _ _).alloc (Nat.le_refl _) _⟩
    · have d4 : decide ((n : Int) < 127) = false := decide_eq_false (by omega)
      have e : putInt 128 7 n = UInt8.ofNat 255 :: intTail (n - 127) := by unfold putInt; rw [if_neg (by omega)]
      have ho3 : (w.alloc (.cells #[.int .u8 255] 5)).ownsRow w.heap.size 5 1 (.slice (some ⟨w.heap.size, 0, none⟩) 1 1) ([UInt8.ofNat 255] ++ []).length (bytesV ([UInt8.ofNat 255] ++ [])) := one_lit w (UInt8.ofNat 255) 255 (by decide)
      have hB2 : Below w.heap.size w (w.alloc (.cells #[.int .u8 255] 5)) := (Below.refl _ _).alloc (Nat.le_refl _) _
      have HO3 := Lib.hid ho3
      have HB2 := Lib.hid hB2
      have HE := Lib.hid e
      obtain ⟨zs, hz, hzl⟩ : ∃ zs : List UInt8, zs = [UInt8.ofNat 255] ∧ zs.length = 1 := ⟨_, rfl, rfl⟩
      rw [← hz] at HO3
      have HZ := Lib.hid hz
      have HZL := Lib.hid hzl
      obtain ⟨r0, hr0⟩ : ∃ r : Nat, n = r + 127 := ⟨n - 127, by omega⟩
      have hsub : n - 127 = r0 := by omega
      rw [hsub] at HE
      have HR0 := Lib.hid hr0
      clear ho3 hB2 e hz hzl hsub hr0
      go_wp2_with fail
      go_loopw [8, 2] (fun o q wr => ∃ (r : Nat) (ys : List UInt8), r ≤ 2147483647 ∧ (ys.length ≤ 4 ∧ r * 128 ^ ys.length ≤ 2147483647) ∧ q = .int .i64 (r : Int) ∧ ys ++ intTail r = intTail r0 ∧ wr.ownsRow w.heap.size 5 1 o (zs ++ ys).length (bytesV (zs ++ ys)) ∧ Below w.heap.size w wr) (fun _ q _ => (intOf q).toNat)
      case atStart => exact ⟨r0, [], by have := HR0.out; omega, ⟨by simp, by have := HR0.out; simp; omega⟩, by congr 1; have := HR0.out; omega, rfl, HO3.out, HB2.out⟩
      case round =>
        obtain ⟨r, ys, hr, hy, rfl, he, hO, hB⟩ := hrel
        clear HO3 HB2
        have hq48 : (zs ++ ys).length + 1 ≤ 140737488355328 := by rw [List.length_append, HZL.out]; have := hy.1; omega
        have hbs := hB.size
        have HO := Lib.hid hO
        have HY0 := Lib.hid hy
        have hy4 := hy.1
        clear hy
        have HBB := Lib.hid hB
        have HEE := Lib.hid he
        clear hO hB he
        by_cases h128 : 128 ≤ r
        · have HY := Lib.hid (tail_step ys.length r h128 HY0.out.2)
          have HY := Lib.hid (show (ys ++ [UInt8.ofNat (r % 128 + 128)]).length ≤ 4 ∧ r / 128 * 128 ^ (ys ++ [UInt8.ofNat (r % 128 + 128)]).length ≤ 2147483647 by rw [List.length_append]; exact HY.out)
          go_wp2_with (at_builtin; refine append_byte _ _ rfl _ _ rfl _ _ _ _ rfl HO.out _ rfl hq48 hbs ?_; intro v3 w3 ho3 hg3)
          have hB3 : Below w.heap.size w w3 := (HBB.out.alloc hbs _).grown hg3 (by simp; omega) (fun k hk => (HO.out.lt k hk).1)
          have ho4 : w3.ownsRow w.heap.size 5 1 v3 (zs ++ (ys ++ [UInt8.ofNat (r % 128 + 128)])).length (bytesV (zs ++ (ys ++ [UInt8.ofNat (r % 128 + 128)]))) := by
            have h := ho3
            have hl : (zs ++ ys ++ [UInt8.ofNat (r % 128 + 128)]).length = (zs ++ ys).length + 1 := by rw [List.length_append]; rfl
            rw [← List.append_assoc, bytesV_append, hl]
            have e : ((r : Int) % 128 + 128) % 256 = (r : Int) % 128 + 128 := by omega
            simpa [bytesV, e] using h
          have HO4 := Lib.hid ho4
          have HB4 := Lib.hid hB3
          clear ho3 hg3 hB3 ho4 HO HBB hbs
          go_wp2_with fail
          go_roundw
          case rel => exact ⟨r / 128, ys ++ [UInt8.ofNat (r % 128 + 128)], by omega, HY.out, by go_num, by rw [List.append_assoc, List.singleton_append, ← intTail_more h128]; exact HEE.out, HO4.out, HB4.out⟩
          case measure => simp [intOf]; omega
        · go_wp2_with (at_builtin; refine append_byte _ _ rfl _ _ rfl _ _ _ _ rfl HO.out _ rfl hq48 hbs ?_; intro v3 w3 ho3 hg3)
          have hB3 : Below w.heap.size w w3 := (HBB.out.alloc hbs _).grown hg3 (by simp; omega) (fun k hk => (HO.out.lt k hk).1)
          have HO3 := Lib.hid ho3
          have HB3 := Lib.hid hB3
          clear ho3 hg3 hB3 HO HBB hbs
          go_wp2_with fail
          go_ret
          refine ⟨v3, rfl, ?_, HB3.out⟩
          have h := HO3.out
          have e : putInt 128 7 n = zs ++ ys ++ [UInt8.ofNat r] := by
            rw [HE.out, ← HEE.out, intTail_small (by omega), HZ.out]
            simp
          rw [e, bytesV_append, List.length_append]
          simpa [bytesV, Nat.mod_eq_of_lt (show r < 256 by omega), Int.emod_eq_of_lt (show (0 : Int) ≤ (r : Int) by omega) (show (r : Int) < 256 by omega)] using h
  · show Calls Tryd.prog 71 #[.int .i64 16, .int .i64 4, .int .i64 (n : Int)] w (BytesEnd w (putInt 16 4 n))
    go_enter Tryd.func71, Tryd.ntmps71
    have d1 : decide ((n : Int) < 0) = false := decide_eq_false (by omega)
    have d2 : decide ((n : Int) > 2147483647) = false := decide_eq_false (by omega)
    by_cases hfl : n < 15
    · have d4 : decide ((n : Int) < 15) = true := decide_eq_true (by omega)
      have hw : ((16 : Int) + (n : Int)) % 256 = (16 : Int) + (n : Int) := by omega
      go_wp2_with fail
      go_ret
      have e : putInt 16 4 n = [UInt8.ofNat (16 + n)] := by unfold putInt; rw [if_pos (by omega)]
      rw [e]
      exact ⟨_, rfl, one_lit w (UInt8.ofNat (16 + n)) _ (by rw [ofNat_toNat (by omega)]; first | omega | (simp only [hw]; omega)), (Below.refl _ _).alloc (Nat.le_refl _) _⟩
    · have d4 : decide ((n : Int) < 15) = false := decide_eq_false (by omega)
      have e : putInt 16 4 n = UInt8.ofNat 31 :: intTail (n - 15) := by unfold putInt; rw [if_neg (by omega)]
      have ho3 : (w.alloc (.cells #[.int .u8 31] 5)).ownsRow w.heap.size 5 1 (.slice (some ⟨w.heap.size, 0, none⟩) 1 1) ([UInt8.ofNat 31] ++ []).length (bytesV ([UInt8.ofNat 31] ++ [])) := one_lit w (UInt8.ofNat 31) 31 (by decide)
      have hB2 : Below w.heap.size w (w.alloc (.cells #[.int .u8 31] 5)) := (Below.refl _ _).alloc (Nat.le_refl _) _
      have HO3 := Lib.hid ho3
      have HB2 := Lib.hid hB2
      have HE := Lib.hid e
      obtain ⟨zs, hz, hzl⟩ : ∃ zs : List UInt8, zs = [UInt8.ofNat 31] ∧ zs.length = 1 := ⟨_, rfl, rfl⟩
      rw [← hz] at HO3
      have HZ := Lib.hid hz
      have HZL := Lib.hid hzl
      obtain ⟨r0, hr0⟩ : ∃ r : Nat, n = r + 15 := ⟨n - 15, by omega⟩
      have hsub : n - 15 = r0 := by omega
      rw [hsub] at HE
      have HR0 := Lib.hid hr0
      clear ho3 hB2 e hz hzl hsub hr0
      go_wp2_with fail
      go_loopw [8, 2] (fun o q wr => ∃ (r : Nat) (ys : List UInt8), r ≤ 2147483647 ∧ (ys.length ≤ 4 ∧ r * 128 ^ ys.length ≤ 2147483647) ∧ q = .int .i64 (r : Int) ∧ ys ++ intTail r = intTail r0 ∧ wr.ownsRow w.heap.size 5 1 o (zs ++ ys).length (bytesV (zs ++ ys)) ∧ Below w.heap.size w wr) (fun _ q _ => (intOf q).toNat)
      case atStart => exact ⟨r0, [], by have := HR0.out; omega, ⟨by simp, by have := HR0.out; simp; omega⟩, by congr 1; have := HR0.out; omega, rfl, HO3.out, HB2.out⟩
      case round =>
        obtain ⟨r, ys, hr, hy, rfl, he, hO, hB⟩ := hrel
        clear HO3 HB2
        have hq48 : (zs ++ ys).length + 1 ≤ 140737488355328 := by rw [List.length_append, HZL.out]; have := hy.1; omega
        have hbs := hB.size
        have HO := Lib.hid hO
        have HY0 := Lib.hid hy
        have hy4 := hy.1
        clear hy
        have HBB := Lib.hid hB
        have HEE := Lib.hid he
        clear hO hB he
        by_cases h128 : 128 ≤ r
        · have HY := Lib.hid (tail_step ys.length r h128 HY0.out.2)
          have HY := Lib.hid (show (ys ++ [UInt8.ofNat (r % 128 + 128)]).length ≤ 4 ∧ r / 128 * 128 ^ (ys ++ [UInt8.ofNat (r % 128 + 128)]).length ≤ 2147483647 by rw [List.length_append]; exact HY.out)
          go_wp2_with (at_builtin; refine append_byte _ _ rfl _ _ rfl _ _ _ _ rfl HO.out _ rfl hq48 hbs ?_; intro v3 w3 ho3 hg3)
          have hB3 : Below w.heap.size w w3 := (HBB.out.alloc hbs _).grown hg3 (by simp; omega) (fun k hk => (HO.out.lt k hk).1)
          have ho4 : w3.ownsRow w.heap.size 5 1 v3 (zs ++ (ys ++ [UInt8.ofNat (r % 128 + 128)])).length (bytesV (zs ++ (ys ++ [UInt8.ofNat (r % 128 + 128)]))) := by
            have h := ho3
            have hl : (zs ++ ys ++ [UInt8.ofNat (r % 128 + 128)]).length = (zs ++ ys).length + 1 := by rw [List.length_append]; rfl
            rw [← List.append_assoc, bytesV_append, hl]
            have e : ((r : Int) % 128 + 128) % 256 = (r : Int) % 128 + 128 := by omega
            simpa [bytesV, e] using h
          have HO4 := Lib.hid ho4
          have HB4 := Lib.hid hB3
          clear ho3 hg3 hB3 ho4 HO HBB hbs
          go_wp2_with fail
          go_roundw
          case rel => exact ⟨r / 128, ys ++ [UInt8.ofNat (r % 128 + 128)], by omega, HY.out, by go_num, by rw [List.append_assoc, List.singleton_append, ← intTail_more h128]; exact HEE.out, HO4.out, HB4.out⟩
          case measure => simp [intOf]; omega
        · go_wp2_with (at_builtin; refine append_byte _ _ rfl _ _ rfl _ _ _ _ rfl HO.out _ rfl hq48 hbs ?_; intro v3 w3 ho3 hg3)
          have hB3 : Below w.heap.size w w3 := (HBB.out.alloc hbs _).grown hg3 (by simp; omega) (fun k hk => (HO.out.lt k hk).1)
          have HO3 := Lib.hid ho3
          have HB3 := Lib.hid hB3
          clear ho3 hg3 hB3 HO HBB hbs
          go_wp2_with fail
          go_ret
          refine ⟨v3, rfl, ?_, HB3.out⟩
          have h := HO3.out
          have e : putInt 16 4 n = zs ++ ys ++ [UInt8.ofNat r] := by
            rw [HE.out, ← HEE.out, intTail_small (by omega), HZ.out]
            simp
          rw [e, bytesV_append, List.length_append]
          simpa [bytesV, Nat.mod_eq_of_lt (show r < 256 by omega), Int.emod_eq_of_lt (show (0 : Int) ≤ (r : Int) by omega) (show (r : Int) < 256 by omega)] using h
  · show Calls Tryd.prog 71 #[.int .i64 0, .int .i64 4, .int .i64 (n : Int)] w (BytesEnd w (putInt 0 4 n))
    go_enter Tryd.func71, Tryd.ntmps71
    have d1 : decide ((n : Int) < 0) = false := decide_eq_false (by omega)
    have d2 : decide ((n : Int) > 2147483647) = false := decide_eq_false (by omega)
    by_cases hfl : n < 15
    · have d4 : decide ((n : Int) < 15) = true := decide_eq_true (by omega)
      have hw : (n : Int) % 256 = (n : Int) := by omega
      go_wp2_with fail
      go_ret
      have e : putInt 0 4 n = [UInt8.ofNat (0 + n)] := by unfold putInt; rw [if_pos (by omega)]
      rw [e]
      exact ⟨_, rfl, one_lit w (UInt8.ofNat (0 + n)) _ (by rw [ofNat_toNat (by omega)]; first | omega | (simp only [hw]; omega)), (Below.refl _ _).alloc (Nat.le_refl _) _⟩
    · have d4 : decide ((n : Int) < 15) = false := decide_eq_false (by omega)
      have e : putInt 0 4 n = UInt8.ofNat 15 :: intTail (n - 15) := by unfold putInt; rw [if_neg (by omega)]
      have ho3 : (w.alloc (.cells #[.int .u8 15] 5)).ownsRow w.heap.size 5 1 (.slice (some ⟨w.heap.size, 0, none⟩) 1 1) ([UInt8.ofNat 15] ++ []).length (bytesV ([UInt8.ofNat 15] ++ [])) := one_lit w (UInt8.ofNat 15) 15 (by decide)
      have hB2 : Below w.heap.size w (w.alloc (.cells #[.int .u8 15] 5)) := (Below.refl _ _).alloc (Nat.le_refl _) _
      have HO3 := Lib.hid ho3
      have HB2 := Lib.hid hB2
      have HE := Lib.hid e
      obtain ⟨zs, hz, hzl⟩ : ∃ zs : List UInt8, zs = [UInt8.ofNat 15] ∧ zs.length = 1 := ⟨_, rfl, rfl⟩
      rw [← hz] at HO3
      have HZ := Lib.hid hz
      have HZL := Lib.hid hzl
      obtain ⟨r0, hr0⟩ : ∃ r : Nat, n = r + 15 := ⟨n - 15, by omega⟩
      have hsub : n - 15 = r0 := by omega
      rw [hsub] at HE
      have HR0 := Lib.hid hr0
      clear ho3 hB2 e hz hzl hsub hr0
      go_wp2_with fail
      go_loopw [8, 2] (fun o q wr => ∃ (r : Nat) (ys : List UInt8), r ≤ 2147483647 ∧ (ys.length ≤ 4 ∧ r * 128 ^ ys.length ≤ 2147483647) ∧ q = .int .i64 (r : Int) ∧ ys ++ intTail r = intTail r0 ∧ wr.ownsRow w.heap.size 5 1 o (zs ++ ys).length (bytesV (zs ++ ys)) ∧ Below w.heap.size w wr) (fun _ q _ => (intOf q).toNat)
      case atStart => exact ⟨r0, [], by have := HR0.out; omega, ⟨by simp, by have := HR0.out; simp; omega⟩, by congr 1; have := HR0.out; omega, rfl, HO3.out, HB2.out⟩
      case round =>
        obtain ⟨r, ys, hr, hy, rfl, he, hO, hB⟩ := hrel
        clear HO3 HB2
        have hq48 : (zs ++ ys).length + 1 ≤ 140737488355328 := by rw [List.length_append, HZL.out]; have := hy.1; omega
        have hbs := hB.size
        have HO := Lib.hid hO
        have HY0 := Lib.hid hy
        have hy4 := hy.1
        clear hy
        have HBB := Lib.hid hB
        have HEE := Lib.hid he
        clear hO hB he
        by_cases h128 : 128 ≤ r
        · have HY := Lib.hid (tail_step ys.length r h128 HY0.out.2)
          have HY := Lib.hid (show (ys ++ [UInt8.ofNat (r % 128 + 128)]).length ≤ 4 ∧ r / 128 * 128 ^ (ys ++ [UInt8.ofNat (r % 128 + 128)]).length ≤ 2147483647 by rw [List.length_append]; exact HY.out)
          go_wp2_with (at_builtin; refine append_byte _ _ rfl _ _ rfl _ _ _ _ rfl HO.out _ rfl hq48 hbs ?_; intro v3 w3 ho3 hg3)
          have hB3 : Below w.heap.size w w3 := (HBB.out.alloc hbs _).grown hg3 (by simp; omega) (fun k hk => (HO.out.lt k hk).1)
          have ho4 : w3.ownsRow w.heap.size 5 1 v3 (zs ++ (ys ++ [UInt8.ofNat (r % 128 + 128)])).length (bytesV (zs ++ (ys ++ [UInt8.ofNat (r % 128 + 128)]))) := by
            have h := ho3
            have hl : (zs ++ ys ++ [UInt8.ofNat (r % 128 + 128)]).length = (zs ++ ys).length + 1 := by rw [List.length_append]; rfl
            rw [← List.append_assoc, bytesV_append, hl]
            have e : ((r : Int) % 128 + 128) % 256 = (r : Int) % 128 + 128 := by omega
            simpa [bytesV, e] using h
          have HO4 := Lib.hid ho4
          have HB4 := Lib.hid hB3
          clear ho3 hg3 hB3 ho4 HO HBB hbs
          go_wp2_with fail
          go_roundw
          case rel => exact ⟨r / 128, ys ++ [UInt8.ofNat (r % 128 + 128)], by omega, HY.out, by go_num, by rw [List.append_assoc, List.singleton_append, ← intTail_more h128]; exact HEE.out, HO4.out, HB4.out⟩
          case measure => simp [intOf]; omega
        · go_wp2_with (at_builtin; refine append_byte _ _ rfl _ _ rfl _ _ _ _ rfl HO.out _ rfl hq48 hbs ?_; intro v3 w3 ho3 hg3)
          have hB3 : Below w.heap.size w w3 := (HBB.out.alloc hbs _).grown hg3 (by simp; omega) (fun k hk => (HO.out.lt k hk).1)
          have HO3 := Lib.hid ho3
          have HB3 := Lib.hid hB3
          clear ho3 hg3 hB3 HO HBB hbs
          go_wp2_with fail
          go_ret
          refine ⟨v3, rfl, ?_, HB3.out⟩
          have h := HO3.out
          have e : putInt 0 4 n = zs ++ ys ++ [UInt8.ofNat r] := by
            rw [HE.out, ← HEE.out, intTail_small (by omega), HZ.out]
            simp
          rw [e, bytesV_append, List.length_append]
          simpa [bytesV, Nat.mod_eq_of_lt (show r < 256 by omega), Int.emod_eq_of_lt (show (0 : Int) ≤ (r : Int) by omega) (show (r : Int) < 256 by omega)] using h
  · show Calls Tryd.prog 71 #[.int .i64 64, .int .i64 6, .int .i64 (n : Int)] w (BytesEnd w (putInt 64 6 n))
    go_enter Tryd.func71, Tryd.ntmps71
    have d1 : decide ((n : Int) < 0) = false := decide_eq_false (by omega)
    have d2 : decide ((n : Int) > 2147483647) = false := decide_eq_false (by omega)
    by_cases hfl : n < 63
    · have d4 : decide ((n : Int) < 63) = true := decide_eq_true (by omega)
      have hw : ((64 : Int) + (n : Int)) % 256 = (64 : Int) + (n : Int) := by omega
      go_wp2_with fail
      go_ret
      have e : putInt 64 6 n = [UInt8.ofNat (64 + n)] := by unfold putInt; rw [if_pos (by omega)]
      rw [e]
      exact ⟨_, rfl, one_lit w (UInt8.ofNat (64 + n)) _ (by rw [ofNat_toNat (by omega)]; first | omega | (simp only [hw]; omega)), (Below.refl _ _).alloc (Nat.le_refl _) _⟩
    · have d4 : decide ((n : Int) < 63) = false := decide_eq_false (by omega)
      have e : putInt 64 6 n = UInt8.ofNat 127 :: intTail (n - 63) := by unfold putInt; rw [if_neg (by omega)]
      have ho3 : (w.alloc (.cells #[.int .u8 127] 5)).ownsRow w.heap.size 5 1 (.slice (some ⟨w.heap.size, 0, none⟩) 1 1) ([UInt8.ofNat 127] ++ []).length (bytesV ([UInt8.ofNat 127] ++ [])) := one_lit w (UInt8.ofNat 127) 127 (by decide)
      have hB2 : Below w.heap.size w (w.alloc (.cells #[.int .u8 127] 5)) := (Below.refl _ _).alloc (Nat.le_refl _) _
      have HO3 := Lib.hid ho3
      have HB2 := Lib.hid hB2
      have HE := Lib.hid e
      obtain ⟨zs, hz, hzl⟩ : ∃ zs : List UInt8, zs = [UInt8.ofNat 127] ∧ zs.length = 1 := ⟨_, rfl, rfl⟩
      rw [← hz] at HO3
      have HZ := Lib.hid hz
      have HZL := Lib.hid hzl
      obtain ⟨r0, hr0⟩ : ∃ r : Nat, n = r + 63 := ⟨n - 63, by omega⟩
      have hsub : n - 63 = r0 := by omega
      rw [hsub] at HE
      have HR0 := Lib.hid hr0
      clear ho3 hB2 e hz hzl hsub hr0
      go_wp2_with fail
      go_loopw [8, 2] (fun o q wr => ∃ (r : Nat) (ys : List UInt8), r ≤ 2147483647 ∧ (ys.length ≤ 4 ∧ r * 128 ^ ys.length ≤ 2147483647) ∧ q = .int .i64 (r : Int) ∧ ys ++ intTail r = intTail r0 ∧ wr.ownsRow w.heap.size 5 1 o (zs ++ ys).length (bytesV (zs ++ ys)) ∧ Below w.heap.size w wr) (fun _ q _ => (intOf q).toNat)
      case atStart => exact ⟨r0, [], by have := HR0.out; omega, ⟨by simp, by have := HR0.out; simp; omega⟩, by congr 1; have := HR0.out; omega, rfl, HO3.out, HB2.out⟩
      case round =>
        obtain ⟨r, ys, hr, hy, rfl, he, hO, hB⟩ := hrel
        clear HO3 HB2
        have hq48 : (zs ++ ys).length + 1 ≤ 140737488355328 := by rw [List.length_append, HZL.out]; have := hy.1; omega
        have hbs := hB.size
        have HO := Lib.hid hO
        have HY0 := Lib.hid hy
        have hy4 := hy.1
        clear hy
        have HBB := Lib.hid hB
        have HEE := Lib.hid he
        clear hO hB he
        by_cases h128 : 128 ≤ r
        · have HY := Lib.hid (tail_step ys.length r h128 HY0.out.2)
          have HY := Lib.hid (show (ys ++ [UInt8.ofNat (r % 128 + 128)]).length ≤ 4 ∧ r / 128 * 128 ^ (ys ++ [UInt8.ofNat (r % 128 + 128)]).length ≤ 2147483647 by rw [List.length_append]; exact HY.out)
          go_wp2_with (at_builtin; refine append_byte _ _ rfl _ _ rfl _ _ _ _ rfl HO.out _ rfl hq48 hbs ?_; intro v3 w3 ho3 hg3)
          have hB3 : Below w.heap.size w w3 := (HBB.out.alloc hbs _).grown hg3 (by simp; omega) (fun k hk => (HO.out.lt k hk).1)
          have ho4 : w3.ownsRow w.heap.size 5 1 v3 (zs ++ (ys ++ [UInt8.ofNat (r % 128 + 128)])).length (bytesV (zs ++ (ys ++ [UInt8.ofNat (r % 128 + 128)]))) := by
            have h := ho3
            have hl : (zs ++ ys ++ [UInt8.ofNat (r % 128 + 128)]).length = (zs ++ ys).length + 1 := by rw [List.length_append]; rfl
            rw [← List.append_assoc, bytesV_append, hl]
            have e : ((r : Int) % 128 + 128) % 256 = (r : Int) % 128 + 128 := by omega
            simpa [bytesV, e] using h
          have HO4 := Lib.hid ho4
          have HB4 := Lib.hid hB3
          clear ho3 hg3 hB3 ho4 HO HBB hbs
          go_wp2_with fail
          go_roundw
          case rel => exact ⟨r / 128, ys ++ [UInt8.ofNat (r % 128 + 128)], by omega, HY.out, by go_num, by rw [List.append_assoc, List.singleton_append, ← intTail_more h128]; exact HEE.out, HO4.out, HB4.out⟩
          case measure => simp [intOf]; omega
        · go_wp2_with (at_builtin; refine append_byte _ _ rfl _ _ rfl _ _ _ _ rfl HO.out _ rfl hq48 hbs ?_; intro v3 w3 ho3 hg3)
          have hB3 : Below w.heap.size w w3 := (HBB.out.alloc hbs _).grown hg3 (by simp; omega) (fun k hk => (HO.out.lt k hk).1)
          have HO3 := Lib.hid ho3
          have HB3 := Lib.hid hB3
          clear ho3 hg3 hB3 HO HBB hbs
          go_wp2_with fail
          go_ret
          refine ⟨v3, rfl, ?_, HB3.out⟩
          have h := HO3.out
          have e : putInt 64 6 n = zs ++ ys ++ [UInt8.ofNat r] := by
            rw [HE.out, ← HEE.out, intTail_small (by omega), HZ.out]
            simp
          rw [e, bytesV_append, List.length_append]
          simpa [bytesV, Nat.mod_eq_of_lt (show r < 256 by omega), Int.emod_eq_of_lt (show (0 : Int) ≤ (r : Int) by omega) (show (r : Int) < 256 by omega)] using h
  · show Calls Tryd.prog 71 #[.int .i64 0, .int .i64 7, .int .i64 (n : Int)] w (BytesEnd w (putInt 0 7 n))
    go_enter Tryd.func71, Tryd.ntmps71
    have d1 : decide ((n : Int) < 0) = false := decide_eq_false (by omega)
    have d2 : decide ((n : Int) > 2147483647) = false := decide_eq_false (by omega)
    by_cases hfl : n < 127
    · have d4 : decide ((n : Int) < 127) = true := decide_eq_true (by omega)
      have hw : (n : Int) % 256 = (n : Int) := by omega
      go_wp2_with fail
      go_ret
      have e : putInt 0 7 n = [UInt8.ofNat (0 + n)] := by unfold putInt; rw [if_pos (by omega)]
      rw [e]
      exact ⟨_, rfl, one_lit w (UInt8.ofNat (0 + n)) _ (by rw [ofNat_toNat (by omega)]; first | omega | (simp only [hw]; omega)), (Below.refl _ _).alloc (Nat.le_refl _) _⟩
    · have d4 : decide ((n : Int) < 127) = false := decide_eq_false (by omega)
      have e : putInt 0 7 n = UInt8.ofNat 127 :: intTail (n - 127) := by unfold putInt; rw [if_neg (by omega)]
      have ho3 : (w.alloc (.cells #[.int .u8 127] 5)).ownsRow w.heap.size 5 1 (.slice (some ⟨w.heap.size, 0, none⟩) 1 1) ([UInt8.ofNat 127] ++ []).length (bytesV ([UInt8.ofNat 127] ++ [])) := one_lit w (UInt8.ofNat 127) 127 (by decide)
      have hB2 : Below w.heap.size w (w.alloc (.cells #[.int .u8 127] 5)) := (Below.refl _ _).alloc (Nat.le_refl _) _
      have HO3 := Lib.hid ho3
      have HB2 := Lib.hid hB2
      have HE := Lib.hid e
      obtain ⟨zs, hz, hzl⟩ : ∃ zs : List UInt8, zs = [UInt8.ofNat 127] ∧ zs.length = 1 := ⟨_, rfl, rfl⟩
      rw [← hz] at HO3
      have HZ := Lib.hid hz
      have HZL := Lib.hid hzl
      obtain ⟨r0, hr0⟩ : ∃ r : Nat, n = r + 127 := ⟨n - 127, by omega⟩
      have hsub : n - 127 = r0 := by omega
      rw [hsub] at HE
      have HR0 := Lib.hid hr0
      clear ho3 hB2 e hz hzl hsub hr0
      go_wp2_with fail
      go_loopw [8, 2] (fun o q wr => ∃ (r : Nat) (ys : List UInt8), r ≤ 2147483647 ∧ (ys.length ≤ 4 ∧ r * 128 ^ ys.length ≤ 2147483647) ∧ q = .int .i64 (r : Int) ∧ ys ++ intTail r = intTail r0 ∧ wr.ownsRow w.heap.size 5 1 o (zs ++ ys).length (bytesV (zs ++ ys)) ∧ Below w.heap.size w wr) (fun _ q _ => (intOf q).toNat)
      case atStart => exact ⟨r0, [], by have := HR0.out; omega, ⟨by simp, by have := HR0.out; simp; omega⟩, by congr 1; have := HR0.out; omega, rfl, HO3.out, HB2.out⟩
      case round =>
        obtain ⟨r, ys, hr, hy, rfl, he, hO, hB⟩ := hrel
        clear HO3 HB2
        have hq48 : (zs ++ ys).length + 1 ≤ 140737488355328 := by rw [List.length_append, HZL.out]; have := hy.1; omega
        have hbs := hB.size
        have HO := Lib.hid hO
        have HY0 := Lib.hid hy
        have hy4 := hy.1
        clear hy
        have HBB := Lib.hid hB
        have HEE := Lib.hid he
        clear hO hB he
        by_cases h128 : 128 ≤ r
        · have HY := Lib.hid (tail_step ys.length r h128 HY0.out.2)
          have HY := Lib.hid (show (ys ++ [UInt8.ofNat (r % 128 + 128)]).length ≤ 4 ∧ r / 128 * 128 ^ (ys ++ [UInt8.ofNat (r % 128 + 128)]).length ≤ 2147483647 by rw [List.length_append]; exact HY.out)
          go_wp2_with (at_builtin; refine append_byte _ _ rfl _ _ rfl _ _ _ _ rfl HO.out _ rfl hq48 hbs ?_; intro v3 w3 ho3 hg3)
          have hB3 : Below w.heap.size w w3 := (HBB.out.alloc hbs _).grown hg3 (by simp; omega) (fun k hk => (HO.out.lt k hk).1)
          have ho4 : w3.ownsRow w.heap.size 5 1 v3 (zs ++ (ys ++ [UInt8.ofNat (r % 128 + 128)])).length (bytesV (zs ++ (ys ++ [UInt8.ofNat (r % 128 + 128)]))) := by
            have h := ho3
            have hl : (zs ++ ys ++ [UInt8.ofNat (r % 128 + 128)]).length = (zs ++ ys).length + 1 := by rw [List.length_append]; rfl
            rw [← List.append_assoc, bytesV_append, hl]
            have e : ((r : Int) % 128 + 128) % 256 = (r : Int) % 128 + 128 := by omega
            simpa [bytesV, e] using h
          have HO4 := Lib.hid ho4
          have HB4 := Lib.hid hB3
          clear ho3 hg3 hB3 ho4 HO HBB hbs
          go_wp2_with fail
          go_roundw
          case rel => exact ⟨r / 128, ys ++ [UInt8.ofNat (r % 128 + 128)], by omega, HY.out, by go_num, by rw [List.append_assoc, List.singleton_append, ← intTail_more h128]; exact HEE.out, HO4.out, HB4.out⟩
          case measure => simp [intOf]; omega
        · go_wp2_with (at_builtin; refine append_byte _ _ rfl _ _ rfl _ _ _ _ rfl HO.out _ rfl hq48 hbs ?_; intro v3 w3 ho3 hg3)
          have hB3 : Below w.heap.size w w3 := (HBB.out.alloc hbs _).grown hg3 (by simp; omega) (fun k hk => (HO.out.lt k hk).1)
          have HO3 := Lib.hid ho3
          have HB3 := Lib.hid hB3
          clear ho3 hg3 hB3 HO HBB hbs
          go_wp2_with fail
          go_ret
          refine ⟨v3, rfl, ?_, HB3.out⟩
          have h := HO3.out
          have e : putInt 0 7 n = zs ++ ys ++ [UInt8.ofNat r] := by
            rw [HE.out, ← HEE.out, intTail_small (by omega), HZ.out]
            simp
          rw [e, bytesV_append, List.length_append]
          simpa [bytesV, Nat.mod_eq_of_lt (show r < 256 by omega), Int.emod_eq_of_lt (show (0 : Int) ≤ (r : Int) by omega) (show (r : Int) < 256 by omega)] using h
end Go.Proofs.YtflmgjidnclegaaDoor.Hpk
