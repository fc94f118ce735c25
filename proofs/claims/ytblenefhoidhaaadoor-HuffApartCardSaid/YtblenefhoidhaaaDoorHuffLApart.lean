/-
  The walk of the law HuffApart: it answers true.
-/
import Derived.Test.YtblenefhoidhaaaDoorHuffFirst
namespace Go.Proofs.YtblenefhoidhaaaDoor.Huff
open Go.RowKit
theorem norm_ok (a : Int) : ∃ n : Nat, n < 257 ∧ (wrap64 (a.tmod 257 + 257)).tmod 257 = (n : Int) := by
  have h1 : -257 < a.tmod 257 := by
    have := Int.lt_tmod_of_pos a (show (0 : Int) < 257 by decide); omega
  have h2 : a.tmod 257 < 257 := Int.tmod_lt_of_pos a (by decide)
  have h3 : wrap64 (a.tmod 257 + 257) = a.tmod 257 + 257 := by unfold wrap64; omega
  rw [h3]
  refine ⟨((a.tmod 257 + 257).tmod 257).toNat, ?_, ?_⟩
  · rw [Int.tmod_eq_emod_of_nonneg (by omega)]; omega
  · rw [Int.tmod_eq_emod_of_nonneg (by omega)]; omega
theorem room_pow (k : Nat) (hk : k < 257) : wrap64 ((2 : Int) ^ (30 - bitsOf k)) = (roomOf k : Int) := by
  have h := bits_ok hk
  have hp : 2 ^ (30 - bitsOf k) ≤ 2 ^ 30 := Nat.pow_le_pow_right (by decide) (by omega)
  unfold roomOf
  have e : ((2 : Int) ^ (30 - bitsOf k)) = ((2 ^ (30 - bitsOf k) : Nat) : Int) := by push_cast; rfl
  rw [e]
  generalize 2 ^ (30 - bitsOf k) = p at *
  have h30 : (2 : Nat) ^ 30 = 1073741824 := by decide
  unfold wrap64
  omega
def sumTo (k : Nat) : Nat := ((List.range k).map roomOf).sum
theorem sumTo_succ (k : Nat) : sumTo (k + 1) = sumTo k + roomOf k := by simp [sumTo, List.range_succ]
theorem sumTo_le (k : Nat) (h : k ≤ 257) : sumTo k ≤ 1073741824 := by
  have hm : ∀ d, sumTo k ≤ sumTo (k + d) := by
    intro d
    induction d with
    | zero => exact Nat.le_refl _
    | succ d ih => rw [← Nat.add_assoc, sumTo_succ]; omega
  have := hm (257 - k)
  rw [show k + (257 - k) = 257 by omega] at this
  have e : sumTo 257 = 1073741824 := room_sum
  omega
set_option maxRecDepth 100000 in
set_option maxHeartbeats 1000000 in
theorem lapart_any (a b : Int) (v : Value) (w : World) (hv : w.cell? ⟨0, 0, none⟩ = some v) (hg : 0 < w.heap.size) :
    Calls Tryd.prog 4 #[.int .i64 a, .int .i64 b] w fun e w' => e = .returned (.bool true) ∧ Below w.heap.size w w' := by
  obtain ⟨n, hn, en⟩ := norm_ok a
  obtain ⟨m, hm, em⟩ := norm_ok b
  have HF := Lib.hid (first_any v w hv hg)
  go_enter Tryd.func4, Tryd.ntmps4
  go_wp2_with fail
  refine HF.out.mono ?_
  rintro e w1 ⟨rfl, hb1⟩
  go_wp2_with fail
  refine (bits_yes n _ hn).mono ?_
  rintro e w1' ⟨rfl, rfl⟩
  go_wp2_with fail
  refine (bits_yes m _ hm).mono ?_
  rintro e w1' ⟨rfl, rfl⟩
  go_wp2_with fail
  refine (code_yes n _ hn).mono ?_
  rintro e w2 ⟨rfl, hb2⟩
  go_wp2_with fail
  refine (code_yes m _ hm).mono ?_
  rintro e w3 ⟨rfl, hb3⟩
  have hB : Below w.heap.size w w3 := (hb1.trans (hb2.mono hb1.size)).trans (hb3.mono (Nat.le_trans hb1.size hb2.size))
  have Han := Lib.hid (bits_ok hn)
  have Ham := Lib.hid (bits_ok hm)
  have hn1 := (bits_ok hn).1
  have hn2 := (bits_ok hn).2.1
  have hm1 := (bits_ok hm).1
  have hm2 := (bits_ok hm).2.1
  clear en em hb1 hb2 hb3 HF
  go_wp2_with fail
  all_goals first
  | (have h3 := ‹((n : Int) != (m : Int)) = true ∧ ((codeOf m : Int) / 2 ^ (bitsOf m - bitsOf n) == (codeOf n : Int)) = true›
     exfalso
     have h2 := ‹bitsOf n ≤ bitsOf m›
     refine apart hn hm (fun e => ?_) h2 ?_
     · exact bne_iff_ne.1 h3.1 (by omega)
     · have h4 := eq_of_beq h3.2
       exact_mod_cast h4)
  | skip
  all_goals
    go_loop [14, 15] (fun b i => ∃ k : Nat, k ≤ 257 ∧ i = .int .i64 (k : Int) ∧ b = .int .i64 (sumTo k : Nat)) (fun _ i => 257 - (intOf i).toNat)
    case atStart => exact ⟨0, Nat.zero_le _, rfl, rfl⟩
    case round =>
      obtain ⟨k, hk, rfl, rfl⟩ := hrel
      have hsl := sumTo_le k hk
      by_cases hlt : k < 257
      · have hsl2 := sumTo_le (k + 1) hlt
        have HR := Lib.hid (room_pow k hlt)
        have HS := Lib.hid (sumTo_succ k)
        have hk1 := (bits_ok hlt).1
        have hk2 := (bits_ok hlt).2.1
        go_wp2_with (go_at_call 9; refine (bits_yes k _ hlt).mono ?_; rintro e w' ⟨rfl, rfl⟩)
        go_round
        case rel => exact ⟨k + 1, by omega, by go_num, by
          rw [HS.out, HR.out]
          have h8 : wrap64 ((sumTo k : Int) + (roomOf k : Int)) = ((sumTo k + roomOf k : Nat) : Int) := by
            have := HS.out
            unfold wrap64; omega
          rw [h8]⟩
        case measure => simp [intOf]; omega
      · have e : k = 257 := by omega
        subst e
        have e2 : sumTo 257 = 1073741824 := room_sum
        rw [e2]
        go_wp2
        go_ret
        exact ⟨rfl, hB⟩
end Go.Proofs.YtblenefhoidhaaaDoor.Huff
