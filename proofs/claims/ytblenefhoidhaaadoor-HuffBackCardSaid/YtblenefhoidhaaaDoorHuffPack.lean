/-
  The codes of a text, packed into bytes: plain numbers.
-/
import Derived.Test.YtblenefhoidhaaaDoorHuffWalks
namespace Go.Proofs.YtblenefhoidhaaaDoor.Huff
/-- all bits of a text as one number -/
def valN (l : List UInt8) : Nat := l.foldl (fun v c => v * 2 ^ bitsOf c.toNat + codeOf c.toNat) 0
theorem valN_snoc (l : List UInt8) (c : UInt8) : valN (l ++ [c]) = valN l * 2 ^ bitsOf c.toNat + codeOf c.toNat := by simp [valN]
theorem byte_ok (c : UInt8) : 5 ≤ bitsOf c.toNat ∧ bitsOf c.toNat ≤ 30 ∧ codeOf c.toNat < 2 ^ bitsOf c.toNat := bits_ok (by have := c.toNat_lt; omega)
theorem valN_lt_aux : ∀ (n : Nat) (l : List UInt8), l.length = n → valN l < 2 ^ bitsIn l := by
  intro n
  induction n with
  | zero => intro l h; have : l = [] := List.eq_nil_of_length_eq_zero h; subst this; simp [valN, bitsIn]
  | succ n ih =>
    intro l h
    obtain ⟨l', c, rfl⟩ : ∃ l' c, l = l' ++ [c] := ⟨l.dropLast, l.getLast (by intro e; subst e; simp at h), (List.dropLast_concat_getLast _).symm⟩
    have h1 := ih l' (by simpa using h)
    have h2 := (byte_ok c).2.2
    rw [valN_snoc, bitsIn_snoc, Nat.pow_add]
    calc valN l' * 2 ^ bitsOf c.toNat + codeOf c.toNat < valN l' * 2 ^ bitsOf c.toNat + 2 ^ bitsOf c.toNat := by omega
      _ = (valN l' + 1) * 2 ^ bitsOf c.toNat := by rw [Nat.add_mul, Nat.one_mul]
      _ ≤ 2 ^ bitsIn l' * 2 ^ bitsOf c.toNat := Nat.mul_le_mul_right _ h1
theorem valN_lt (l : List UInt8) : valN l < 2 ^ bitsIn l := valN_lt_aux _ l rfl
/-- the first q bytes of a number of L bits -/
def outTo (V L q : Nat) : List UInt8 := (List.range q).map fun i => UInt8.ofNat (V / 2 ^ (L - 8 * (i + 1)) % 256)
theorem outTo_len (V L q : Nat) : (outTo V L q).length = q := by simp [outTo]
theorem outTo_succ (V L q : Nat) : outTo V L (q + 1) = outTo V L q ++ [UInt8.ofNat (V / 2 ^ (L - 8 * (q + 1)) % 256)] := by simp [outTo, List.range_succ]
theorem div_ext (V n c k : Nat) (h : c < 2 ^ n) : (V * 2 ^ n + c) / 2 ^ (n + k) = V / 2 ^ k := by
  rw [Nat.pow_add, ← Nat.div_div_eq_div_mul, Nat.add_comm, Nat.add_mul_div_right _ _ (Nat.two_pow_pos n), Nat.div_eq_of_lt h, Nat.zero_add]
theorem outTo_ext (V L q n c : Nat) (hq : 8 * q ≤ L) (h : c < 2 ^ n) : outTo (V * 2 ^ n + c) (L + n) q = outTo V L q := by
  unfold outTo
  refine List.map_congr_left fun i hi => ?_
  have hi' : i < q := by simpa using hi
  rw [show L + n - 8 * (i + 1) = n + (L - 8 * (i + 1)) by omega, div_ext _ _ _ _ h]
theorem mod_ext (V m n c : Nat) (h : c < 2 ^ n) : (V * 2 ^ n + c) % 2 ^ (m + n) = (V % 2 ^ m) * 2 ^ n + c := by
  have h1 : V = 2 ^ m * (V / 2 ^ m) + V % 2 ^ m := (Nat.div_add_mod V (2 ^ m)).symm
  have hm : V % 2 ^ m < 2 ^ m := Nat.mod_lt _ (Nat.two_pow_pos m)
  have hlt : (V % 2 ^ m) * 2 ^ n + c < 2 ^ (m + n) := by
    rw [Nat.pow_add]
    calc (V % 2 ^ m) * 2 ^ n + c < (V % 2 ^ m) * 2 ^ n + 2 ^ n := by omega
      _ = (V % 2 ^ m + 1) * 2 ^ n := by rw [Nat.add_mul, Nat.one_mul]
      _ ≤ 2 ^ m * 2 ^ n := Nat.mul_le_mul_right _ hm
  have e : V * 2 ^ n + c = ((V % 2 ^ m) * 2 ^ n + c) + 2 ^ (m + n) * (V / 2 ^ m) := by
    have : V * 2 ^ n = (2 ^ m * (V / 2 ^ m) + V % 2 ^ m) * 2 ^ n := by rw [← h1]
    rw [this, Nat.add_mul, Nat.pow_add]
    have : 2 ^ m * (V / 2 ^ m) * 2 ^ n = 2 ^ m * 2 ^ n * (V / 2 ^ m) := by rw [Nat.mul_assoc, Nat.mul_comm (V / 2 ^ m), ← Nat.mul_assoc]
    omega
  rw [e, Nat.add_mul_mod_self_left, Nat.mod_eq_of_lt hlt]
theorem div_mod_ext (V M k : Nat) (h : k + 8 ≤ M) : V % 2 ^ M / 2 ^ k % 256 = V / 2 ^ k % 256 := by
  have e : M = k + (M - k) := by omega
  rw [e, Nat.pow_add, Nat.mod_mul_right_div_self, show (256 : Nat) = 2 ^ 8 from rfl, Nat.mod_mod_of_dvd]
  exact Nat.pow_dvd_pow 2 (by omega)
theorem mod_mod_pow (V M k : Nat) (h : k ≤ M) : V % 2 ^ M % 2 ^ k = V % 2 ^ k := Nat.mod_mod_of_dvd _ (Nat.pow_dvd_pow 2 h)
/-- the last byte: what is left, and ones behind it -/
def lastOf (V r : Nat) : UInt8 := UInt8.ofNat (V % 2 ^ r * 2 ^ (8 - r) + (2 ^ (8 - r) - 1))
/-- the code of a text -/
def enc (l : List UInt8) : List UInt8 :=
  outTo (valN l) (bitsIn l) (bitsIn l / 8) ++ if bitsIn l % 8 = 0 then [] else [lastOf (valN l) (bitsIn l % 8)]
theorem enc_len (l : List UInt8) : (enc l).length = (bitsIn l + 7) / 8 := by
  unfold enc
  rw [List.length_append, outTo_len]
  split
  · simp; omega
  · simp; omega
/-- the bytes as cells -/
def bytesV (l : List UInt8) : List Value := l.map fun c => .int .u8 c.toNat
theorem bytesV_len (l : List UInt8) : (bytesV l).length = l.length := by simp [bytesV]
theorem bytesV_append (l r : List UInt8) : bytesV (l ++ r) = bytesV l ++ bytesV r := by simp [bytesV]
/-! ### The walk's spelling -/
theorem wrap_u64_nat (x : Nat) (h : x < 18446744073709551616) : IntKind.u64.wrap (x : Int) = (x : Int) := by rw [IntKind.wrap_u64]; omega
theorem wrap_u8_nat (x : Nat) : IntKind.u8.wrap (x : Int) = ((x % 256 : Nat) : Int) := by rw [IntKind.wrap_u8']; omega
theorem mul_or (x n c : Nat) (h : c < 2 ^ n) : x * 2 ^ n ||| c = x * 2 ^ n + c := by
  rw [Nat.mul_comm, Nat.two_pow_add_eq_or_of_lt h]
theorem or_step (hv n c : Nat) (h1 : hv < 128) (h2 : n ≤ 30) (h3 : c < 2 ^ n) :
    bits .or .u64 (IntKind.u64.wrap ((hv : Int) * 2 ^ n)) (c : Int) = ((hv * 2 ^ n + c : Nat) : Int) := by
  have hp : 2 ^ n ≤ 1073741824 := Nat.pow_le_pow_right (by decide) h2
  have hx : hv * 2 ^ n ≤ 128 * 1073741824 := Nat.mul_le_mul (by omega) hp
  have e : ((hv : Int) * 2 ^ n) = ((hv * 2 ^ n : Nat) : Int) := by simp
  rw [e, wrap_u64_nat _ (by omega), u64_or_nat _ _ (by omega) (by omega), mul_or _ _ _ h3]
theorem step_lt (hv m n c : Nat) (h1 : hv < 2 ^ m) (h3 : c < 2 ^ n) : hv * 2 ^ n + c < 2 ^ (m + n) := by
  rw [Nat.pow_add]
  calc hv * 2 ^ n + c < hv * 2 ^ n + 2 ^ n := by omega
    _ = (hv + 1) * 2 ^ n := by rw [Nat.add_mul, Nat.one_mul]
    _ ≤ 2 ^ m * 2 ^ n := Nat.mul_le_mul_right _ h1
theorem mask_step (x r : Nat) (hx : x < 18446744073709551616) (hr : r < 32) :
    bits .and .u64 (x : Int) (IntKind.u64.wrap (IntKind.u64.wrap ((2 : Int) ^ r) - 1)) = ((x % 2 ^ r : Nat) : Int) := by
  have hp : 2 ^ r ≤ 4294967296 := Nat.le_trans (Nat.pow_le_pow_right (by decide) (by omega : r ≤ 32)) (by decide)
  have h1 : 1 ≤ 2 ^ r := Nat.one_le_two_pow
  have e : ((2 : Int) ^ r) = ((2 ^ r : Nat) : Int) := by simp
  have e2 : ((2 ^ r : Nat) : Int) - 1 = ((2 ^ r - 1 : Nat) : Int) := by omega
  rw [e, wrap_u64_nat _ (by omega), e2, wrap_u64_nat _ (by omega), u64_and_nat _ _ hx (by omega), Nat.and_two_pow_sub_one_eq_mod]
theorem last_lt (hv m j : Nat) (hm : m + j = 8) (hh : hv < 2 ^ m) : hv * 2 ^ j + (2 ^ j - 1) < 256 := by
  have h1 : 1 ≤ 2 ^ j := Nat.one_le_two_pow
  have := step_lt hv m j (2 ^ j - 1) hh (by omega)
  rwa [hm] at this
theorem last_step (hv m j : Nat) (hm : m + j = 8) (hm1 : 0 < m) (hh : hv < 2 ^ m) :
    bits .or .u8 (IntKind.u8.wrap (IntKind.u64.wrap ((hv : Int) * 2 ^ min j 64))) (IntKind.u8.wrap (IntKind.u8.wrap ((2 : Int) ^ min j 8) - 1)) = ((hv * 2 ^ j + (2 ^ j - 1) : Nat) : Int) := by
  have h1 : 1 ≤ 2 ^ j := Nat.one_le_two_pow
  have hl := last_lt hv m j hm hh
  have hp : 2 ^ j ≤ 2 ^ 7 := Nat.pow_le_pow_right (by decide) (by omega)
  have e0 : min j 64 = j := by omega
  have e1 : min j 8 = j := by omega
  have e : ((hv : Int) * 2 ^ j) = ((hv * 2 ^ j : Nat) : Int) := by simp
  have e2 : ((2 : Int) ^ j) = ((2 ^ j : Nat) : Int) := by simp
  have e3 : ((2 ^ j : Nat) : Int) - 1 = ((2 ^ j - 1 : Nat) : Int) := by omega
  rw [e0, e1, e, e2, wrap_u64_nat _ (by omega), wrap_u8_nat, wrap_u8_nat, Nat.mod_eq_of_lt (by omega), Nat.mod_eq_of_lt (by omega), e3, wrap_u8_nat, Nat.mod_eq_of_lt (by omega), u8_or_nat _ _ (by omega) (by omega), mul_or _ _ _ (by omega)]
end Go.Proofs.YtblenefhoidhaaaDoor.Huff
