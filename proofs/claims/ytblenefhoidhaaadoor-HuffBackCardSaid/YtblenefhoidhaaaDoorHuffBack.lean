/-
  The plain laws of the Huffman code: a text's code says it, and what is taken is the code of what it says.
-/
import Derived.Test.YtblenefhoidhaaaDoorHuffDec
import Derived.Test.YtblenefhoidhaaaDoorHuffLTog
namespace Go.Proofs.YtblenefhoidhaaaDoor.Huff
/-- the first so many bits as a number -/
def pre (xs : List UInt8) : Nat → Nat
  | 0 => 0
  | i + 1 => pre xs i * 2 + bitAt xs i
theorem bit_lt (xs : List UInt8) (i : Nat) : bitAt xs i < 2 := Nat.mod_lt _ (by decide)
theorem pre_add (xs : List UInt8) (i : Nat) : ∀ d, ∃ c, c < 2 ^ d ∧ pre xs (i + d) = pre xs i * 2 ^ d + c := by
  intro d
  induction d with
  | zero => exact ⟨0, by simp, by simp⟩
  | succ d ih =>
    obtain ⟨c, hc, e⟩ := ih
    have hb := bit_lt xs (i + d)
    refine ⟨c * 2 + bitAt xs (i + d), by rw [Nat.pow_succ]; omega, ?_⟩
    show pre xs (i + d) * 2 + bitAt xs (i + d) = _
    rw [e, Nat.pow_succ, Nat.add_mul, Nat.mul_assoc, Nat.add_assoc]
theorem pre_div (xs : List UInt8) (i d : Nat) : pre xs (i + d) / 2 ^ d = pre xs i := by
  obtain ⟨c, hc, e⟩ := pre_add xs i d
  rw [e, Nat.add_comm, Nat.add_mul_div_right _ _ (Nat.two_pow_pos d), Nat.div_eq_of_lt hc, Nat.zero_add]
theorem pre_byte (xs : List UInt8) (q : Nat) : pre xs (8 * q + 8) = pre xs (8 * q) * 256 + (xs.getD q 0).toNat := by
  have hb : (xs.getD q 0).toNat < 256 := (xs.getD q 0).toNat_lt
  have h : ∀ k, k < 8 → bitAt xs (8 * q + k) = (xs.getD q 0).toNat / 2 ^ (7 - k) % 2 := by
    intro k hk
    unfold bitAt
    rw [show (8 * q + k) / 8 = q by omega, show (8 * q + k) % 8 = k by omega]
  have h0 := h 0 (by omega)
  have h1 := h 1 (by omega)
  have h2 := h 2 (by omega)
  have h3 := h 3 (by omega)
  have h4 := h 4 (by omega)
  have h5 := h 5 (by omega)
  have h6 := h 6 (by omega)
  have h7 := h 7 (by omega)
  have e : pre xs (8 * q + 8) = ((((((((pre xs (8 * q)) * 2 + bitAt xs (8 * q + 0)) * 2 + bitAt xs (8 * q + 1)) * 2 + bitAt xs (8 * q + 2)) * 2 + bitAt xs (8 * q + 3)) * 2 + bitAt xs (8 * q + 4)) * 2 + bitAt xs (8 * q + 5)) * 2 + bitAt xs (8 * q + 6)) * 2 + bitAt xs (8 * q + 7) := rfl
  rw [e, h0, h1, h2, h3, h4, h5, h6, h7]
  generalize (xs.getD q 0).toNat = b at *
  clear e h h0 h1 h2 h3 h4 h5 h6 h7
  simp only [Nat.reducePow, Nat.reduceSub]
  omega
theorem of_mod (x : Nat) : (UInt8.ofNat (x % 256)).toNat = x % 256 := UInt8.toNat_ofNat_of_lt' (Nat.mod_lt x (by decide : 0 < 256))
theorem outTo_getD (T L n q : Nat) (hq : q < n) : (outTo T L n).getD q 0 = UInt8.ofNat (T / 2 ^ (L - 8 * (q + 1)) % 256) := by
  unfold outTo
  simp [List.getD, hq]
theorem bytes_pre (xs : List UInt8) : xs = outTo (pre xs (8 * xs.length)) (8 * xs.length) xs.length := by
  apply List.ext_getElem
  · rw [outTo_len]
  · intro i h1 h2
    have e : pre xs (8 * xs.length) / 2 ^ (8 * xs.length - 8 * (i + 1)) = pre xs (8 * i + 8) := by
      have := pre_div xs (8 * i + 8) (8 * xs.length - 8 * (i + 1))
      rwa [show 8 * i + 8 + (8 * xs.length - 8 * (i + 1)) = 8 * xs.length by omega] at this
    have h3 : (outTo (pre xs (8 * xs.length)) (8 * xs.length) xs.length)[i] = (outTo (pre xs (8 * xs.length)) (8 * xs.length) xs.length).getD i 0 := by simp [List.getD, List.getElem?_eq_getElem h2]
    rw [h3, outTo_getD _ _ _ _ h1, e, pre_byte]
    have hg : xs.getD i 0 = xs[i] := by simp [List.getD, List.getElem?_eq_getElem h1]
    rw [hg, Nat.mul_comm, Nat.mul_add_mod, Nat.mod_eq_of_lt xs[i].toNat_lt]
    simp
/-- the code as one number -/
theorem enc_eq (l : List UInt8) (b : Nat) (hb : b < 8) (h8 : (bitsIn l + b) % 8 = 0) :
    enc l = outTo (valN l * 2 ^ b + (2 ^ b - 1)) (bitsIn l + b) ((bitsIn l + b) / 8) := by
  have hp : 1 ≤ 2 ^ b := Nat.one_le_two_pow
  unfold enc
  generalize valN l = V
  generalize bitsIn l = L at *
  by_cases hz : L % 8 = 0
  · have : b = 0 := by omega
    subst this
    rw [if_pos hz]
    simp
  · rw [if_neg hz]
    have hq : (L + b) / 8 = L / 8 + 1 := by omega
    rw [hq, outTo_succ, outTo_ext V L (L / 8) b (2 ^ b - 1) (by omega) (by omega)]
    congr 2
    unfold lastOf
    have e0 : L + b - 8 * (L / 8 + 1) = 0 := by omega
    have eb : 8 - L % 8 = b := by omega
    have h1 := mod_ext V (L % 8) b (2 ^ b - 1) (by omega)
    rw [show L % 8 + b = 8 by omega] at h1
    rw [e0, eb, Nat.pow_zero, Nat.div_one, show (256 : Nat) = 2 ^ 8 from rfl, h1]
theorem out_pre (T n : Nat) (hT : T < 2 ^ (8 * n)) : ∀ q, q ≤ n → pre (outTo T (8 * n) n) (8 * q) = T / 2 ^ (8 * n - 8 * q) := by
  intro q
  induction q with
  | zero => intro _; rw [Nat.mul_zero, Nat.sub_zero, Nat.div_eq_of_lt hT]; rfl
  | succ q ih =>
    intro hq
    rw [show 8 * (q + 1) = 8 * q + 8 by omega, pre_byte, ih (by omega), outTo_getD _ _ _ _ (by omega), of_mod]
    have e : 8 * n - 8 * q = (8 * n - 8 * (q + 1)) + 8 := by omega
    rw [e, Nat.pow_add, ← Nat.div_div_eq_div_mul, show (2 : Nat) ^ 8 = 256 from rfl, show 8 * n - (8 * q + 8) = 8 * n - 8 * (q + 1) by omega]
    omega
/-! ### What is taken is the code of what it says -/
theorem go_back (xs : List UInt8) : ∀ (r code bits : Nat) (out u : List UInt8), decGo xs r code bits out = some u → r ≤ 8 * xs.length → code < 2 ^ bits → pre xs (8 * xs.length - r) = valN out * 2 ^ bits + code → 8 * xs.length - r = bitsIn out + bits →
    ∃ b, b < 8 ∧ pre xs (8 * xs.length) = valN u * 2 ^ b + (2 ^ b - 1) ∧ 8 * xs.length = bitsIn u + b := by
  intro r
  induction r with
  | zero =>
    intro code bits out u h _ hc hp hl
    unfold decGo at h
    split at h
    · cases h
    · rename_i hn
      injection h with h
      subst h
      have h2 : code = 2 ^ bits - 1 := by omega
      rw [h2] at hp
      exact ⟨bits, by omega, hp, hl⟩
  | succ r ih =>
    intro code bits out u h hr hc hp hl
    unfold decGo at h
    have hb := bit_lt xs (8 * xs.length - (r + 1))
    have hpre : pre xs (8 * xs.length - r) = pre xs (8 * xs.length - (r + 1)) * 2 + bitAt xs (8 * xs.length - (r + 1)) := by
      rw [show 8 * xs.length - r = (8 * xs.length - (r + 1)) + 1 by omega]; rfl
    have hcode : code * 2 + bitAt xs (8 * xs.length - (r + 1)) < 2 ^ (bits + 1) := by rw [Nat.pow_succ]; omega
    have hnew : pre xs (8 * xs.length - r) = valN out * 2 ^ (bits + 1) + (code * 2 + bitAt xs (8 * xs.length - (r + 1))) := by
      rw [hpre, hp, Nat.pow_succ, Nat.add_mul, Nat.mul_assoc, Nat.add_assoc]
    generalize code * 2 + bitAt xs (8 * xs.length - (r + 1)) = cd at *
    split at h
    · rename_i s hs
      obtain ⟨s1, s2, s3⟩ := find_some hs
      split at h
      · cases h
      · rename_i hne
        have hs8 : (UInt8.ofNat s).toNat = s := UInt8.toNat_ofNat_of_lt' (by show s < 256; omega)
        refine ih 0 0 (out ++ [UInt8.ofNat s]) u h (by omega) (by simp) ?_ ?_
        · rw [valN_snoc, hs8, s2, s3, hnew]; simp
        · rw [bitsIn_snoc, hs8, s3]; omega
    · split at h
      · exact ih _ _ _ _ h (by omega) hcode hnew (by omega)
      · cases h
theorem dec_back {xs u : List UInt8} (h : dec xs = some u) : enc u = xs := by
  obtain ⟨b, hb, hp, hl⟩ := go_back xs _ 0 0 [] u h (Nat.le_refl _) (by simp) (by simp [pre, valN]) (by simp [bitsIn])
  have e := bytes_pre xs
  rw [hp] at e
  rw [enc_eq u b hb (by omega), ← hl, show 8 * xs.length / 8 = xs.length by omega]
  exact e.symm
/-! ### A text's code says it -/
theorem end_sym : bitsOf 256 = 30 ∧ codeOf 256 = 2 ^ 30 - 1 := by decide +kernel
theorem ones_div (a d : Nat) : (2 ^ (a + d) - 1) / 2 ^ d = 2 ^ a - 1 := by
  have h1 : 1 ≤ 2 ^ a := Nat.one_le_two_pow
  have h2 : 1 ≤ 2 ^ d := Nat.one_le_two_pow
  have e : 2 ^ (a + d) - 1 = (2 ^ d - 1) + (2 ^ a - 1) * 2 ^ d := by
    rw [Nat.pow_add, Nat.sub_mul, Nat.one_mul]
    have : 2 ^ d ≤ 2 ^ a * 2 ^ d := Nat.le_mul_of_pos_left _ (by omega)
    omega
  rw [e, Nat.add_mul_div_right _ _ (by omega), Nat.div_eq_of_lt (by omega), Nat.zero_add]
/-- the symbol that comes next -/
def nextSym (l : List UInt8) (k : Nat) : Nat := if k < l.length then (l.getD k 0).toNat else 256
theorem next_lt (l : List UInt8) (k : Nat) : nextSym l k < 257 := by
  unfold nextSym
  split
  · have := (l.getD k 0).toNat_lt; omega
  · omega
/-- the code's first bits, up to a place within the next symbol -/
theorem total_div (l : List UInt8) (b k bits : Nat) (hk : k ≤ l.length) (hb : bits ≤ bitsOf (nextSym l k)) (hi : bitsIn (l.take k) + bits ≤ bitsIn l + b) (hb8 : b < 8) :
    (valN l * 2 ^ b + (2 ^ b - 1)) / 2 ^ (bitsIn l + b - (bitsIn (l.take k) + bits)) = valN (l.take k) * 2 ^ bits + codeOf (nextSym l k) / 2 ^ (bitsOf (nextSym l k) - bits) := by
  have hp : 1 ≤ 2 ^ b := Nat.one_le_two_pow
  by_cases hlt : k < l.length
  · have hn : nextSym l k = (l[k]).toNat := by unfold nextSym; rw [if_pos hlt]; simp [List.getD, List.getElem?_eq_getElem hlt]
    rw [hn] at hb ⊢
    have hsplit : l = l.take (k + 1) ++ l.drop (k + 1) := (List.take_append_drop _ _).symm
    have htk : l.take (k + 1) = l.take k ++ [l[k]] := List.take_succ_eq_append_getElem hlt
    obtain ⟨c3, hc3, e3⟩ := valN_app (l.take (k + 1)) _ (l.drop (k + 1)) rfl
    rw [← hsplit] at e3
    have eL : bitsIn l = bitsIn (l.take k) + bitsOf (l[k]).toNat + bitsIn (l.drop (k + 1)) := by
      have := bitsIn_app (l.take (k + 1)) (l.drop (k + 1))
      rw [← hsplit, htk, bitsIn_snoc] at this
      exact this
    have ev : valN (l.take (k + 1)) = valN (l.take k) * 2 ^ bitsOf (l[k]).toNat + codeOf (l[k]).toNat := by rw [htk, valN_snoc]
    generalize bitsIn (l.drop (k + 1)) = B3 at *
    generalize bitsOf (l[k]).toNat = n at *
    generalize codeOf (l[k]).toNat = cd at *
    generalize valN (l.take k) = V0 at *
    generalize bitsIn (l.take k) = L0 at *
    rw [e3, ev, eL]
    have hd : L0 + n + B3 + b - (L0 + bits) = (B3 + b) + (n - bits) := by omega
    rw [hd, Nat.pow_add, ← Nat.div_div_eq_div_mul]
    have e1 : ((V0 * 2 ^ n + cd) * 2 ^ B3 + c3) * 2 ^ b + (2 ^ b - 1) = (c3 * 2 ^ b + (2 ^ b - 1)) + (V0 * 2 ^ n + cd) * 2 ^ (B3 + b) := by
      rw [Nat.pow_add, Nat.add_mul, Nat.mul_assoc]; omega
    have hsm : c3 * 2 ^ b + (2 ^ b - 1) < 2 ^ (B3 + b) := step_lt c3 B3 b _ hc3 (by omega)
    rw [e1, Nat.add_mul_div_right _ _ (Nat.two_pow_pos _), Nat.div_eq_of_lt hsm, Nat.zero_add]
    have e2 : V0 * 2 ^ n = V0 * 2 ^ bits * 2 ^ (n - bits) := by rw [Nat.mul_assoc, ← Nat.pow_add]; congr 2; omega
    rw [e2, Nat.add_comm, Nat.add_mul_div_right _ _ (Nat.two_pow_pos _), Nat.add_comm]
  · have hn : nextSym l k = 256 := by unfold nextSym; rw [if_neg hlt]
    have ht : l.take k = l := List.take_of_length_le (by omega)
    rw [hn, end_sym.1] at hb
    rw [ht] at hi
    rw [hn, ht, end_sym.1, end_sym.2]
    have hbb : bits ≤ b := by omega
    rw [show bitsIn l + b - (bitsIn l + bits) = b - bits by omega]
    have e1 := ones_div bits (b - bits)
    rw [show bits + (b - bits) = b by omega] at e1
    have e2 := ones_div bits (30 - bits)
    rw [show bits + (30 - bits) = 30 by omega] at e2
    rw [e2]
    have e3 : valN l * 2 ^ b = valN l * 2 ^ bits * 2 ^ (b - bits) := by rw [Nat.mul_assoc, ← Nat.pow_add]; congr 2; omega
    rw [e3, Nat.add_comm, Nat.add_mul_div_right _ _ (Nat.two_pow_pos _), e1, Nat.add_comm]
theorem no_sym {s bits : Nat} (hs : s < 257) (hb : bits < bitsOf s) : findSym (codeOf s / 2 ^ (bitsOf s - bits)) bits = none := by
  cases h : findSym (codeOf s / 2 ^ (bitsOf s - bits)) bits with
  | none => rfl
  | some t =>
    obtain ⟨t1, t2, t3⟩ := find_some h
    exfalso
    have hne : t ≠ s := by rintro rfl; omega
    exact apart t1 hs hne (by omega) (by rw [t3, t2])
theorem go_forth (l : List UInt8) (b : Nat) (hb8 : b < 8) (h8 : 8 * (enc l).length = bitsIn l + b) (hpre : ∀ i, i ≤ bitsIn l + b → pre (enc l) i = (valN l * 2 ^ b + (2 ^ b - 1)) / 2 ^ (bitsIn l + b - i)) :
    ∀ (r k bits : Nat), k ≤ l.length → bits < bitsOf (nextSym l k) → bitsIn (l.take k) + bits + r = bitsIn l + b →
      decGo (enc l) r (codeOf (nextSym l k) / 2 ^ (bitsOf (nextSym l k) - bits)) bits (l.take k) = some l := by
  intro r
  induction r with
  | zero =>
    intro k bits hk hb hr
    have hkl : k = l.length := by
      rcases Nat.lt_or_ge k l.length with hlt | hge
      · exfalso
        have hn : nextSym l k = (l[k]).toNat := by unfold nextSym; rw [if_pos hlt]; simp [List.getD, List.getElem?_eq_getElem hlt]
        have htk : l.take (k + 1) = l.take k ++ [l[k]] := List.take_succ_eq_append_getElem hlt
        have := bitsIn_app (l.take (k + 1)) (l.drop (k + 1))
        rw [List.take_append_drop, htk, bitsIn_snoc] at this
        rw [hn] at hb
        omega
      · omega
    subst hkl
    have hn : nextSym l l.length = 256 := by unfold nextSym; rw [if_neg (by omega)]
    rw [List.take_length] at hr ⊢
    have hbb : bits = b := by omega
    have e2 := ones_div bits (30 - bits)
    rw [show bits + (30 - bits) = 30 by omega] at e2
    rw [hn, end_sym.1, end_sym.2, e2]
    unfold decGo
    rw [if_neg (by omega)]
  | succ r ih =>
    intro k bits hk hb hr
    have hi : 8 * (enc l).length - (r + 1) = bitsIn (l.take k) + bits := by omega
    have d0 := total_div l b k bits hk (by omega) (by omega) hb8
    have d1 := total_div l b k (bits + 1) hk (by omega) (by omega) hb8
    have p0 := hpre (bitsIn (l.take k) + bits) (by omega)
    have p1 := hpre (bitsIn (l.take k) + (bits + 1)) (by omega)
    rw [d0] at p0
    rw [d1] at p1
    have hstep : pre (enc l) (bitsIn (l.take k) + (bits + 1)) = pre (enc l) (bitsIn (l.take k) + bits) * 2 + bitAt (enc l) (bitsIn (l.take k) + bits) := rfl
    have hcode : codeOf (nextSym l k) / 2 ^ (bitsOf (nextSym l k) - bits) * 2 + bitAt (enc l) (bitsIn (l.take k) + bits) = codeOf (nextSym l k) / 2 ^ (bitsOf (nextSym l k) - (bits + 1)) := by
      rw [p0, p1, Nat.pow_succ] at hstep
      have : valN (l.take k) * (2 ^ bits * 2) = valN (l.take k) * 2 ^ bits * 2 := by rw [Nat.mul_assoc]
      omega
    unfold decGo
    rw [hi, hcode]
    by_cases hend : bits + 1 = bitsOf (nextSym l k)
    · have hlt : k < l.length := by
        rcases Nat.lt_or_ge k l.length with h | h
        · exact h
        · exfalso
          have hn : nextSym l k = 256 := by unfold nextSym; rw [if_neg (by omega)]
          rw [hn, end_sym.1] at hend
          have ht : l.take k = l := List.take_of_length_le h
          rw [ht] at hr
          omega
      have hn : nextSym l k = (l[k]).toNat := by unfold nextSym; rw [if_pos hlt]; simp [List.getD, List.getElem?_eq_getElem hlt]
      have htk : l.take (k + 1) = l.take k ++ [l[k]] := List.take_succ_eq_append_getElem hlt
      rw [← hend, Nat.sub_self, Nat.pow_zero, Nat.div_one, hend, find_sym (next_lt l k)]
      have hl8 : (l[k]).toNat < 256 := (l[k]).toNat_lt
      simp only
      rw [if_neg (by rw [hn]; omega), hn]
      have e8 : UInt8.ofNat (l[k]).toNat = l[k] := by simp
      rw [e8, ← htk]
      have hlen : bitsIn (l.take (k + 1)) = bitsIn (l.take k) + (bits + 1) := by rw [htk, bitsIn_snoc, ← hn, hend]
      have hpos : 5 ≤ bitsOf (nextSym l (k + 1)) := (bits_ok (next_lt l (k + 1))).1
      have := ih (k + 1) 0 hlt (by omega) (by rw [hlen]; omega)
      rw [Nat.sub_zero, Nat.div_eq_of_lt (bits_ok (next_lt l (k + 1))).2.2] at this
      exact this
    · rw [no_sym (next_lt l k) (by omega)]
      have h30 := (bits_ok (next_lt l k)).2.1
      simp only
      rw [if_pos (by omega)]
      exact ih k (bits + 1) hk (by omega) (by omega)
theorem enc_forth (l : List UInt8) : dec (enc l) = some l := by
  obtain ⟨b, hb8, h8⟩ : ∃ b, b < 8 ∧ (bitsIn l + b) % 8 = 0 := ⟨(8 - bitsIn l % 8) % 8, by omega, by omega⟩
  have hp : 1 ≤ 2 ^ b := Nat.one_le_two_pow
  have he := enc_eq l b hb8 h8
  have hlen : 8 * (enc l).length = bitsIn l + b := by rw [he, outTo_len]; omega
  have hT : valN l * 2 ^ b + (2 ^ b - 1) < 2 ^ (8 * ((bitsIn l + b) / 8)) := by
    rw [show 8 * ((bitsIn l + b) / 8) = bitsIn l + b by omega]
    exact step_lt _ _ b _ (valN_lt l) (by omega)
  have hfull : pre (enc l) (bitsIn l + b) = valN l * 2 ^ b + (2 ^ b - 1) := by
    have := out_pre _ _ hT ((bitsIn l + b) / 8) (Nat.le_refl _)
    rw [show 8 * ((bitsIn l + b) / 8) = bitsIn l + b by omega, Nat.sub_self, Nat.pow_zero, Nat.div_one, ← he] at this
    exact this
  have hpos : 5 ≤ bitsOf (nextSym l 0) := (bits_ok (next_lt l 0)).1
  have h := go_forth l b hb8 hlen (fun i hi => by
    have := pre_div (enc l) i (bitsIn l + b - i)
    rw [show i + (bitsIn l + b - i) = bitsIn l + b by omega, hfull] at this
    exact this.symm) (8 * (enc l).length) 0 0 (Nat.zero_le _) (by omega) (by simp [bitsIn] at *; omega)
  rw [Nat.sub_zero, Nat.div_eq_of_lt (bits_ok (next_lt l 0)).2.2] at h
  exact h
end Go.Proofs.YtblenefhoidhaaaDoor.Huff
