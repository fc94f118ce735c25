/-
  The walk of the law HuffTogether: it answers true.
-/
import Derived.Test.YtblenefhoidhaaaDoorHuffFirst
namespace Go.Proofs.YtblenefhoidhaaaDoor.Huff
open Go.RowKit
theorem bitsIn_app (l r : List UInt8) : bitsIn (l ++ r) = bitsIn l + bitsIn r := by simp [bitsIn]
theorem valN_app (l : List UInt8) : ∀ (n : Nat) (r : List UInt8), r.length = n → ∃ c, c < 2 ^ bitsIn r ∧ valN (l ++ r) = valN l * 2 ^ bitsIn r + c := by
  intro n
  induction n with
  | zero =>
    intro r h
    have : r = [] := List.eq_nil_of_length_eq_zero h
    subst this
    exact ⟨0, by simp [bitsIn], by simp [bitsIn]⟩
  | succ n ih =>
    intro r h
    obtain ⟨q, x, rfl⟩ : ∃ q x, r = q ++ [x] := ⟨r.dropLast, r.getLast (by intro e; subst e; simp at h), (List.dropLast_concat_getLast _).symm⟩
    obtain ⟨c, hc, e⟩ := ih q (by simpa using h)
    have hx := byte_ok x
    refine ⟨c * 2 ^ bitsOf x.toNat + codeOf x.toNat, ?_, ?_⟩
    · rw [bitsIn_snoc]
      exact step_lt c _ _ _ hc hx.2.2
    · rw [← List.append_assoc, valN_snoc, e, bitsIn_snoc, Nat.pow_add, Nat.add_mul, Nat.mul_assoc, Nat.add_assoc]
theorem outTo_take (V L : Nat) : ∀ (q p : Nat), p ≤ q → (outTo V L q).take p = outTo V L p := by
  intro q p h
  unfold outTo
  rw [← List.map_take, List.take_range, Nat.min_eq_left h]
theorem enc_take (l : List UInt8) : (enc l).take (bitsIn l / 8) = outTo (valN l) (bitsIn l) (bitsIn l / 8) := by
  unfold enc
  rw [List.take_append_of_le_length (by rw [outTo_len]; exact Nat.le_refl _), List.take_of_length_le (by rw [outTo_len]; exact Nat.le_refl _)]
theorem enc_app_take (l r : List UInt8) : (enc (l ++ r)).take (bitsIn l / 8) = (enc l).take (bitsIn l / 8) := by
  obtain ⟨c, hc, e⟩ := valN_app l _ r rfl
  have hle : bitsIn l / 8 ≤ (bitsIn l + bitsIn r) / 8 := Nat.div_le_div_right (by omega)
  rw [enc_take]
  unfold enc
  rw [bitsIn_app, List.take_append_of_le_length (by rw [outTo_len]; exact hle), outTo_take _ _ _ _ hle, e]
  exact outTo_ext _ _ _ _ _ (by omega) hc
theorem BytesAt.take {w : World} {A : Option Addr} {xs : List UInt8} (h : BytesAt w A xs) (k : Nat) : BytesAt w A (xs.take k) := by
  intro i hi
  rw [List.length_take] at hi
  obtain ⟨b, off, e, hlt, hc⟩ := h i (by omega)
  refine ⟨b, off, e, hlt, ?_⟩
  rw [hc]
  simp [List.getD, show i < k by omega]
theorem run_cut {w : World} (A : Option Addr) (n cap q : Nat) (kd : IntKind) (hq : q ≤ cap) :
    (Instr.slice 32 (.slice A n cap) none (some (.int kd (q : Int))) none).run Tryd.prog w = .ok (.slice A q cap) w := by
  obtain ⟨j, hj, hj0, _⟩ := info_parts (P := Tryd.prog) (e := 5) (z := .int .u8 0) (size := 1) (bytes := 1) (by kernel_rfl)
  have he : Tryd.prog.elem 32 = 5 := by kernel_rfl
  have ht : Tryd.prog.underlying 32 = some (.slice (Tryd.prog.elem 32)) := by rw [he]; exact Tryd.underlying32
  have hA : (if cap = 0 then A else A.map fun x => x.add (0 * 1)) = A := by
    split
    · rfl
    · cases A with
      | none => rfl
      | some x => simp [Addr.add]
  rw [run_slice_h w 32 A n cap ht kd q (by omega) (by omega), he]
  have hs : (sizeOf 5).run Tryd.prog w = .ok 1 w := by kernel_rfl
  rw [hs]
  show Result.ok (sliced A 0 (q : Int).toNat cap 1) w = _
  simp only [sliced, Int.toNat_natCast, Nat.sub_zero]
  rw [hA]
theorem own_cap {w : World} {base : Nat} {e : TypeId} {A : Option Addr} {n cap : Nat} {xs : List Value} (h : w.ownsRow base e 1 (.slice A n cap) n xs) : n ≤ cap := by
  rcases h.2 with ⟨_, h0⟩ | ⟨g, cap', cur, h1, _, _, h2, _⟩
  · omega
  · injection h1 with _ _ h3
    omega
theorem len_append (s t : ByteArray) : (s ++ t).data.toList = s.data.toList ++ t.data.toList := by simp
set_option maxRecDepth 100000 in
set_option maxHeartbeats 1000000 in
theorem ltog_any (s t : ByteArray) (hst : s.size + t.size ≤ 1048576) (v : Value) (w : World) (hv : w.cell? ⟨0, 0, none⟩ = some v) (hg : 0 < w.heap.size) :
    Calls Tryd.prog 5 #[.string s, .string t] w fun e w' => e = .returned (.bool true) ∧ Below w.heap.size w w' := by
  have HF := Lib.hid (first_any v w hv hg)
  by_cases hbig : 2000 < s.size + t.size
  · go_enter Tryd.func5, Tryd.ntmps5
    go_wp2_with fail
    refine HF.out.mono ?_
    rintro e w1 ⟨rfl, hb1⟩
    go_wp2_with fail
    all_goals (go_ret; exact ⟨rfl, hb1⟩)
  · go_enter Tryd.func5, Tryd.ntmps5
    go_wp2_with fail
    refine HF.out.mono ?_
    rintro e w1 ⟨rfl, hb1⟩
    go_wp2_with fail
    go_loop [6, 7, 8] (fun b al i => ∃ k : Nat, k ≤ s.size + t.size ∧ i = .int .i64 (k : Int) ∧ b = .int .i64 (bitsIn (s.data.toList.take k) : Nat) ∧ al = .int .i64 (bitsIn ((s.data.toList ++ t.data.toList).take k) : Nat)) (fun _ _ i => s.size + t.size - (intOf i).toNat)
    case atStart => exact ⟨0, Nat.zero_le _, rfl, rfl, rfl⟩
    case round =>
      obtain ⟨k, hk, rfl, rfl, rfl⟩ := hrel
      have hl1 := bitsIn_le (s.data.toList.take k)
      have hl2 := bitsIn_le ((s.data.toList ++ t.data.toList).take k)
      have hl3 : (s.data.toList.take k).length ≤ k := List.length_take_le _ _
      have hl4 : ((s.data.toList ++ t.data.toList).take k).length ≤ k := List.length_take_le _ _
      by_cases hlt : k < s.size + t.size
      · by_cases hks : k < s.size
        · have hsn : bitsIn (s.data.toList.take (k + 1)) = bitsIn (s.data.toList.take k) + bitsOf s[k].toNat := by rw [take_snoc s k hks, bitsIn_snoc]
          have hsn2 : bitsIn ((s.data.toList ++ t.data.toList).take (k + 1)) = bitsIn ((s.data.toList ++ t.data.toList).take k) + bitsOf s[k].toNat := by
            rw [List.take_append_of_le_length (by simp; omega), List.take_append_of_le_length (by simp; omega), take_snoc s k hks, bitsIn_snoc]
          have HS := Lib.hid hsn
          have HS2 := Lib.hid hsn2
          clear hsn hsn2
          have hc : s[k].toNat < 257 := by have := s[k].toNat_lt; omega
          have hb1 : bitsOf s[k].toNat ≤ 30 := (bits_ok hc).2.1
          go_wp2_with (go_at_call 9; refine (bits_yes s[k].toNat _ hc).mono ?_; rintro e w' ⟨rfl, rfl⟩)
          go_round
          case rel => exact ⟨k + 1, by omega, by go_num, by rw [HS.out]; go_num, by rw [HS2.out]; go_num⟩
          case measure => simp [intOf]; omega
        · obtain ⟨j, hj⟩ : ∃ j, k = s.size + j := ⟨k - s.size, by omega⟩
          have hjt : j < t.size := by omega
          have hji : (k : Int) - (s.size : Int) = (j : Int) := by omega
          have hsn : bitsIn (s.data.toList.take (k + 1)) = bitsIn (s.data.toList.take k) := by
            rw [List.take_of_length_le (by simp; omega), List.take_of_length_le (by simp; omega)]
          have hsn2 : bitsIn ((s.data.toList ++ t.data.toList).take (k + 1)) = bitsIn ((s.data.toList ++ t.data.toList).take k) + bitsOf t[j].toNat := by
            have hl : s.data.toList.length = s.size := by simp
            rw [hj, ← hl, Nat.add_assoc, List.take_length_add_append, List.take_length_add_append, take_snoc t j hjt, ← List.append_assoc, bitsIn_snoc]
          have HS := Lib.hid hsn
          have HS2 := Lib.hid hsn2
          have HJ := Lib.hid hj
          clear hsn hsn2 hj
          have hc : t[j].toNat < 257 := by have := t[j].toNat_lt; omega
          have hb1 : bitsOf t[j].toNat ≤ 30 := (bits_ok hc).2.1
          go_wp2_with (go_at_call 9; refine (bits_yes t[j].toNat _ hc).mono ?_; rintro e w' ⟨rfl, rfl⟩)
          go_round
          case rel => exact ⟨k + 1, by omega, by go_num, by rw [HS.out], by rw [HS2.out]; go_num⟩
          case measure => simp [intOf]; omega
      · have e1 : s.data.toList.take k = s.data.toList := List.take_of_length_le (by simp; omega)
        have e2 : (s.data.toList ++ t.data.toList).take k = s.data.toList ++ t.data.toList := List.take_of_length_le (by simp; omega)
        rw [e1] at hl1 ⊢
        rw [e2] at hl2 ⊢
        have HE1 := fun W : World => Lib.hid (encode_any s W (by omega))
        have HE2 := fun W : World => Lib.hid (encode_any (s ++ t) W (by simp; omega))
        rw [len_append] at HE2
        have hA := enc_app_take s.data.toList t.data.toList
        have hn1 := enc_len s.data.toList
        have hn2 := enc_len (s.data.toList ++ t.data.toList)
        have hz1 : s.data.toList.length = s.size := by simp
        have hz2 : (s.data.toList ++ t.data.toList).length = s.size + t.size := by simp
        have hle : bitsIn s.data.toList ≤ bitsIn (s.data.toList ++ t.data.toList) := by rw [bitsIn_app]; omega
        generalize enc s.data.toList = E1 at *
        generalize enc (s.data.toList ++ t.data.toList) = E2 at *
        generalize bitsIn s.data.toList = B1 at *
        generalize bitsIn (s.data.toList ++ t.data.toList) = B2 at *
        rw [hz1] at hl1
        rw [hz2] at hl2
        clear e1 e2 hl3 hl4 hz1 hz2
        go_wp2_with fail
        refine (HE1 _).out.mono ?_
        rintro e w2 ⟨v1, rfl, ho1, hb2⟩
        obtain ⟨A, c1, rfl, hA1⟩ := own_slice ho1
        go_wp2_with fail
        refine (HE2 _).out.mono ?_
        rintro e w3 ⟨v2, rfl, ho2, hb3⟩
        obtain ⟨B, c2, rfl, hA2⟩ := own_slice ho2
        have hA1' := hA1.below hb3
        have hk1 := own_cap ho1
        have hk2 := own_cap ho2
        have hsl1 := fun W : World => run_cut (w := W) A ((B1 + 7) / 8) c1 (B1 / 8) .i64 (by omega)
        have hsl2 := fun W : World => run_cut (w := W) B ((B2 + 7) / 8) c2 (B1 / 8) .i64 (by omega)
        have HN1 := Lib.hid hn1
        have HN2 := Lib.hid hn2
        have HO1 := Lib.hid ho1
        have HO2 := Lib.hid ho2
        clear ho1 ho2
        rw [hn1] at hk1
        rw [hn2] at hk2
        have hl1 : (E1.take (B1 / 8)).length = B1 / 8 := by rw [List.length_take]; omega
        have hl2 : (E2.take (B1 / 8)).length = B1 / 8 := by rw [List.length_take]; omega
        have hsm : ∀ nq, Calls Tryd.prog 14 #[.slice A (B1 / 8 : Nat) c1, .slice B (B1 / 8 : Nat) c2] (w3.drewN nq) fun e w' => e = .returned (.bool true) ∧ w' = w3.drewN nq := by
          intro nq
          have h := same_any (E1.take (B1 / 8)) (E2.take (B1 / 8)) A B c1 c2 (w3.drewN nq) (hA1'.take _) (hA2.take _)
          rw [hl1, hl2, hA, decide_eq_true rfl] at h
          exact h.mono fun e w' h => ⟨h.1, h.2.symm⟩
        have HSm := fun nq => Lib.hid (hsm nq)
        clear hsm hl1 hl2
        go_wp2_with (fail)
        have hq1 : IntKind.i64.wrap ((B1 : Int) / 8) = ((B1 / 8 : Nat) : Int) := by rw [IntKind.wrap_i64]; omega
        have hq2 : IntKind.i64.wrap ((B1 : Int).tdiv 8) = ((B1 / 8 : Nat) : Int) := by
          rw [Int.tdiv_eq_ediv_of_nonneg (by omega)]; exact hq1
        go_quiet ((go_at_call 14; exact Calls.quiet_of_same (HSm _).out))
        go_wp2
        go_ret
        exact ⟨rfl, below_drewN ((hb1.trans (hb2.mono hb1.size)).trans (hb3.mono (Nat.le_trans hb1.size hb2.size))) nq⟩
end Go.Proofs.YtblenefhoidhaaaDoor.Huff
