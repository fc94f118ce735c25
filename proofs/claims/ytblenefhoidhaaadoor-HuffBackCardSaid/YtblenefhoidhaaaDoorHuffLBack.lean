/-
  The walk of the law HuffBack: it answers true.
-/
import Derived.Test.YtblenefhoidhaaaDoorHuffBack
namespace Go.Proofs.YtblenefhoidhaaaDoor.Huff
open Go.RowKit
theorem bitsIn_ge (l : List UInt8) : 5 * l.length ≤ bitsIn l := by
  induction l with
  | nil => simp
  | cons c l ih =>
    have h := (byte_ok c).1
    have : bitsIn (c :: l) = bitsOf c.toNat + bitsIn l := by simp [bitsIn]
    rw [this, List.length_cons]; omega
theorem own_slice_n {w : World} {base n : Nat} {v : Value} {xs : List UInt8} (hn : xs.length = n) (h : w.ownsRow base 5 1 v n (bytesV xs)) : ∃ A cap, v = .slice A n cap ∧ BytesAt w A xs := by
  subst hn
  exact own_slice h
theorem same_n (xs : List UInt8) (n : Nat) (hn : xs.length = n) (A B : Option Addr) (c d : Nat) (w : World) (hx : BytesAt w A xs) (hy : BytesAt w B xs) :
    Calls Tryd.prog 14 #[.slice A n c, .slice B n d] w fun e w' => e = .returned (.bool true) ∧ w = w' := by
  subst hn
  have h := same_any xs xs A B c d w hx hy
  rw [decide_eq_true rfl] at h
  exact h
set_option maxRecDepth 100000 in
set_option maxHeartbeats 1000000 in
theorem lback_any (s : ByteArray) (xs : List UInt8) (A : Option Addr) (cap : Nat) (v : Value) (w : World) (hx : BytesAt w A xs) (hie : IsErr v) (hv : w.cell? ⟨0, 0, none⟩ = some v) (hg : 0 < w.heap.size) :
    Calls Tryd.prog 7 #[.string s, .slice A xs.length cap] w fun e w' => e = .returned (.bool true) ∧ Below w.heap.size w w' := by
  have HF := Lib.hid (first_any v w hv hg)
  by_cases hbig : 2000 < s.size ∨ 2000 < xs.length
  · rcases hbig with hbig | hbig
    · go_enter Tryd.func7, Tryd.ntmps7
      go_wp2_with fail
      refine HF.out.mono ?_
      rintro e w1 ⟨rfl, hb1⟩
      go_wp2_with fail
      all_goals (go_ret; exact ⟨rfl, hb1⟩)
    · go_enter Tryd.func7, Tryd.ntmps7
      go_wp2_with fail
      refine HF.out.mono ?_
      rintro e w1 ⟨rfl, hb1⟩
      go_wp2_with fail
      all_goals (go_ret; exact ⟨rfl, hb1⟩)
  · have hs : s.size ≤ 2000 := by omega
    have hxs : xs.length ≤ 2000 := by omega
    clear hbig
    have HE := fun W : World => Lib.hid (encode_any s W (by omega))
    have HS := fun W : World => Lib.hid (size_any s W (by omega))
    have hsl : s.data.toList.length = s.size := by simp
    have hn : (enc s.data.toList).length ≤ 8000 := by
      have h1 := bitsIn_le s.data.toList
      rw [enc_len]; omega
    have hln := enc_len s.data.toList
    have HD := fun (W : World) (A : Option Addr) (c : Nat) (h : BytesAt W A (enc s.data.toList)) (h1 : W.cell? ⟨0, 0, none⟩ = some v) (h2 : 0 < W.heap.size) => Lib.hid (decode_any (enc s.data.toList) A c v W (by omega) h h1 h2)
    unfold DecPost at HD
    rw [enc_forth] at HD
    have hst : (⟨s.data.toList.toArray⟩ : ByteArray) = s := by simp
    simp only [hst] at HD
    generalize hEl : (enc s.data.toList).length = n at *
    rw [← hln] at HS
    have HEl := Lib.hid hEl
    clear hEl hln hsl hst
    generalize enc s.data.toList = E at *
    go_enter Tryd.func7, Tryd.ntmps7
    go_wp2_with fail
    refine HF.out.mono ?_
    rintro e w1 ⟨rfl, hb1⟩
    go_wp2_with fail
    refine (HE _).out.mono ?_
    rintro e w2 ⟨v1, rfl, ho1, hb2⟩
    obtain ⟨B, c1, rfl, hA1⟩ := own_slice_n HEl.out ho1
    clear ho1
    have hB2 : Below w.heap.size w w2 := hb1.trans (hb2.mono hb1.size)
    go_wp2_with fail
    refine (HD w2 B c1 hA1 ((hB2.cell hg).trans hv) (Nat.lt_of_lt_of_le hg hB2.size)).out.mono ?_
    rintro e w3 ⟨hb3, rfl⟩
    have hB3 : Below w.heap.size w w3 := hB2.trans (hb3.mono hB2.size)
    clear hb1 hb2 hb3 hB2 hA1
    go_wp2_with fail
    refine (HE _).out.mono ?_
    rintro e w4 ⟨v2, rfl, ho2, hb4⟩
    obtain ⟨C, c2, rfl, hA2⟩ := own_slice_n HEl.out ho2
    clear ho2 hA2
    go_wp2_with fail
    refine (HS _).out.mono ?_
    rintro e w5 ⟨rfl, rfl⟩
    have hB4 : Below w.heap.size w w4 := hB3.trans (hb4.mono hB3.size)
    clear hb4 hB3
    go_wp2_with fail
    have hx4 := hx.below hB4
    refine (decode_any xs A cap v w4 (by omega) hx4 ((hB4.cell hg).trans hv) (Nat.lt_of_lt_of_le hg hB4.size)).mono ?_
    rintro e w5 ⟨hb5, rfl⟩
    have hB5 : Below w.heap.size w w5 := hB4.trans (hb5.mono hB4.size)
    cases hd : dec xs with
    | none =>
      obtain ⟨t, u, rfl⟩ := hie
      simp only
      go_wp2_with fail
      go_ret
      exact ⟨rfl, hB5⟩
    | some u =>
      have hu := dec_back hd
      have hul : u.length ≤ 8000 := by
        have h1 := bitsIn_ge u
        have h2 := enc_len u
        rw [hu] at h2
        omega
      have hus : (⟨u.toArray⟩ : ByteArray).size = u.length := by simp [ByteArray.size]
      have HU := fun W : World => Lib.hid (encode_any ⟨u.toArray⟩ W (by rw [hus]; omega))
      simp only [hu] at HU
      have HX := Lib.hid (hx.below hB5)
      clear hd hus hu hx4 hB4 hb5
      simp only
      go_wp2_with fail
      refine (HU _).out.mono ?_
      rintro e w6 ⟨v6, rfl, ho6, hb6⟩
      obtain ⟨D, c6, rfl, hA6⟩ := own_slice ho6
      clear ho6
      go_wp2_with fail
      refine (same_n xs xs.length rfl D A c6 cap w6 hA6 (HX.out.below hb6)).mono ?_
      rintro e w7 ⟨rfl, rfl⟩
      go_wp2_with fail
      go_ret
      exact ⟨rfl, hB5.trans (hb6.mono hB5.size)⟩
end Go.Proofs.YtblenefhoidhaaaDoor.Huff
