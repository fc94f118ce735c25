/-
  The walk of parleyref4's PutText.
-/
import Derived.Test.YtflmgjidnclegaaDoorHpkRIntM
import Derived.Test.YtflmgjidnclegaaDoorHuffRefEncM
namespace Go.Proofs.YtflmgjidnclegaaDoor.Hpk
open Go.RowKit
open Huff (bytesV bytesV_append bytesV_len bitsIn enc enc_len)
set_option maxRecDepth 100000 in
set_option maxHeartbeats 2000000 in
theorem rputtext_any (s : ByteArray) (hs : s.size ≤ 2147483647) (w : World) :
    Calls Tryd.prog 87 #[.string s] w (BytesEnd w (putText s)) := by
  have hl := enc_len s.data.toList
  obtain ⟨i, hi, hi0, hi1, hi2⟩ := info_parts (P := Tryd.prog) (e := 5) (z := .int .u8 0) (size := 1) (bytes := 1) (by kernel_rfl)
  have HI := Lib.hid hi
  have HSZ := Lib.hid (Huff.rsize_any s w (by omega))
  obtain ⟨z, hz⟩ : ∃ z : Nat, z = (bitsIn s.data.toList + 7) / 8 := ⟨_, rfl⟩
  rw [← hz] at HSZ hl
  have HZ := Lib.hid hz
  clear hi hz
  go_enter Tryd.func87, Tryd.ntmps87
  go_wp2_with fail
  refine HSZ.out.mono ?_
  rintro e w0 ⟨rfl, rfl⟩
  by_cases hlt : z < s.size
  · have hzl : z ≤ 2147483647 := by omega
    have hd : decide ((z : Int) < (s.size : Int)) = true := decide_eq_true (by omega)
    go_wp2_with fail
    refine (rputint_any 128 7 z (.inr (.inl ⟨rfl, rfl⟩)) hzl w).mono ?_
    rintro e w1 ⟨v1, rfl, ho1, hb1⟩
    have HO1 := Lib.hid ho1
    have HB1 := Lib.hid hb1
    have HE := Lib.hid (Huff.rencode_any s w1 (by omega))
    have h5 := putInt_len 128 7 z hzl
    clear ho1 hb1 HSZ
    go_wp2_with fail
    refine HE.out.mono ?_
    rintro e w2 ⟨v2, rfl, ho2, hb2⟩
    obtain ⟨A2, c2, rfl, -, -⟩ := Tab.own_slice ho2
    rw [hl] at ho2 ⊢
    have HO2 := Lib.hid ho2
    have HB2 := Lib.hid hb2
    have HO12 := Lib.hid (own_in HO1.out hb2)
    have hsz2 : w.heap.size ≤ w2.heap.size := Nat.le_trans HB1.out.size hb2.size
    clear HE ho2 hb2 HO1
    go_wp2_with (refine wpList_append_any _ rfl (.tmp 11) (.tmp 13) 66 rfl w.heap.size 5 i (.int .u8 0) 1 1 Tryd.underlying66 HI.out hi0 hi1 hi2 rfl (by decide) _ _ _ rfl HO12.out w2.heap.size A2 z c2 (bytesV (enc s.data.toList)) rfl (Reads.of_own HO2.out) (bytes_one _) (by unfold maxLen; omega) (by omega) hsz2 ?_; intro v3 w3 ho3 hg3 hat3)
    have hB3 : Below w.heap.size w w3 := (HB1.out.trans (HB2.out.mono HB1.out.size)).grown hg3 hsz2 (fun k hk => (HO12.out.lt k hk).1)
    have HO3 := Lib.hid ho3
    have HB3 := Lib.hid hB3
    clear ho3 hg3 hat3 hB3
    go_wp2_with fail
    go_ret
    refine ⟨v3, rfl, ?_, HB3.out⟩
    have h := HO3.out
    have e : putText s = putInt 128 7 z ++ enc s.data.toList := by
      unfold putText
      rw [← HZ.out, if_pos hlt, hl]
    rw [e, bytesV_append, List.length_append, hl]
    exact h
  · have hd : decide ((z : Int) < (s.size : Int)) = false := decide_eq_false (by omega)
    have h5 := putInt_len 0 7 s.size hs
    go_wp2_with fail
    refine (rputint_any 0 7 s.size (.inr (.inr (.inr (.inr (.inr ⟨rfl, rfl⟩))))) hs w).mono ?_
    rintro e w2 ⟨v2, rfl, ho2, hb2⟩
    have HO2 := Lib.hid ho2
    have HB2 := Lib.hid hb2
    have hsz2 := hb2.size
    clear ho2 hb2 HSZ
    go_wp2_with (refine Lib.wpList_append_own_string _ rfl (.tmp 17) (.tmp 18) 66 9 rfl w.heap.size 5 i Tryd.underlying66 Tryd.underlying9 HI.out hi0 hi1 hi2 _ _ _ rfl HO2.out s rfl (by unfold maxLen; omega) (by omega) hsz2 ?_; intro v3 w3 ho3 hg3 hat3)
    have hB3 : Below w.heap.size w w3 := HB2.out.grown hg3 hsz2 (fun k hk => (HO2.out.lt k hk).1)
    have HO3 := Lib.hid ho3
    have HB3 := Lib.hid hB3
    clear ho3 hg3 hat3 hB3
    go_wp2_with fail
    go_ret
    refine ⟨v3, rfl, ?_, HB3.out⟩
    have h := HO3.out
    have e : putText s = putInt 0 7 s.size ++ s.data.toList := by
      unfold putText
      rw [← HZ.out, if_neg hlt]
    have ht := text_len s
    rw [e, bytesV_append, List.length_append, ht]
    exact h
end Go.Proofs.YtflmgjidnclegaaDoor.Hpk
