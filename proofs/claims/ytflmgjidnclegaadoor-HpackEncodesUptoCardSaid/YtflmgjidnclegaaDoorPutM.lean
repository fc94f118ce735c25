/-
  The walk of PutText.
-/
import Derived.Test.YtflmgjidnclegaaDoorIntM
import Derived.Test.YtflmgjidnclegaaDoorHuffM
import Derived.Test.YtflmgjidnclegaaDoorSpecM
import Derived.Lib.AppendStr
import Derived.Test.YtflmgjidnclegaaDoorTabM
import Derived.Test.YtflmgjidnclegaaDoorBaseM
import Derived.Test.YtflmgjidnclegaaDoorKindsM
import Derived.Test.YtflmgjidnclegaaDoorTakenM
import Derived.Test.YtflmgjidnclegaaDoorHuffDM
namespace Go.Proofs.YtflmgjidnclegaaDoor.Hpk
open Go.RowKit
open Huff (bytesV bytesV_append bytesV_len bitsIn enc enc_len)
theorem own_low {w : World} {base base' : Nat} {e : TypeId} {size n : Nat} {v : Value} {xs : List Value} (h : w.ownsRow base e size v n xs) (hb : base' ≤ base) : w.ownsRow base' e size v n xs := by
  refine ⟨h.1, ?_⟩
  rcases h.2 with h0 | ⟨g, cap, cur, hv, hg, rest⟩
  · exact .inl h0
  · exact .inr ⟨g, cap, cur, hv, Nat.le_trans hb hg, rest⟩
theorem own_in {w w' : World} {base : Nat} {e : TypeId} {size n : Nat} {v : Value} {xs : List Value} (h : w.ownsRow base e size v n xs) (hb : Below w.heap.size w w') : w'.ownsRow base e size v n xs :=
  (Upd3.of_below hb (fun _ => False)).own h (fun _ _ h => h)
theorem intTail_le : ∀ (k n : Nat), n < 128 ^ (k + 1) → (intTail n).length ≤ k + 1
  | 0, n, h => by rw [intTail_small (by simpa using h)]; simp
  | k + 1, n, h => by
    by_cases c : n < 128
    · rw [intTail_small c]; simp
    · rw [intTail_more (by omega), List.length_cons]
      have h1 : n / 128 < 128 ^ (k + 1) := Nat.div_lt_of_lt_mul (by rw [Nat.pow_succ, Nat.mul_comm] at h; exact h)
      have := intTail_le k (n / 128) h1
      omega
theorem text_len (s : ByteArray) : s.data.toList.length = s.size := Array.length_toList
theorem putInt_len (first bits n : Nat) (h : n ≤ 2147483647) : (putInt first bits n).length ≤ 6 := by
  unfold putInt
  split
  · simp
  · have := intTail_le 4 (n - (2 ^ bits - 1)) (by show _ < 34359738368; omega)
    rw [List.length_cons]
    omega
set_option maxRecDepth 100000 in
set_option maxHeartbeats 2000000 in
theorem puttext_any (s : ByteArray) (hs : s.size ≤ 2147483647) (v : Value) (xs : List UInt8) (w : World) (base : Nat) (ho : w.ownsRow base 5 1 v xs.length (bytesV xs)) (hx : xs.length ≤ 1099511627776) :
    Calls Tryd.prog 67 #[v, .string s] w (BytesEnd w (xs ++ putText s)) := by
  obtain ⟨A, c, rfl, -, -⟩ := Tab.own_slice ho
  have HO := Lib.hid ho
  have hl := enc_len s.data.toList
  obtain ⟨i, hi, hi0, hi1, hi2⟩ := info_parts (P := Tryd.prog) (e := 5) (z := .int .u8 0) (size := 1) (bytes := 1) (by kernel_rfl)
  have HI := Lib.hid hi
  obtain ⟨L, hL⟩ : ∃ L : Nat, L = xs.length := ⟨_, rfl⟩
  have HSZ := Lib.hid (Huff.size_any s w (by omega))
  obtain ⟨z, hz⟩ : ∃ z : Nat, z = (bitsIn s.data.toList + 7) / 8 := ⟨_, rfl⟩
  rw [← hz] at HSZ hl
  have HZ := Lib.hid hz
  clear ho hi hz
  go_enter Tryd.func67, Tryd.ntmps67
  by_cases hlt : z < s.size
  · have HE := Lib.hid (Huff.encode_any s w (by omega))
    go_wp2_with fail
    refine HSZ.out.mono ?_
    rintro e w0 ⟨rfl, rfl⟩
    go_wp2_with fail
    refine HE.out.mono ?_
    rintro e w1 ⟨v1, rfl, ho1, hb1⟩
    obtain ⟨A1, c1, rfl, -, -⟩ := Tab.own_slice ho1
    rw [hl] at ho1
    have HO1 := Lib.hid ho1
    have HB1 := Lib.hid hb1
    have hzl : z ≤ 2147483647 := by omega
    have HP := Lib.hid (putint_any 128 7 z (.inr (.inl ⟨rfl, rfl⟩)) hzl (.slice A xs.length c) xs w1 base (own_in HO.out hb1) hx)
    rw [hl]
    clear HE ho1 hb1 HSZ
    go_wp2_with fail
    refine HP.out.mono ?_
    rintro e w2 ⟨v2, rfl, ho2, hb2⟩
    have HO2 := Lib.hid ho2
    have HB2 := Lib.hid hb2
    have hsz2 := hb2.size
    have hpl := (Huff.bytesV_len (xs ++ putInt 128 7 z)).symm
    have hlen : (xs ++ putInt 128 7 z).length ≤ 1099511627790 := by
      have h5 := putInt_len 128 7 z hzl
      rw [List.length_append]
      omega
    clear HP ho2 hb2
    go_wp2_with (refine wpList_append_any _ rfl (.tmp 16) (.tmp 17) 66 rfl w1.heap.size 5 i (.int .u8 0) 1 1 Tryd.underlying66 HI.out hi0 hi1 hi2 rfl (by decide) _ _ _ rfl HO2.out w2.heap.size A1 z c1 (bytesV (enc s.data.toList)) rfl (Reads.of_own (own_in HO1.out HB2.out)) (bytes_one _) (by unfold maxLen; omega) (by omega) hsz2 ?_; intro v3 w3 ho3 hg3 hat3)
    have hB3 : Below w.heap.size w w3 := (HB1.out.trans (HB2.out.mono HB1.out.size)).grown hg3 (by have := HB1.out.size; omega) (fun k hk => Nat.le_trans HB1.out.size (HO2.out.lt k hk).1)
    have HO3 := Lib.hid ho3
    have HB3 := Lib.hid hB3
    clear ho3 hg3 hat3 hB3
    go_wp2_with fail
    go_ret
    refine ⟨v3, rfl, ?_, HB3.out⟩
    have h := own_low HO3.out HB1.out.size
    have e : putText s = putInt 128 7 z ++ enc s.data.toList := by
      unfold putText
      rw [← HZ.out, if_pos hlt, hl]
    rw [e, ← List.append_assoc, bytesV_append (xs ++ putInt 128 7 z), List.length_append, hl]
    exact h
  · have hsl : s.size ≤ 2147483647 := hs
    have HP := Lib.hid (putint_any 0 7 s.size (.inr (.inr (.inr (.inr (.inr ⟨rfl, rfl⟩))))) hsl (.slice A xs.length c) xs w base HO.out hx)
    go_wp2_with fail
    refine HSZ.out.mono ?_
    rintro e w0 ⟨rfl, rfl⟩
    go_wp2_with fail
    refine HP.out.mono ?_
    rintro e w2 ⟨v2, rfl, ho2, hb2⟩
    have HO2 := Lib.hid ho2
    have HB2 := Lib.hid hb2
    have hsz2 := hb2.size
    have hlen : (xs ++ putInt 0 7 s.size).length ≤ 1099511627790 := by
      have h5 := putInt_len 0 7 s.size hsl
      rw [List.length_append]
      omega
    clear HP ho2 hb2
    go_wp2_with (refine Lib.wpList_append_own_string _ rfl (.tmp 22) (.tmp 23) 66 9 rfl w.heap.size 5 i Tryd.underlying66 Tryd.underlying9 HI.out hi0 hi1 hi2 _ _ _ rfl HO2.out s rfl (by unfold maxLen; omega) (by omega) hsz2 ?_; intro v3 w3 ho3 hg3 hat3)
    have hB3 : Below w.heap.size w w3 := HB2.out.grown hg3 hsz2 (fun k hk => (HO2.out.lt k hk).1)
    have HO3 := Lib.hid ho3
    have HB3 := Lib.hid hB3
    clear ho3 hg3 hat3 hB3
    go_wp2_with fail
    go_ret
    refine ⟨v3, rfl, ?_, HB3.out⟩
    have h := HO3.out
    have e : putText s = putInt 0 7 s.size ++ s.data.toList := by
      unfold putText
      rw [← HZ.out, if_neg hlt]
    have ht := text_len s
    rw [e, ← List.append_assoc, bytesV_append (xs ++ putInt 0 7 s.size), List.length_append, ht]
    exact h
end Go.Proofs.YtflmgjidnclegaaDoor.Hpk
/-
  An encoder in memory: NewEncoder, NewDecoder, Resize, sizes, Len.
-/
namespace Go.Proofs.YtflmgjidnclegaaDoor.Hpk
open Go.RowKit
open Huff (bytesV)
open Tab (Hd hsz tot Hn Tbl shr)
/-- an encoder in memory -/
structure Enc (w : World) (E g r : Nat) (s : ES) : Prop where
  ke : Blk w E 94 #[.pointer (some ⟨g, 0, none⟩), .int .i64 (s.least : Int), .bool s.asked]
  kt : ∃ o, Tbl w g r o s.Q s.m
section
variable {w w' : World} {E g r : Nat} {s : ES}
theorem Enc.upd {F : Nat → Prop} (h : Enc w E g r s) (u : Upd3 w w' F) (he : ¬ F E) (hg : ¬ F g) (hr : ¬ F r) : Enc w' E g r s := by
  obtain ⟨o, ht⟩ := h.kt
  exact ⟨u.blk h.ke he, o, ht.upd u hg hr⟩
theorem Enc.below (h : Enc w E g r s) (hb : Below w.heap.size w w') : Enc w' E g r s := h.upd (Upd3.of_below hb (fun _ => False)) id id id
end
def es0 (m : Nat) : ES := ⟨[], m, 0, false⟩
set_option maxRecDepth 100000 in
theorem newenc_yes (m : Nat) (hm : m ≤ 4096) (w : World) :
    Calls Tryd.prog 37 #[.int .i64 (m : Int)] w fun e w' => ∃ E, e = .returned (.tuple #[.pointer (some ⟨E, 0, none⟩), .nilIface]) ∧ w.heap.size + 1 < E ∧ Below w.heap.size w w' ∧ Enc w' E (w.heap.size + 1) w.heap.size (es0 m) := by
  go_enter Tryd.func37, Tryd.ntmps37
  go_wp2_with fail
  refine (Tab.new_yes m hm w).mono ?_
  rintro e w1 ⟨rfl, hb, ht⟩
  go_wp2_with fail
  go_ret2
  have hlt := ht.kg.lt
  refine ⟨w1.heap.size, rfl, hlt, hb.alloc hb.size _, ?_, 0, ?_⟩
  · exact Blk.new w1 94 #[.pointer (some ⟨w.heap.size + 1, 0, none⟩), .int .i64 0, .bool false]
  · exact ht.below ((Below.refl _ _).alloc (Nat.le_refl _) _)
set_option maxRecDepth 100000 in
theorem newenc_no (m : Int) (hm : m < 0 ∨ 4096 < m) (ev : Value) (w : World) (hv : w.cell? ⟨0, 0, none⟩ = some ev) (he : IsErr ev) :
    Calls Tryd.prog 37 #[.int .i64 m] w fun e w' => e = .returned (.tuple #[.pointer none, ev]) ∧ ∃ n, w' = w.drewN n := by
  have HN := Lib.hid (Tab.new_no m hm ev w hv)
  obtain ⟨t, u, rfl⟩ := he
  clear hm hv
  go_enter Tryd.func37, Tryd.ntmps37
  go_wp2_with fail
  refine HN.out.mono ?_
  rintro e w1 ⟨rfl, n, rfl⟩
  go_wp2_with fail
  go_ret2
  exact ⟨rfl, n, rfl⟩
set_option maxRecDepth 100000 in
theorem newdec_yes (m : Nat) (hm : m ≤ 4096) (w : World) :
    Calls Tryd.prog 38 #[.int .i64 (m : Int)] w fun e w' => ∃ D, e = .returned (.tuple #[.pointer (some ⟨D, 0, none⟩), .nilIface]) ∧ w.heap.size + 1 < D ∧ Below w.heap.size w w' ∧
      Blk w' D 96 #[.pointer (some ⟨w.heap.size + 1, 0, none⟩), .int .i64 (m : Int), .bool false] ∧ ∃ o, Tbl w' (w.heap.size + 1) w.heap.size o [] m := by
  go_enter Tryd.func38, Tryd.ntmps38
  go_wp2_with fail
  refine (Tab.new_yes m hm w).mono ?_
  rintro e w1 ⟨rfl, hb, ht⟩
  go_wp2_with fail
  go_ret2
  have hlt := ht.kg.lt
  refine ⟨w1.heap.size, rfl, hlt, hb.alloc hb.size _, ?_, 0, ?_⟩
  · exact Blk.new w1 96 #[.pointer (some ⟨w.heap.size + 1, 0, none⟩), .int .i64 (m : Int), .bool false]
  · exact ht.below ((Below.refl _ _).alloc (Nat.le_refl _) _)
set_option maxRecDepth 100000 in
theorem declen_any {w : World} {D g r o m : Nat} {Q : List Hd} {x y : Value} (hd : Blk w D 96 #[.pointer (some ⟨g, 0, none⟩), x, y]) (ht : Tbl w g r o Q m) :
    Calls Tryd.prog 43 #[.pointer (some ⟨D, 0, none⟩)] w fun e w' => e = .returned (.int .i64 (Q.length : Int)) ∧ w = w' := by
  have d0 : w.cell? ⟨D, 0, none⟩ = some (.pointer (some ⟨g, 0, none⟩)) := hd.cell 0
  have HL := Lib.hid (Tab.len_any ht)
  clear hd ht
  go_enter Tryd.func43, Tryd.ntmps43
  go_wp2_with fail
  refine HL.out.mono ?_
  rintro e w1 ⟨rfl, rfl⟩
  go_wp2_with fail
  go_ret
  exact ⟨rfl, rfl⟩
def resize (k : Nat) (s : ES) : ES := { Q := shr (k : Int) s.Q, m := k, least := if s.asked = false ∨ k < s.least then k else s.least, asked := true }
def EncEnd (w : World) (E g r : Nat) (s : ES) (w' : World) : Prop := Enc w' E g r s ∧ Upd3 w w' (fun i => i = E ∨ i = g ∨ i = r)
theorem enc_end {w w1 : World} {E g r k : Nat} {s : ES} {l : Nat} {o : Nat} (kE : Blk w1 E 94 #[.pointer (some ⟨g, 0, none⟩), .int .i64 (l : Int), .bool true]) (ht : Tbl w1 g r o (shr (k : Int) s.Q) k) (hl : l = (resize k s).least)
    (u : Upd3 w w1 (fun i => i = E ∨ i = g ∨ i = r)) : EncEnd w E g r (resize k s) w1 := by
  subst hl
  exact ⟨⟨kE, o, ht⟩, u⟩
set_option maxRecDepth 100000 in
theorem encresize_yes {w : World} {E g r : Nat} {s : ES} (h : Enc w E g r s) (hEg : E ≠ g ∧ E ≠ r) (k : Nat) (hk : k ≤ 4096) :
    Calls Tryd.prog 47 #[.pointer (some ⟨E, 0, none⟩), .int .i64 (k : Int)] w fun e w' => e = .returned .nilIface ∧ EncEnd w E g r (resize k s) w' := by
  obtain ⟨Q, m, least, asked⟩ := s
  obtain ⟨ke, o, ht⟩ := h
  simp only at ke ht
  have e0 : w.cell? ⟨E, 0, none⟩ = some (.pointer (some ⟨g, 0, none⟩)) := ke.cell 0
  have HR := Lib.hid (Tab.resize_yes ht k hk)
  have HKE := Lib.hid ke
  have HNE := Lib.hid hEg
  clear ke ht hEg
  go_enter Tryd.func47, Tryd.ntmps47
  go_wp2_with fail
  refine HR.out.mono ?_
  rintro e w1 ⟨rfl, o1, ht1, u1⟩
  have k1 := u1.blk HKE.out (by have := HNE.out; omega)
  have a1 : w1.cell? ⟨E, 1, none⟩ = some (.int .i64 (least : Int)) := k1.cell 1
  have a2 : w1.cell? ⟨E, 2, none⟩ = some (.bool asked) := k1.cell 2
  have f1 := k1.frozen 1
  have f2 := k1.frozen 2
  have U1 : Upd3 w w1 (fun i => i = E ∨ i = g ∨ i = r) := u1.mono (fun i hi => Or.inr hi)
  have HT := Lib.hid ht1
  have HU := Lib.hid U1
  have hlt := k1.lt
  have hK2 := (k1.set_ 1 (.int .i64 (k : Int))).set_ 2 (.bool true)
  have hK3 := k1.set_ 2 (.bool true)
  have HK2 := Lib.hid hK2
  have HK3 := Lib.hid hK3
  have v2 : Upd3 w1 ((w1.setCell ⟨E, 1, none⟩ (.int .i64 (k : Int))).setCell ⟨E, 2, none⟩ (.bool true)) (fun i => i = E) := ((Upd3.refl w1 (fun i => i = E)).setCell (p := ⟨E, 1, none⟩) (Or.inl rfl) _).setCell (p := ⟨E, 2, none⟩) (Or.inl rfl) _
  have v3 : Upd3 w1 (w1.setCell ⟨E, 2, none⟩ (.bool true)) (fun i => i = E) := (Upd3.refl w1 (fun i => i = E)).setCell (p := ⟨E, 2, none⟩) (Or.inl rfl) _
  have HV2 := Lib.hid v2
  have HV3 := Lib.hid v3
  have b2 : (w1.setCell ⟨E, 1, none⟩ (.int .i64 (k : Int))).frozen? ⟨E, 2, none⟩ = false := (k1.set_ 1 (.int .i64 (k : Int))).frozen 2
  have b3 : (w1.setCell ⟨E, 1, none⟩ (.int .i64 (k : Int))).cell? ⟨E, 2, none⟩ = some (.bool asked) := (k1.set_ 1 (.int .i64 (k : Int))).cell 2
  clear HR u1 k1 ht1 U1 hK2 hK3 e0 HKE v2 v3
  have hne := HNE.out
  cases asked with
  | false =>
    go_wp2_with fail
    go_ret
    exact ⟨rfl, enc_end HK2.out (HT.out.upd HV2.out (by omega) (by omega)) (by unfold resize; simp) (HU.out.trans HV2.out (fun i hi => Or.inl (Or.inl hi)))⟩
  | true =>
    by_cases c : k < least
    · have hd : decide ((k : Int) < (least : Int)) = true := decide_eq_true (by omega)
      go_wp2_with fail
      go_ret
      exact ⟨rfl, enc_end HK2.out (HT.out.upd HV2.out (by omega) (by omega)) (by unfold resize; simp only; rw [if_pos (.inr c)]) (HU.out.trans HV2.out (fun i hi => Or.inl (Or.inl hi)))⟩
    · have hd : decide ((k : Int) < (least : Int)) = false := decide_eq_false (by omega)
      go_wp2_with fail
      go_ret
      exact ⟨rfl, enc_end HK3.out (HT.out.upd HV3.out (by omega) (by omega)) (by unfold resize; simp only; rw [if_neg (by simp; omega)]) (HU.out.trans HV3.out (fun i hi => Or.inl (Or.inl hi)))⟩
set_option maxRecDepth 100000 in
theorem encresize_no {w : World} {E g r : Nat} {s : ES} (h : Enc w E g r s) (k : Int) (hk : k < 0 ∨ 4096 < k) (ev : Value) (hv : w.cell? ⟨0, 0, none⟩ = some ev) (he : IsErr ev) :
    Calls Tryd.prog 47 #[.pointer (some ⟨E, 0, none⟩), .int .i64 k] w fun e w' => e = .returned ev ∧ w = w' := by
  have e0 : w.cell? ⟨E, 0, none⟩ = some (.pointer (some ⟨g, 0, none⟩)) := h.ke.cell 0
  have HR := Lib.hid (Tab.resize_no g k hk ev w hv)
  obtain ⟨t, u, rfl⟩ := he
  clear h hk hv
  go_enter Tryd.func47, Tryd.ntmps47
  go_wp2_with fail
  refine HR.out.mono ?_
  rintro e w1 ⟨rfl, rfl⟩
  go_wp2_with fail
  go_ret
  exact ⟨rfl, rfl⟩
def SizesEnd (w : World) (E g r : Nat) (s : ES) (e : Ending) (w' : World) : Prop :=
  ∃ v, e = .returned v ∧ w'.ownsRow w.heap.size 5 1 v (sizes s).length (bytesV (sizes s)) ∧ Enc w' E g r { s with asked := false } ∧ Upd3 w w' (fun i => i = E)
set_option maxRecDepth 100000 in
set_option maxHeartbeats 1000000 in
theorem sizes_any {w : World} {E g r : Nat} {s : ES} (h : Enc w E g r s) (hEg : E ≠ g ∧ E ≠ r) (hl : s.least ≤ 2147483647) :
    Calls Tryd.prog 65 #[.pointer (some ⟨E, 0, none⟩)] w (SizesEnd w E g r s) := by
  obtain ⟨Q, m, least, asked⟩ := s
  obtain ⟨ke, o, ht⟩ := h
  simp only at ke ht hl
  have e0 : w.cell? ⟨E, 0, none⟩ = some (.pointer (some ⟨g, 0, none⟩)) := ke.cell 0
  have e1 : w.cell? ⟨E, 1, none⟩ = some (.int .i64 (least : Int)) := ke.cell 1
  have e2 : w.cell? ⟨E, 2, none⟩ = some (.bool asked) := ke.cell 2
  have hm := ht.hm
  have HKE := Lib.hid ke
  have HT := Lib.hid ht
  have HNE := Lib.hid hEg
  have fin : ∀ (w' : World) (v : Value), Below w.heap.size w w' → w'.ownsRow w.heap.size 5 1 v (sizes ⟨Q, m, least, asked⟩).length (bytesV (sizes ⟨Q, m, least, asked⟩)) → SizesEnd w E g r ⟨Q, m, least, asked⟩ (.returned v) (w'.setCell ⟨E, 2, none⟩ (.bool false)) := by
    intro w' v hb ho
    have hne := HNE.out
    have u : Upd3 w' (w'.setCell ⟨E, 2, none⟩ (.bool false)) (fun i => i = E) := (Upd3.refl w' (fun i => i = E)).setCell (p := ⟨E, 2, none⟩) (Or.inl rfl) _
    have hEl := HKE.out.lt
    refine ⟨v, rfl, u.own ho (fun b hb1 he => by have := (ho.lt b hb1).1; omega), ⟨(HKE.out.below hb HKE.out.lt).set_ 2 (.bool false), o, (HT.out.below hb).upd u (by omega) (by omega)⟩, (Upd3.of_below hb (fun i => i = E)).trans u (fun i hi => Or.inl hi)⟩
  have HF := Lib.hid fin
  have HM := Lib.hid (fun (W : World) (hW : Since w W) => Tab.most_any (ht.below hW))
  clear ke ht hEg fin
  go_enter Tryd.func65, Tryd.ntmps65
  cases asked with
  | false =>
    have f2 := HKE.out.frozen 2
    go_wp2_with fail
    go_ret
    exact HF.out w _ (Below.refl _ _) (World.ownsRow_nil _ _ _ _)
  | true =>
    go_wp2_with fail
    by_cases c : least < m
    · have hd : decide ((least : Int) < (m : Int)) = true := decide_eq_true (by omega)
      refine wp_region_in (Since w) (Since.drew0 w) (by kernel_rfl) (by kernel_rfl) ?_
      repeat (first
        | go_big_quiet_skip
        | (go_big_quiet_want; go_big_quiet_op; go_big_quiet_on)
        | (go_big_quiet_want; apply in_val; (· intro W hW; have d0 := hW.cell e0; have d1 := hW.cell e1; go_simp; first | done | rfl); simp only [Act.put, List.setIfInBounds_toArray, List.set_cons_zero, List.set_cons_succ]; go_big_quiet_on)
        | (go_big_quiet_want; apply in_q; (· intro W hW; go_simp; (go_at_call 32; with_reducible exact hW.callS (HM.out W hW))); simp only [Act.put, List.setIfInBounds_toArray, List.set_cons_zero, List.set_cons_succ]; go_big_quiet_on))
      refine wpQuiet_nil ?_
      intro W1 hW1
      have ke1 := HKE.out.below hW1 HKE.out.lt
      have x0 : W1.cell? ⟨E, 0, none⟩ = some (.pointer (some ⟨g, 0, none⟩)) := ke1.cell 0
      have x1 : W1.cell? ⟨E, 1, none⟩ = some (.int .i64 (least : Int)) := ke1.cell 1
      have HP := Lib.hid (putint_any 32 5 least (.inl ⟨rfl, rfl⟩) hl (.slice none 0 0) [] W1 W1.heap.size (World.ownsRow_nil _ _ _ _) (by simp))
      have HW1 := Lib.hid hW1
      clear hW1 ke1
      go_wp2_with fail
      refine HP.out.mono ?_
      rintro e w2 ⟨v2, rfl, ho2, hb2⟩
      rw [List.nil_append] at ho2
      obtain ⟨A2, c2, rfl, -, -⟩ := Tab.own_slice ho2
      have hw2 : Since w w2 := Below.trans HW1.out (hb2.mono (Below.size HW1.out))
      have ke2 := HKE.out.below hw2 HKE.out.lt
      have y0 : w2.cell? ⟨E, 0, none⟩ = some (.pointer (some ⟨g, 0, none⟩)) := ke2.cell 0
      have HP3 := Lib.hid (putint_any 32 5 m (.inl ⟨rfl, rfl⟩) (by omega) _ (putInt 32 5 least) w2 W1.heap.size ho2 (by have := putInt_len 32 5 least hl; omega))
      have HW2 := Lib.hid hw2
      clear ho2 hb2 hw2 ke2 HP x0 x1
      go_wp2_with fail
      refine (HM.out w2 HW2.out).mono ?_
      rintro e w3 ⟨rfl, rfl⟩
      go_wp2_with fail
      refine HP3.out.mono ?_
      rintro e w3 ⟨v3, rfl, ho3, hb3⟩
      have hw3 : Below w.heap.size w w3 := HW2.out.trans (hb3.mono (Below.size HW2.out))
      have ke3 := HKE.out.below hw3 HKE.out.lt
      have z2 : w3.cell? ⟨E, 2, none⟩ = some (.bool true) := ke3.cell 2
      have f2 := ke3.frozen 2
      obtain ⟨n3, hn3⟩ : ∃ n3, n3 = (putInt 32 5 least ++ putInt 32 5 m).length := ⟨_, rfl⟩
      rw [← hn3] at ho3
      have HO3 := Lib.hid (own_low ho3 (Below.size HW2.out))
      have HW3 := Lib.hid hw3
      have HN3 := Lib.hid hn3
      obtain ⟨A3, c3, rfl, -, -⟩ := Tab.own_slice ho3
      have e : sizes ⟨Q, m, least, true⟩ = putInt 32 5 least ++ putInt 32 5 m := (show (if true = true then (if least < m then putInt 32 5 least else []) ++ putInt 32 5 m else []) = _ by rw [if_pos rfl, if_pos c])
      have HE := Lib.hid e
      clear ho3 hb3 hw3 ke3 HP3 y0 e hn3
      go_wp2_with fail
      go_ret
      exact HF.out w3 _ HW3.out (by rw [HE.out, ← HN3.out]; exact HO3.out)
    · have hd : decide ((least : Int) < (m : Int)) = false := decide_eq_false (by omega)
      refine wp_region_in (Since w) (Since.drew0 w) (by kernel_rfl) (by kernel_rfl) ?_
      repeat (first
        | go_big_quiet_skip
        | (go_big_quiet_want; go_big_quiet_op; go_big_quiet_on)
        | (go_big_quiet_want; apply in_val; (· intro W hW; have d0 := hW.cell e0; have d1 := hW.cell e1; go_simp; first | done | rfl); simp only [Act.put, List.setIfInBounds_toArray, List.set_cons_zero, List.set_cons_succ]; go_big_quiet_on)
        | (go_big_quiet_want; apply in_q; (· intro W hW; go_simp; (go_at_call 32; with_reducible exact hW.callS (HM.out W hW))); simp only [Act.put, List.setIfInBounds_toArray, List.set_cons_zero, List.set_cons_succ]; go_big_quiet_on))
      refine wpQuiet_nil ?_
      intro W1 hW1
      have ke1 := HKE.out.below hW1 HKE.out.lt
      have x0 : W1.cell? ⟨E, 0, none⟩ = some (.pointer (some ⟨g, 0, none⟩)) := ke1.cell 0
      have HP3 := Lib.hid (putint_any 32 5 m (.inl ⟨rfl, rfl⟩) (by omega) (.slice none 0 0) [] W1 W1.heap.size (World.ownsRow_nil _ _ _ _) (by simp))
      have HW1 := Lib.hid hW1
      clear hW1 ke1
      go_wp2_with fail
      refine (HM.out W1 HW1.out).mono ?_
      rintro e w3 ⟨rfl, rfl⟩
      go_wp2_with fail
      refine HP3.out.mono ?_
      rintro e w3 ⟨v3, rfl, ho3, hb3⟩
      rw [List.nil_append] at ho3
      have hw3 : Below w.heap.size w w3 := Below.trans HW1.out (hb3.mono (Below.size HW1.out))
      have ke3 := HKE.out.below hw3 HKE.out.lt
      have z2 : w3.cell? ⟨E, 2, none⟩ = some (.bool true) := ke3.cell 2
      have f2 := ke3.frozen 2
      have HO3 := Lib.hid (own_low ho3 (Below.size HW1.out))
      have HW3 := Lib.hid hw3
      obtain ⟨A3, c3, rfl, -, -⟩ := Tab.own_slice ho3
      have e : sizes ⟨Q, m, least, true⟩ = putInt 32 5 m := (show (if true = true then (if least < m then putInt 32 5 least else []) ++ putInt 32 5 m else []) = _ by rw [if_pos rfl, if_neg c, List.nil_append])
      have HE := Lib.hid e
      clear ho3 hb3 hw3 ke3 HP3 x0 e
      go_wp2_with fail
      go_ret
      exact HF.out w3 _ HW3.out (by rw [HE.out]; exact HO3.out)
end Go.Proofs.YtflmgjidnclegaaDoor.Hpk
/-
  What an encoder writes a decoder reads, in plain words: numbers, texts, headers, lists.
-/
namespace Go.Proofs.YtflmgjidnclegaaDoor.Hpk
open Huff (enc dec bitsIn enc_len enc_forth)
open Tab (Hd hsz tot Hn shr addQ getAt findR findIn stat tot_len addQ_tot findIn_no findIn_hit)
theorem at_drop {xs ys : List UInt8} {i : Nat} {x : UInt8} (h : xs.drop i = x :: ys) : i ≠ xs.length ∧ xs.getD i 0 = x ∧ xs.drop (i + 1) = ys := by
  have hlt : i < xs.length := by
    rcases Nat.lt_or_ge i xs.length with h1 | h1
    · exact h1
    · rw [List.drop_eq_nil_of_le h1] at h; cases h
  rw [List.drop_eq_getElem_cons hlt] at h
  injection h with h1 h2
  refine ⟨by omega, ?_, h2⟩
  rw [← h1, List.getD_eq_getElem?_getD, List.getElem?_eq_getElem hlt]
  rfl
theorem ofNat_small {n : Nat} (h : n < 256) : (UInt8.ofNat n).toNat = n := UInt8.toNat_ofNat_of_lt' h
theorem intGo_tail : ∀ (k r : Nat) (xs R : List UInt8) (i n f : Nat), r ≤ k → xs.drop i = intTail r ++ R → 1 ≤ i → (intTail r).length ≤ f → n + r * 2 ^ (7 * (i - 1)) ≤ 2147483647 →
    intGo xs f i n = .ok (n + r * 2 ^ (7 * (i - 1)), i + (intTail r).length) := by
  intro k
  induction k with
  | zero =>
    intro r xs R i n f hr hd hi hf hb
    obtain rfl : r = 0 := by omega
    rw [intTail_small (by decide)] at hd hf ⊢
    obtain ⟨h1, h2, -⟩ := at_drop (ys := R) hd
    obtain ⟨f, rfl⟩ : ∃ g, f = g + 1 := ⟨f - 1, by simp at hf; omega⟩
    rw [intGo, if_neg h1, h2]
    have e : (UInt8.ofNat 0).toNat = 0 := rfl
    simp only [e, Nat.zero_mul, Nat.add_zero] at hb ⊢
    rw [show (0 : Nat) % 128 = 0 from rfl, Nat.zero_mul, if_neg (by decide), if_pos (show n + 0 ≤ 2147483647 from hb)]
    rfl
  | succ k ih =>
    intro r xs R i n f hr hd hi hf hb
    by_cases c : r < 128
    · rw [intTail_small c] at hd hf ⊢
      obtain ⟨h1, h2, -⟩ := at_drop (ys := R) hd
      obtain ⟨f, rfl⟩ : ∃ g, f = g + 1 := ⟨f - 1, by simp at hf; omega⟩
      rw [intGo, if_neg h1, h2]
      simp only [ofNat_small (show r < 256 by omega), Nat.mod_eq_of_lt c]
      rw [if_neg (by omega), if_pos hb]
      rfl
    · rw [intTail_more (by omega)] at hd hf ⊢
      obtain ⟨h1, h2, h3⟩ := at_drop (ys := intTail (r / 128) ++ R) hd
      rw [List.length_cons] at hf ⊢
      obtain ⟨f, rfl⟩ : ∃ g, f = g + 1 := ⟨f - 1, by omega⟩
      rw [intGo, if_neg h1, h2]
      have hx : (UInt8.ofNat (r % 128 + 128)).toNat = r % 128 + 128 := ofNat_small (by omega)
      have hm : (r % 128 + 128) % 128 = r % 128 := by omega
      simp only [hx, hm]
      rw [if_pos (by omega)]
      have hp : 2 ^ (7 * (i + 1 - 1)) = 128 * 2 ^ (7 * (i - 1)) := by
        rw [show 7 * (i + 1 - 1) = 7 * (i - 1) + 7 by omega, Nat.pow_add, Nat.mul_comm]
      have he : n + r % 128 * 2 ^ (7 * (i - 1)) + r / 128 * 2 ^ (7 * (i + 1 - 1)) = n + r * 2 ^ (7 * (i - 1)) := by
        rw [hp, ← Nat.mul_assoc, Nat.add_assoc, ← Nat.add_mul]
        congr 2
        omega
      rw [ih (r / 128) xs R (i + 1) _ f (by omega) h3 (by omega) (by omega) (by rw [he]; exact hb), he, Nat.add_assoc, Nat.add_comm 1]
/-- the first byte of a number, and what it is -/
theorem putInt_head (first bits n : Nat) : ∃ t, putInt first bits n = UInt8.ofNat (first + min n (2 ^ bits - 1)) :: t := by
  have := Nat.two_pow_pos bits
  unfold putInt
  by_cases c : n < 2 ^ bits - 1
  · rw [if_pos c, Nat.min_eq_left (by omega)]; exact ⟨_, rfl⟩
  · rw [if_neg c, Nat.min_eq_right (by omega)]; exact ⟨_, rfl⟩
theorem pre_facts {first bits : Nat} (hp : Pre first bits) : first % 2 ^ bits = 0 ∧ first + 2 ^ bits ≤ 256 ∧ 1 ≤ bits := by
  rcases hp with ⟨rfl, rfl⟩ | ⟨rfl, rfl⟩ | ⟨rfl, rfl⟩ | ⟨rfl, rfl⟩ | ⟨rfl, rfl⟩ | ⟨rfl, rfl⟩ <;> decide
theorem putInt_at {first bits n : Nat} (hp : Pre first bits) (R : List UInt8) : first ≤ ((putInt first bits n ++ R).getD 0 0).toNat ∧ ((putInt first bits n ++ R).getD 0 0).toNat < first + 2 ^ bits := by
  obtain ⟨-, h1, -⟩ := pre_facts hp
  have := Nat.two_pow_pos bits
  obtain ⟨t, ht⟩ := putInt_head first bits n
  rw [ht, List.cons_append, List.getD_cons_zero, ofNat_small (by omega)]
  omega
theorem putInt_pos {first bits n : Nat} (hp : Pre first bits) : putInt first bits n ≠ [] := by
  obtain ⟨-, h1, -⟩ := pre_facts hp
  obtain ⟨t, ht⟩ := putInt_head first bits n
  rw [ht]
  exact List.cons_ne_nil _ _
theorem getInt_put {first bits n : Nat} (hp : Pre first bits) (hn : n ≤ 2147483647) (R : List UInt8) : getInt bits (putInt first bits n ++ R) = .ok (n, (putInt first bits n).length) := by
  obtain ⟨h0, h1, h2⟩ := pre_facts hp
  obtain ⟨q, hq⟩ : ∃ q, first = 2 ^ bits * q := ⟨first / 2 ^ bits, by have := Nat.div_add_mod first (2 ^ bits); omega⟩
  have hP : 2 ≤ 2 ^ bits := by have := Nat.pow_le_pow_right (show 0 < 2 by decide) h2; simpa using this
  unfold getInt
  rw [if_neg (by have := List.length_pos_iff.2 (putInt_pos (n := n) hp); rw [List.length_append]; omega)]
  by_cases c : n < 2 ^ bits - 1
  · have e : putInt first bits n = [UInt8.ofNat (first + n)] := by unfold putInt; rw [if_pos c]
    rw [e, List.cons_append, List.getD_cons_zero, ofNat_small (by omega)]
    have hm : (first + n) % 2 ^ bits = n := by rw [hq, Nat.mul_add_mod, Nat.mod_eq_of_lt (by omega)]
    simp only [hm]
    rw [if_pos c]
    rfl
  · have e : putInt first bits n = UInt8.ofNat (first + (2 ^ bits - 1)) :: intTail (n - (2 ^ bits - 1)) := by unfold putInt; rw [if_neg c]
    rw [e, List.cons_append, List.getD_cons_zero, ofNat_small (by omega)]
    have hm : (first + (2 ^ bits - 1)) % 2 ^ bits = 2 ^ bits - 1 := by rw [hq, Nat.mul_add_mod, Nat.mod_eq_of_lt (by omega)]
    simp only [hm]
    rw [if_neg (Nat.lt_irrefl _)]
    have hl := intTail_le 4 (n - (2 ^ bits - 1)) (by show _ < 34359738368; omega)
    rw [intGo_tail _ (n - (2 ^ bits - 1)) _ R 1 _ 5 (Nat.le_refl _) rfl (Nat.le_refl _) hl (by simp; omega)]
    rw [List.length_cons]
    have e2 : 2 ^ bits - 1 + (n - (2 ^ bits - 1)) * 2 ^ (7 * (1 - 1)) = n := by simp; omega
    rw [e2, Nat.add_comm]
theorem number_put {first bits n : Nat} (hp : Pre first bits) (hn : n ≤ 2147483647) (R : List UInt8) (o : List Hn) (z : Nat) (Q : List Hd) (m : Nat) :
    number bits ⟨putInt first bits n ++ R, o, z, Q, m⟩ = .ok (n, ⟨R, o, z, Q, m⟩) := by
  unfold number
  rw [show (DS.mk (putInt first bits n ++ R) o z Q m).rest = putInt first bits n ++ R from rfl, getInt_put hp hn]
  simp
theorem text_of (s : ByteArray) : (⟨s.data.toList.toArray⟩ : ByteArray) = s := by cases s; simp
theorem getText_put {s : ByteArray} (hs : s.size ≤ 16384) (R : List UInt8) : getText (putText s ++ R) = .ok (s, (putText s).length) := by
  have hl := enc_len s.data.toList
  unfold getText putText
  by_cases c : (bitsIn s.data.toList + 7) / 8 < s.size
  · rw [if_pos c, List.append_assoc, getInt_put (.inr (.inl ⟨rfl, rfl⟩)) (by omega)]
    simp only
    rw [if_neg (by omega), if_neg (by simp only [List.length_append]; omega), if_pos (putInt_at (.inr (.inl ⟨rfl, rfl⟩)) _).1, List.drop_left, List.take_left' rfl, enc_forth]
    simp only
    rw [text_of, List.length_append]
  · have ht := text_len s
    rw [if_neg c, List.append_assoc, getInt_put (.inr (.inr (.inr (.inr (.inr ⟨rfl, rfl⟩))))) (by omega)]
    simp only
    have := (putInt_at (n := s.size) (.inr (.inr (.inr (.inr (.inr ⟨rfl, rfl⟩))))) (s.data.toList ++ R)).2
    rw [if_neg (by omega), if_neg (by simp only [List.length_append]; omega), if_neg (by omega), List.drop_left, List.take_left' ht, text_of, List.length_append, ht]
theorem text_put {s : ByteArray} (hs : s.size ≤ 16384) (R : List UInt8) (o : List Hn) (z : Nat) (Q : List Hd) (m : Nat) :
    text ⟨putText s ++ R, o, z, Q, m⟩ = .ok (s, ⟨R, o, z, Q, m⟩) := by
  unfold text
  rw [show (DS.mk (putText s ++ R) o z Q m).rest = putText s ++ R from rfl, getText_put hs]
  simp
theorem findIn_says (n v : ByteArray) : ∀ (l : List Hd) (i named : Nat), ((findIn n v l i named).2 = true → ∃ k, (findIn n v l i named).1 = i + k ∧ l[k]? = some (n, v)) ∧
    ((findIn n v l i named).2 = false → (findIn n v l i named).1 = named ∨ ∃ k v', (findIn n v l i named).1 = i + k ∧ l[k]? = some (n, v'))
  | [], i, named => ⟨fun h => (by cases h), fun _ => .inl rfl⟩
  | x :: t, i, named => by
    obtain ⟨a, b⟩ := x
    by_cases h1 : a = n
    · subst h1
      by_cases h2 : b = v
      · subst h2
        rw [findIn_hit (h := (a, b)) rfl rfl]
        exact ⟨fun _ => ⟨0, rfl, rfl⟩, fun h => (by cases h)⟩
      · rw [findIn, if_pos rfl, if_neg h2]
        obtain ⟨i1, i2⟩ := findIn_says a v t (i + 1) (if named = 0 then i else named)
        refine ⟨fun h => ?_, fun h => ?_⟩
        · obtain ⟨k, e, hk⟩ := i1 h
          exact ⟨k + 1, by omega, by simpa using hk⟩
        · rcases i2 h with e | ⟨k, v', e, hk⟩
          · by_cases h0 : named = 0
            · rw [if_pos h0] at e
              exact .inr ⟨0, b, by rw [if_pos h0, e]; rfl, rfl⟩
            · rw [if_neg h0] at e ⊢
              exact .inl e
          · exact .inr ⟨k + 1, v', by omega, by simpa using hk⟩
    · rw [findIn_no (h := (a, b)) h1]
      obtain ⟨i1, i2⟩ := findIn_says n v t (i + 1) named
      refine ⟨fun h => ?_, fun h => ?_⟩
      · obtain ⟨k, e, hk⟩ := i1 h
        exact ⟨k + 1, by omega, by simpa using hk⟩
      · rcases i2 h with e | ⟨k, v', e, hk⟩
        · exact .inl e
        · exact .inr ⟨k + 1, v', by omega, by simpa using hk⟩
theorem getAt_of {Q : List Hd} {k : Nat} {x : Hd} (h : (stat ++ Q.reverse)[k]? = some x) : getAt Q ((1 + k : Nat) : Int) = some x := by
  unfold getAt
  rw [if_pos (by omega), show ((1 + k : Nat) : Int).toNat - 1 = k by omega]
  exact h
theorem findR_hit {n v : ByteArray} {Q : List Hd} (h : (findR n v Q).2 = true) : getAt Q ((findR n v Q).1 : Int) = some (n, v) := by
  obtain ⟨k, e, hk⟩ := (findIn_says n v (stat ++ Q.reverse) 1 0).1 h
  rw [show (findR n v Q).1 = 1 + k from e]
  exact getAt_of hk
theorem findR_name {n v : ByteArray} {Q : List Hd} (h : (findR n v Q).2 = false) : (findR n v Q).1 = 0 ∨ ∃ v', getAt Q ((findR n v Q).1 : Int) = some (n, v') := by
  rcases (findIn_says n v (stat ++ Q.reverse) 1 0).2 h with e | ⟨k, v', e, hk⟩
  · exact .inl e
  · refine .inr ⟨v', ?_⟩
    rw [show (findR n v Q).1 = 1 + k from e]
    exact getAt_of hk
theorem findR_le (n v : ByteArray) (Q : List Hd) : (findR n v Q).1 ≤ 61 + Q.length := by
  have hl : (stat ++ Q.reverse).length = 61 + Q.length := by rw [List.length_append, Tab.stat_len, List.length_reverse]
  have hb : ∀ (k : Nat) (x : Hd), (stat ++ Q.reverse)[k]? = some x → k < 61 + Q.length := by
    intro k x hk
    rcases Nat.lt_or_ge k (61 + Q.length) with h | h
    · exact h
    · rw [List.getElem?_eq_none (by omega)] at hk; cases hk
  cases hc : (findR n v Q).2 with
  | true =>
    obtain ⟨k, e, hk⟩ := (findIn_says n v (stat ++ Q.reverse) 1 0).1 hc
    have := hb k _ hk
    rw [show (findR n v Q).1 = 1 + k from e]
    omega
  | false =>
    rcases (findIn_says n v (stat ++ Q.reverse) 1 0).2 hc with e | ⟨k, v', e, hk⟩
    · rw [show (findR n v Q).1 = 0 from e]; omega
    · have := hb k _ hk
      rw [show (findR n v Q).1 = 1 + k from e]
      omega
/-- a name is there, if it has an index -/
def Named (Q : List Hd) (i : Nat) (n : ByteArray) : Prop := i = 0 ∨ ∃ v', getAt Q (i : Int) = some (n, v')
theorem named_of_find (n v : ByteArray) (Q : List Hd) : Named Q (findR n v Q).1 n := by
  cases hc : (findR n v Q).2 with
  | true => exact .inr ⟨v, findR_hit hc⟩
  | false => exact findR_name hc
theorem nameAt_put {Q : List Hd} {i : Nat} {n : ByteArray} (h : Named Q i n) (hn : n.size ≤ 16384) (R : List UInt8) (o : List Hn) (z m : Nat) :
    nameAt ⟨(if i = 0 then putText n else []) ++ R, o, z, Q, m⟩ i = .ok (n, ⟨R, o, z, Q, m⟩) := by
  unfold nameAt
  by_cases h0 : i = 0
  · rw [if_neg (by omega), if_pos h0, text_put hn]
  · rw [if_pos (by omega), if_neg h0]
    rcases h with h | ⟨v', h⟩
    · exact absurd h h0
    · unfold header
      rw [show (DS.mk ([] ++ R) o z Q m).Q = Q from rfl, h]
      rfl
theorem named_put {first bits i : Nat} (hp : Pre first bits) (hi : i ≤ 2147483647) {Q : List Hd} {n v : ByteArray} (h : Named Q i n) (hn : n.size ≤ 16384) (hv : v.size ≤ 16384) (R : List UInt8) (o : List Hn) (z m : Nat) :
    named bits ⟨putInt first bits i ++ ((if i = 0 then putText n else []) ++ putText v) ++ R, o, z, Q, m⟩ = .ok ((n, v), ⟨R, o, z, Q, m⟩) := by
  unfold named
  rw [List.append_assoc, number_put hp hi]
  simp only
  rw [List.append_assoc, nameAt_put h hn]
  simp only
  rw [text_put hv]
theorem tell_put (r : List UInt8) (o : List Hn) (z : Nat) (Q : List Hd) (m : Nat) (h : Hn) (hz : z + hsz (h.1, h.2.1) ≤ 16384) : tell ⟨r, o, z, Q, m⟩ h = .ok ⟨r, o ++ [h], z + hsz (h.1, h.2.1), Q, m⟩ := by
  unfold tell
  simp only
  rw [if_neg (by omega)]
theorem one_hit {m : Nat} {Q : List Hd} {n v : ByteArray} (h : (findR n v Q).2 = true) : one m Q (n, v, false) = (putInt 128 7 (findR n v Q).1, Q) := by
  unfold one
  exact if_pos ⟨h, rfl⟩
theorem one_nev {m : Nat} {Q : List Hd} {n v : ByteArray} : one m Q (n, v, true) = (putInt 16 4 (findR n v Q).1 ++ ((if (findR n v Q).1 = 0 then putText n else []) ++ putText v), Q) := by
  unfold one
  exact (if_neg (fun h => by cases h.2)).trans (if_pos rfl)
theorem one_big {m : Nat} {Q : List Hd} {n v : ByteArray} (h : ¬ (findR n v Q).2 = true) (hm : m < hsz (n, v)) : one m Q (n, v, false) = (putInt 0 4 (findR n v Q).1 ++ ((if (findR n v Q).1 = 0 then putText n else []) ++ putText v), Q) := by
  unfold one
  exact (if_neg (fun k => h k.1)).trans ((if_neg Bool.false_ne_true).trans (if_pos hm))
theorem one_new {m : Nat} {Q : List Hd} {n v : ByteArray} (h : ¬ (findR n v Q).2 = true) (hm : ¬ m < hsz (n, v)) : one m Q (n, v, false) = (putInt 64 6 (findR n v Q).1 ++ ((if (findR n v Q).1 = 0 then putText n else []) ++ putText v), addQ m (n, v) Q) := by
  unfold one
  exact (if_neg (fun k => h k.1)).trans ((if_neg Bool.false_ne_true).trans (if_neg hm))
theorem step_one (limit : Nat) {m : Nat} {Q : List Hd} (hQ : tot Q ≤ 4096) (h : Hn) (R : List UInt8) (o : List Hn) (z : Nat) (hz : z + hsz (h.1, h.2.1) ≤ 16384) :
    step limit ⟨(one m Q h).1 ++ R, o, z, Q, m⟩ = .ok ⟨R, o ++ [h], z + hsz (h.1, h.2.1), (one m Q h).2, m⟩ := by
  obtain ⟨n, v, nv⟩ := h
  have hql := tot_len Q
  have hi := findR_le n v Q
  have hnv : n.size ≤ 16384 ∧ v.size ≤ 16384 := by unfold hsz at hz; simp only at hz; omega
  have hN := named_of_find n v Q
  by_cases c2 : nv = true
  · subst c2
    have hx := putInt_at (n := (findR n v Q).1) (.inr (.inr (.inl ⟨rfl, rfl⟩)) : Pre 16 4) ((if (findR n v Q).1 = 0 then putText n else []) ++ putText v ++ R)
    rw [← List.append_assoc] at hx
    rw [one_nev]
    simp only
    rw [step_eq, if_neg (by simp only; omega), if_neg (by simp only; omega), if_neg (by simp only; omega), if_pos hx.1]
    unfold step5
    rw [named_put (.inr (.inr (.inl ⟨rfl, rfl⟩))) (by omega) hN hnv.1 hnv.2]
    simp only
    exact tell_put R o z Q m (n, v, true) hz
  · obtain rfl : nv = false := by simpa using c2
    by_cases c1 : (findR n v Q).2 = true
    · have hx := (putInt_at (n := (findR n v Q).1) (.inr (.inl ⟨rfl, rfl⟩) : Pre 128 7) R).1
      rw [one_hit c1]
      simp only
      rw [step_eq, if_pos hx]
      unfold step1
      rw [number_put (.inr (.inl ⟨rfl, rfl⟩)) (by omega)]
      simp only
      unfold header
      rw [show (DS.mk R o z Q m).Q = Q from rfl, findR_hit c1]
      simp only
      exact tell_put R o z Q m (n, v, false) hz
    · by_cases c3 : m < hsz (n, v)
      · have hx := putInt_at (n := (findR n v Q).1) (.inr (.inr (.inr (.inl ⟨rfl, rfl⟩))) : Pre 0 4) ((if (findR n v Q).1 = 0 then putText n else []) ++ putText v ++ R)
        rw [← List.append_assoc] at hx
        rw [one_big c1 c3]
        simp only
        rw [step_eq, if_neg (by simp only; omega), if_neg (by simp only; omega), if_neg (by simp only; omega), if_neg (by simp only; omega)]
        unfold step5
        rw [named_put (.inr (.inr (.inr (.inl ⟨rfl, rfl⟩)))) (by omega) hN hnv.1 hnv.2]
        simp only
        exact tell_put R o z Q m (n, v, false) hz
      · have hx := putInt_at (n := (findR n v Q).1) (.inr (.inr (.inr (.inr (.inl ⟨rfl, rfl⟩)))) : Pre 64 6) ((if (findR n v Q).1 = 0 then putText n else []) ++ putText v ++ R)
        rw [← List.append_assoc] at hx
        rw [one_new c1 c3]
        simp only
        rw [step_eq, if_neg (by simp only; omega), if_pos hx.1]
        unfold step2
        rw [named_put (.inr (.inr (.inr (.inr (.inl ⟨rfl, rfl⟩))))) (by omega) hN hnv.1 hnv.2]
        simp only
        rw [tell_put R o z Q m (n, v, false) hz]
theorem one_tot {m : Nat} {Q : List Hd} (hm : m ≤ 4096) (hQ : tot Q ≤ 4096) (h : Hn) : tot (one m Q h).2 ≤ 4096 := by
  unfold one
  simp only
  split
  · exact hQ
  · split
    · exact hQ
    · split
      · exact hQ
      · exact Nat.le_trans (addQ_tot _ _ _) hm
theorem one_pos (m : Nat) (Q : List Hd) (h : Hn) : (one m Q h).1 ≠ [] := by
  unfold one
  simp only
  split
  · exact putInt_pos (.inr (.inl ⟨rfl, rfl⟩))
  · split
    · exact fun e => putInt_pos (.inr (.inr (.inl ⟨rfl, rfl⟩)) : Pre 16 4) (List.append_eq_nil_iff.1 e).1
    · split
      · exact fun e => putInt_pos (.inr (.inr (.inr (.inl ⟨rfl, rfl⟩))) : Pre 0 4) (List.append_eq_nil_iff.1 e).1
      · exact fun e => putInt_pos (.inr (.inr (.inr (.inr (.inl ⟨rfl, rfl⟩)))) : Pre 64 6) (List.append_eq_nil_iff.1 e).1
/-- what a list counts -/
def tots : List Hn → Nat
  | [] => 0
  | h :: L => hsz (h.1, h.2.1) + tots L
theorem run_many (limit : Nat) {m : Nat} (hm : m ≤ 4096) : ∀ (L : List Hn) (Q : List Hd) (o : List Hn) (z : Nat), tot Q ≤ 4096 → z + tots L ≤ 16384 →
    run limit (many m Q L).1.length ⟨(many m Q L).1, o, z, Q, m⟩ = .ok ⟨[], o ++ L, z + tots L, (many m Q L).2, m⟩ ∧ tot (many m Q L).2 ≤ 4096
  | [], Q, o, z, hQ, hz => by
    unfold many
    rw [List.append_nil]
    exact ⟨run_done rfl, hQ⟩
  | h :: L, Q, o, z, hQ, hz => by
    unfold tots at hz
    have ih := run_many limit hm L (one m Q h).2 (o ++ [h]) (z + hsz (h.1, h.2.1)) (one_tot hm hQ h) (by omega)
    have hs := step_one limit (m := m) hQ h (many m (one m Q h).2 L).1 o z (by omega)
    have hr := run_step hs (by intro e; exact one_pos m Q h (List.append_eq_nil_iff.1 e).1)
    unfold many tots
    refine ⟨hr.trans (ih.1.trans ?_), ih.2⟩
    rw [List.append_assoc, Nat.add_assoc]
    rfl
theorem shr_shr (a b : Int) (h : a ≤ b) : ∀ Q : List Hd, shr a (shr b Q) = shr a Q
  | [] => rfl
  | x :: t => by
    by_cases c : b < (tot (x :: t) : Int)
    · rw [Tab.shr_go c, Tab.shr_go (by omega), shr_shr a b h t]
    · rw [Tab.shr_stay c]
theorem shr_fit {a : Int} {Q : List Hd} (h : (tot Q : Int) ≤ a) : shr a Q = Q := by
  cases Q with
  | nil => rfl
  | cons x t => exact Tab.shr_stay (by omega)
theorem shr_tot (k : Int) : ∀ Q : List Hd, tot (shr k Q) ≤ tot Q
  | [] => Nat.le_refl _
  | x :: t => by
    by_cases c : k < (tot (x :: t) : Int)
    · rw [Tab.shr_go c]
      have := shr_tot k t
      show _ ≤ hsz x + tot t
      omega
    · rw [Tab.shr_stay c]
      exact Nat.le_refl _
/-- an encoder and a decoder whose table is Q, m: they agree, but for sizes that are still to be told -/
def Sync (limit : Nat) (s : ES) (Q : List Hd) (m : Nat) : Prop :=
  tot Q ≤ 4096 ∧ s.m ≤ limit ∧ limit ≤ 4096 ∧ (s.asked = false → s.Q = Q ∧ s.m = m) ∧ (s.asked = true → s.least ≤ s.m ∧ s.Q = shr (s.least : Int) Q)
theorem Sync.resize {limit : Nat} {s : ES} {Q : List Hd} {m : Nat} (h : Sync limit s Q m) (k : Nat) (hk : k ≤ limit) : Sync limit (resize k s) Q m := by
  obtain ⟨h1, h2, h3, h4, h5⟩ := h
  refine ⟨h1, hk, h3, fun e => (by cases e), fun _ => ?_⟩
  unfold Hpk.resize
  simp only
  cases hc : s.asked with
  | false =>
    rw [if_pos (.inl rfl), (h4 hc).1]
    exact ⟨Nat.le_refl _, rfl⟩
  | true =>
    obtain ⟨h6, h7⟩ := h5 hc
    by_cases c : k < s.least
    · rw [if_pos (.inr c), h7, shr_shr _ _ (by omega)]
      exact ⟨Nat.le_refl _, rfl⟩
    · rw [if_neg (by simp; omega), h7]
      refine ⟨by omega, shr_fit ?_⟩
      have := Tab.shr_le (k := (s.least : Int)) (by omega) Q
      omega
theorem step_size (limit n : Nat) (hn : n ≤ limit) (hl : limit ≤ 4096) (R : List UInt8) (z : Nat) (Q : List Hd) (m : Nat) :
    step limit ⟨putInt 32 5 n ++ R, [], z, Q, m⟩ = .ok ⟨R, [], z, shr (n : Int) Q, n⟩ := by
  have hx := putInt_at (n := n) (.inl ⟨rfl, rfl⟩ : Pre 32 5) R
  rw [step_eq, if_neg (by simp only; omega), if_neg (by simp only; omega), if_pos hx.1]
  unfold step3
  rw [number_put (.inl ⟨rfl, rfl⟩) (by omega)]
  simp only
  rw [if_neg (by simp; omega)]
theorem run_size (limit n : Nat) (hn : n ≤ limit) (hl : limit ≤ 4096) (R : List UInt8) (z : Nat) (Q : List Hd) (m : Nat) :
    run limit (putInt 32 5 n ++ R).length ⟨putInt 32 5 n ++ R, [], z, Q, m⟩ = run limit R.length ⟨R, [], z, shr (n : Int) Q, n⟩ :=
  run_step (step_size limit n hn hl R z Q m) (by intro e; exact putInt_pos (.inl ⟨rfl, rfl⟩ : Pre 32 5) (List.append_eq_nil_iff.1 e).1)
theorem run_sizes {limit : Nat} {s : ES} {Q : List Hd} {m : Nat} (h : Sync limit s Q m) (R : List UInt8) : run limit (sizes s ++ R).length ⟨sizes s ++ R, [], 0, Q, m⟩ = run limit R.length ⟨R, [], 0, s.Q, s.m⟩ := by
  obtain ⟨h1, h2, h3, h4, h5⟩ := h
  unfold sizes
  cases hc : s.asked with
  | false =>
    obtain ⟨e1, e2⟩ := h4 hc
    rw [if_neg (by decide), List.nil_append, e1, e2]
  | true =>
    obtain ⟨h6, h7⟩ := h5 hc
    rw [if_pos rfl]
    have hf : shr (s.m : Int) s.Q = s.Q := by
      rw [h7]
      have := Tab.shr_le (k := (s.least : Int)) (by omega) Q
      exact shr_fit (by omega)
    by_cases c : s.least < s.m
    · rw [if_pos c, List.append_assoc, run_size limit s.least (by omega) h3, run_size limit s.m h2 h3, ← h7, hf]
    · have e : s.least = s.m := by omega
      rw [if_neg c, List.nil_append, run_size limit s.m h2 h3, ← e, ← h7]
theorem Sync.tot {limit : Nat} {s : ES} {Q : List Hd} {m : Nat} (h : Sync limit s Q m) : Tab.tot s.Q ≤ 4096 := by
  obtain ⟨h1, h2, h3, h4, h5⟩ := h
  cases hc : s.asked with
  | false => rw [(h4 hc).1]; exact h1
  | true => rw [(h5 hc).2]; exact Nat.le_trans (shr_tot _ _) h1
/-- a decoder is told what an encoder was -/
theorem run_encode {limit : Nat} {s : ES} {Q : List Hd} {m : Nat} (h : Sync limit s Q m) (L : List Hn) (hL : tots L ≤ 16384) :
    run limit (encode s L).1.length ⟨(encode s L).1, [], 0, Q, m⟩ = .ok ⟨[], L, tots L, (encode s L).2.Q, (encode s L).2.m⟩ ∧ Sync limit (encode s L).2 (encode s L).2.Q (encode s L).2.m := by
  have hm := run_many limit (m := s.m) (Nat.le_trans h.2.1 h.2.2.1) L s.Q [] 0 h.tot (by omega)
  unfold encode
  refine ⟨(run_sizes h _).trans (hm.1.trans ?_), ⟨hm.2, h.2.1, h.2.2.1, fun _ => ⟨rfl, rfl⟩, fun e => by cases e⟩⟩
  rw [List.nil_append, Nat.zero_add]
/-- headers that are never kept leave the table as it is -/
theorem many_never (m : Nat) (Q : List Hd) : ∀ L : List Hn, (∀ h ∈ L, h.2.2 = true) → (many m Q L).2 = Q
  | [], _ => rfl
  | h :: L, hn => by
    have h1 : h.2.2 = true := hn h (by simp)
    have e : (one m Q h).2 = Q := by
      obtain ⟨n, v, nv⟩ := h
      obtain rfl : nv = true := h1
      rw [one_nev]
    unfold many
    rw [e]
    exact many_never m Q L (fun x hx => hn x (by simp [hx]))
end Go.Proofs.YtflmgjidnclegaaDoor.Hpk
