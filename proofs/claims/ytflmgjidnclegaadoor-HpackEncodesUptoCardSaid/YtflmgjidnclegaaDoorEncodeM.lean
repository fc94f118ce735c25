/-
  The walk of Encode.
-/
import Derived.Test.YtflmgjidnclegaaDoorPutM
import Derived.Test.YtflmgjidnclegaaDoorTabM
import Derived.Test.YtflmgjidnclegaaDoorSpecM
namespace Go.Proofs.YtflmgjidnclegaaDoor.Hpk
open Go.RowKit
open Huff (bytesV)
open Tab (Hd hsz tot Hn Tbl HnAt findR addQ)
theorem putText_len (s : ByteArray) (h : s.size ≤ 2147483647) : (putText s).length ≤ s.size + 6 := by
  have hl := Huff.enc_len s.data.toList
  have ht := text_len s
  unfold putText
  split
  · have := putInt_len 128 7 (Huff.enc s.data.toList).length (by omega)
    rw [List.length_append]
    omega
  · have := putInt_len 0 7 s.size h
    rw [List.length_append, ht]
    omega
/-- what is there when a list is to be encoded -/
structure EncEnv (w : World) (E g r : Nat) (A : Option Addr) (L : List Hn) (M : Int) : Prop where
  lt : E < w.heap.size ∧ g < w.heap.size ∧ r < w.heap.size
  ne : E ≠ g ∧ E ≠ r
  mx : w.cell? ⟨6, 0, none⟩ = some (.int .i64 M)
  mn : ¬ (6 = E ∨ 6 = g ∨ 6 = r)
  hn : HnAt w A L
  an : ∀ ad, A = some ad → 0 < L.length → ¬ (ad.block = E ∨ ad.block = g ∨ ad.block = r)
  sz : ∀ h ∈ L, h.1.size ≤ 2147483647 ∧ h.2.1.size ≤ 2147483647
  len : L.length ≤ 64
/-- within a list -/
structure EncAt (w wr : World) (E g r : Nat) (l : Nat) (Q : List Hd) (m : Nat) (v : Value) (ys : List UInt8) : Prop where
  ke : Blk wr E 94 #[.pointer (some ⟨g, 0, none⟩), .int .i64 (l : Int), .bool false]
  kt : ∃ o, Tbl wr g r o Q m
  up : Upd3 w wr (fun i => i = E ∨ i = g ∨ i = r)
  ow : wr.ownsRow w.heap.size 5 1 v ys.length (bytesV ys)
section
variable {w wr w' : World} {E g r l m : Nat} {Q Q' : List Hd} {v v' : Value} {ys zs : List UInt8}
theorem EncAt.ext (h : EncAt w wr E g r l Q m v ys) (hb : Below wr.heap.size wr w') : EncAt w w' E g r l Q m v ys := by
  obtain ⟨o, ht⟩ := h.kt
  exact ⟨h.ke.below hb h.ke.lt, ⟨o, ht.below hb⟩, h.up.since hb, own_in h.ow hb⟩
theorem EncAt.put (h : EncAt w wr E g r l Q m v ys) (hb : Below wr.heap.size wr w') (ho : w'.ownsRow wr.heap.size 5 1 v' zs.length (bytesV zs)) : EncAt w w' E g r l Q m v' zs := by
  obtain ⟨o, ht⟩ := h.kt
  exact ⟨h.ke.below hb h.ke.lt, ⟨o, ht.below hb⟩, h.up.since hb, own_low ho h.up.size⟩
theorem EncAt.added (h : EncAt w wr E g r l Q m v ys) (hlt : g < w.heap.size ∧ r < w.heap.size) (hne : E ≠ g ∧ E ≠ r) {o : Nat} (ht : Tbl w' g r o Q' m) (u : Upd3 wr w' (fun i => i = g ∨ i = r)) : EncAt w w' E g r l Q' m v ys := by
  refine ⟨u.blk h.ke (by omega), ⟨o, ht⟩, h.up.trans u (fun i hi => Or.inl (Or.inr hi)), u.own h.ow (fun b hb hi => ?_)⟩
  have := (h.ow.lt b hb).1
  omega
end
/-- so much is written, so much is still to be -/
def Bal (m : Nat) (B : List UInt8) (QF Q : List Hd) (ys : List UInt8) (T : List Hn) : Prop := ys ++ (many m Q T).1 = B ∧ (many m Q T).2 = QF
theorem Bal.step {m : Nat} {B : List UInt8} {QF Q Q' : List Hd} {ys x : List UInt8} {h : Hn} {T : List Hn} (b : Bal m B QF Q ys (h :: T)) (e : one m Q h = (x, Q')) : Bal m B QF Q' (ys ++ x) T := by
  obtain ⟨b1, b2⟩ := b
  unfold many at b1 b2
  rw [e] at b1 b2
  exact ⟨by rw [List.append_assoc]; exact b1, b2⟩
def EncodeEnd (w : World) (E g r : Nat) (s : ES) (L : List Hn) (e : Ending) (w' : World) : Prop :=
  ∃ v, e = .returned v ∧ w'.ownsRow w.heap.size 5 1 v (encode s L).1.length (bytesV (encode s L).1) ∧ Enc w' E g r (encode s L).2 ∧ Upd3 w w' (fun i => i = E ∨ i = g ∨ i = r)
set_option maxRecDepth 100000 in
set_option maxHeartbeats 8000000 in
theorem encode_any {w : World} {E g r : Nat} {s : ES} {A : Option Addr} {L : List Hn} {M : Int} (cap : Nat) (h : Enc w E g r s) (V : EncEnv w E g r A L M) (hl : s.least ≤ 2147483647) :
    Calls Tryd.prog 40 #[.pointer (some ⟨E, 0, none⟩), .slice A L.length cap] w (EncodeEnd w E g r s L) := by
  obtain ⟨Q0, m, least, asked⟩ := s
  have HS := Lib.hid (sizes_any h V.ne hl)
  have hm : m ≤ 4096 := by obtain ⟨o, ht⟩ := h.kt; exact ht.hm
  have HV := Lib.hid V
  obtain ⟨B, hB⟩ : ∃ B, B = (encode ⟨Q0, m, least, asked⟩ L).1 := ⟨_, rfl⟩
  obtain ⟨QF, hQF⟩ : ∃ QF, QF = (many m Q0 L).2 := ⟨_, rfl⟩
  have HFIN : Hid (∀ (w' : World) (v : Value) (Q : List Hd) (ys : List UInt8), EncAt w w' E g r least Q m v ys → Bal m B QF Q ys [] → EncodeEnd w E g r ⟨Q0, m, least, asked⟩ L (.returned v) w') := Lib.hid (by
    intro w' v Q ys S b
    obtain ⟨b1, b2⟩ := b
    have b2 : Q = QF := b2
    have b1 : ys ++ [] = B := b1
    rw [List.append_nil] at b1
    subst b1 b2
    refine ⟨v, rfl, by rw [← hB]; exact S.ow, ⟨S.ke, ?_⟩, S.up⟩
    obtain ⟨o, ht⟩ := S.kt
    exact ⟨o, by rw [hQF] at ht; exact ht⟩)
  have HBAL : Hid (Bal m B QF Q0 (sizes ⟨Q0, m, least, asked⟩) L) := Lib.hid ⟨by rw [hB]; rfl, hQF.symm⟩
  have hsl : (sizes ⟨Q0, m, least, asked⟩).length ≤ 12 := by
    have a1 := putInt_len 32 5 least hl
    have a2 := putInt_len 32 5 m (by omega)
    unfold sizes
    simp only
    split
    · split
      · rw [List.length_append]; omega
      · rw [List.nil_append]; omega
    · simp
  obtain ⟨S0, hS0⟩ : ∃ S0, S0 = sizes ⟨Q0, m, least, asked⟩ := ⟨_, rfl⟩
  rw [← hS0] at HBAL hsl
  have HS0 := Lib.hid hS0
  clear h V hB hQF hS0
  go_enter Tryd.func40, Tryd.ntmps40
  go_wp2_with fail
  refine HS.out.mono ?_
  rintro e w0 ⟨v0, rfl, ho0, he0, hu0⟩
  rw [← HS0.out] at ho0
  have hS1 : EncAt w w0 E g r least Q0 m v0 S0 := ⟨he0.ke, he0.kt, hu0.mono (fun i hi => Or.inl hi), ho0⟩
  obtain ⟨A0, c0, rfl, -, -⟩ := Tab.own_slice ho0
  have HS1 := Lib.hid hS1
  clear HS ho0 he0 hu0 hS1
  go_wp2_with fail
  go_loopw [5, 14] (fun v i wr => ∃ (k : Nat) (Q : List Hd) (ys : List UInt8), i = .int .i64 (k : Int) ∧ k ≤ L.length ∧ EncAt w wr E g r least Q m v ys ∧ Bal m B QF Q ys (L.drop k) ∧ ys.length ≤ 64 + k * 8589934592) (fun _ i _ => L.length - (intOf i).toNat)
  case atStart => exact ⟨0, Q0, S0, rfl, Nat.zero_le _, HS1.out, HBAL.out, by omega⟩
  case round =>
    clear HS1 HBAL HS0
    obtain ⟨k, Q, ys, rfl, hk, S, hbal, hyl⟩ := hrel
    obtain ⟨Ay, cy, rfl, -, -⟩ := Tab.own_slice S.ow
    by_cases hlt : k < L.length
    · obtain ⟨x, hx⟩ : ∃ x, L[k]? = some x := ⟨_, List.getElem?_eq_getElem hlt⟩
      have hxm : x ∈ L := List.mem_of_getElem? hx
      obtain ⟨hn1, hv1⟩ := HV.out.sz x hxm
      have hdr : L.drop k = x :: L.drop (k + 1) := by
        rw [List.drop_eq_getElem_cons hlt]
        congr 1
        rw [List.getElem?_eq_getElem hlt] at hx
        exact Option.some.inj hx
      rw [hdr] at hbal
      obtain ⟨b, off, hA, hbl, a0, a1, a2⟩ := HV.out.hn k x hx
      have hnf := HV.out.an _ hA (by omega)
      subst hA
      have c0 := S.up.cell a0 hnf
      have c1 := S.up.cell a1 hnf
      have c2 := S.up.cell a2 hnf
      obtain ⟨n, vl, nv⟩ := x
      simp only at hn1 hv1 c0 c1 c2
      have hd : decide ((k : Int) < (L.length : Int)) = true := decide_eq_true (by omega)
      have hlen := HV.out.len
      have hq : tot Q ≤ 4096 := by obtain ⟨o, ht⟩ := S.kt; exact ht.ht
      have hfl := findR_le n vl Q
      have hql := Tab.tot_len Q
      obtain ⟨i, hi⟩ : ∃ i, i = (findR n vl Q).1 := ⟨_, rfl⟩
      rw [← hi] at hfl
      have hi31 : i ≤ 2147483647 := by omega
      have hBa : Below wr.heap.size wr (wr.alloc (.cells #[.string n, .string vl, .bool nv] 23)) := (Below.refl _ _).alloc (Nat.le_refl _) _
      have S1 := S.ext hBa
      have K1 := Blk.new wr 23 #[.string n, .string vl, .bool nv]
      have hkb : w.heap.size ≤ wr.heap.size := S.up.size
      have hMW := (S.up.cell HV.out.mx HV.out.mn)
      have hM1 := (Below.cell hBa (p := ⟨6, 0, none⟩) (cell_lt hMW)).trans hMW
      obtain ⟨o1, ht1⟩ := S1.kt
      have HB := Lib.hid hbal
      have HS1 := Lib.hid S1
      have HK1 := Lib.hid K1
      have HI := Lib.hid hi
      have e0 : (wr.alloc (.cells #[.string n, .string vl, .bool nv] 23)).cell? ⟨E, 0, none⟩ = some (.pointer (some ⟨g, 0, none⟩)) := S1.ke.cell 0
      have k0 : (wr.alloc (.cells #[.string n, .string vl, .bool nv] 23)).cell? ⟨wr.heap.size, 0, none⟩ = some (.string n) := K1.cell 0
      have k1 : (wr.alloc (.cells #[.string n, .string vl, .bool nv] 23)).cell? ⟨wr.heap.size, 1, none⟩ = some (.string vl) := K1.cell 1
      have k2 : (wr.alloc (.cells #[.string n, .string vl, .bool nv] 23)).cell? ⟨wr.heap.size, 2, none⟩ = some (.bool nv) := K1.cell 2
      have HF : Hid (∀ W, Since (wr.alloc (.cells #[.string n, .string vl, .bool nv] 23)) W → ∀ wh, wh = (findR n vl Q).2 → Calls Tryd.prog 30 #[.pointer (some ⟨g, 0, none⟩), .string n, .string vl] W fun e w' => e = .returned (.tuple #[.int .i64 (i : Int), .bool wh]) ∧ Below W.heap.size W w') := Lib.hid (by
        rintro W hW wh rfl
        refine (Tab.find_any (ht1.below hW) n vl M (hW.cell hM1)).mono ?_
        rintro e w' ⟨rfl, hb⟩
        exact ⟨by rw [hi], hb⟩)
      have HM : Hid (∀ (W : World), (∃ o, Tbl W g r o Q m) → Calls Tryd.prog 32 #[.pointer (some ⟨g, 0, none⟩)] W fun e w' => e = .returned (.int .i64 (m : Int)) ∧ W = w') := Lib.hid (by rintro W ⟨o, ht⟩; exact Tab.most_any ht)
      clear S S1 K1 hbal hx hxm hdr a0 a1 a2 hnf hM1 hMW ht1 hi hq hql hfl hBa
      go_wp2_with fail
      generalize wr.alloc (.cells #[.string n, .string vl, .bool nv] 23) = w1 at *
      by_cases hwh : (findR n vl Q).2 = true
      · cases nv with
        | false =>
          have HF1 := Lib.hid (fun W hW => HF.out W hW true hwh.symm)
          clear HF
          refine wp_region_in (Since w1) (Since.drew0 w1) (by kernel_rfl) (by kernel_rfl) ?_
          repeat (first
            | go_big_quiet_skip
            | (go_big_quiet_want; go_big_quiet_op; go_big_quiet_on)
            | (go_big_quiet_want; apply in_val; (· intro W hW; have d0 := hW.cell e0; have d1 := hW.cell k0; have d2 := hW.cell k1; have d3 := hW.cell k2; go_simp; first | done | rfl); simp only [Act.put, List.setIfInBounds_toArray, List.set_cons_zero, List.set_cons_succ]; go_big_quiet_on)
            | (go_big_quiet_want; apply in_q; (· intro W hW; go_simp; (go_at_call 30; with_reducible exact hW.call (HF1.out W hW))); simp only [Act.put, List.setIfInBounds_toArray, List.set_cons_zero, List.set_cons_succ]; go_big_quiet_on))
          refine wpQuiet_nil ?_
          intro w2 hW2
          have S2 := HS1.out.ext hW2
          have K2 := HK1.out.below hW2 HK1.out.lt
          have HS2 := Lib.hid S2
          have HK2 := Lib.hid K2
          have q0 : w2.cell? ⟨wr.heap.size, 0, none⟩ = some (.string n) := K2.cell 0
          have q1 : w2.cell? ⟨wr.heap.size, 1, none⟩ = some (.string vl) := K2.cell 1
          have q2 : w2.cell? ⟨wr.heap.size, 2, none⟩ = some (.bool false) := K2.cell 2
          have qe : w2.cell? ⟨E, 0, none⟩ = some (.pointer (some ⟨g, 0, none⟩)) := S2.ke.cell 0
          clear hW2 S2 K2 HS1 HK1 HF1 e0 k0 k1 k2 c0 c1 c2
          have HP3 := Lib.hid (putint_any 128 7 i (.inr (.inl ⟨rfl, rfl⟩)) hi31 _ ys w2 w.heap.size HS2.out.ow (by omega))
          have hpl3 := putInt_len 128 7 i hi31
          go_wp2_with fail
          refine HP3.out.mono ?_
          rintro e w3 ⟨v3, rfl, ho3, hb3⟩
          obtain ⟨y3, hy3⟩ : ∃ y, y = ys ++ putInt 128 7 i := ⟨_, rfl⟩
          rw [← hy3] at ho3
          have hyl3 : y3.length ≤ ys.length + (6) := by rw [hy3, List.length_append]; omega
          clear hpl3
          have S3 := HS2.out.put hb3 ho3
          have K3 := HK2.out.below hb3 HK2.out.lt
          obtain ⟨A3, c3', rfl, -, -⟩ := Tab.own_slice ho3
          have HS3 := Lib.hid S3
          have HK3 := Lib.hid K3
          have HY3 := Lib.hid hy3
          have x30 : w3.cell? ⟨wr.heap.size, 0, none⟩ = some (.string n) := K3.cell 0
          have x31 : w3.cell? ⟨wr.heap.size, 1, none⟩ = some (.string vl) := K3.cell 1
          have x32 : w3.cell? ⟨wr.heap.size, 2, none⟩ = some (.bool false) := K3.cell 2
          have z30 : w3.cell? ⟨E, 0, none⟩ = some (.pointer (some ⟨g, 0, none⟩)) := S3.ke.cell 0
          clear ho3 hb3 S3 K3 HP3 hy3
          have hone : y3 = ys ++ putInt 128 7 (findR n vl Q).1 := by rw [HY3.out, HI.out]
          have HBN := Lib.hid (HB.out.step (one_hit hwh))
          rw [← hone] at HBN
          clear hone
          go_wp2_with fail
          go_roundw
          case rel => exact ⟨k + 1, Q, y3, by go_num, by omega, HS3.out, HBN.out, by omega⟩
          case measure => simp [intOf]; omega
        | true =>
          have HF1 := Lib.hid (fun W hW => HF.out W hW true hwh.symm)
          clear HF
          refine wp_region_in (Since w1) (Since.drew0 w1) (by kernel_rfl) (by kernel_rfl) ?_
          repeat (first
            | go_big_quiet_skip
            | (go_big_quiet_want; go_big_quiet_op; go_big_quiet_on)
            | (go_big_quiet_want; apply in_val; (· intro W hW; have d0 := hW.cell e0; have d1 := hW.cell k0; have d2 := hW.cell k1; have d3 := hW.cell k2; go_simp; first | done | rfl); simp only [Act.put, List.setIfInBounds_toArray, List.set_cons_zero, List.set_cons_succ]; go_big_quiet_on)
            | (go_big_quiet_want; apply in_q; (· intro W hW; go_simp; (go_at_call 30; with_reducible exact hW.call (HF1.out W hW))); simp only [Act.put, List.setIfInBounds_toArray, List.set_cons_zero, List.set_cons_succ]; go_big_quiet_on))
          refine wpQuiet_nil ?_
          intro w2 hW2
          have S2 := HS1.out.ext hW2
          have K2 := HK1.out.below hW2 HK1.out.lt
          have HS2 := Lib.hid S2
          have HK2 := Lib.hid K2
          have q0 : w2.cell? ⟨wr.heap.size, 0, none⟩ = some (.string n) := K2.cell 0
          have q1 : w2.cell? ⟨wr.heap.size, 1, none⟩ = some (.string vl) := K2.cell 1
          have q2 : w2.cell? ⟨wr.heap.size, 2, none⟩ = some (.bool true) := K2.cell 2
          have qe : w2.cell? ⟨E, 0, none⟩ = some (.pointer (some ⟨g, 0, none⟩)) := S2.ke.cell 0
          clear hW2 S2 K2 HS1 HK1 HF1 e0 k0 k1 k2 c0 c1 c2
          have HP3 := Lib.hid (putint_any 16 4 i (.inr (.inr (.inl ⟨rfl, rfl⟩))) hi31 _ ys w2 w.heap.size HS2.out.ow (by omega))
          have hpl3 := putInt_len 16 4 i hi31
          go_wp2_with fail
          refine HP3.out.mono ?_
          rintro e w3 ⟨v3, rfl, ho3, hb3⟩
          obtain ⟨y3, hy3⟩ : ∃ y, y = ys ++ putInt 16 4 i := ⟨_, rfl⟩
          rw [← hy3] at ho3
          have hyl3 : y3.length ≤ ys.length + (6) := by rw [hy3, List.length_append]; omega
          clear hpl3
          have S3 := HS2.out.put hb3 ho3
          have K3 := HK2.out.below hb3 HK2.out.lt
          obtain ⟨A3, c3', rfl, -, -⟩ := Tab.own_slice ho3
          have HS3 := Lib.hid S3
          have HK3 := Lib.hid K3
          have HY3 := Lib.hid hy3
          have x30 : w3.cell? ⟨wr.heap.size, 0, none⟩ = some (.string n) := K3.cell 0
          have x31 : w3.cell? ⟨wr.heap.size, 1, none⟩ = some (.string vl) := K3.cell 1
          have x32 : w3.cell? ⟨wr.heap.size, 2, none⟩ = some (.bool true) := K3.cell 2
          have z30 : w3.cell? ⟨E, 0, none⟩ = some (.pointer (some ⟨g, 0, none⟩)) := S3.ke.cell 0
          clear ho3 hb3 S3 K3 HP3 hy3
          by_cases hiz : i = 0
          · have hi0 : ((i : Int) == 0) = true := by simp; omega
            have HP5 := Lib.hid (puttext_any n hn1 _ y3 w3 w.heap.size HS3.out.ow (by omega))
            have hpl5 := putText_len n hn1
            go_wp2_with fail
            refine HP5.out.mono ?_
            rintro e w5 ⟨v5, rfl, ho5, hb5⟩
            obtain ⟨y5, hy5⟩ : ∃ y, y = y3 ++ putText n := ⟨_, rfl⟩
            rw [← hy5] at ho5
            have hyl5 : y5.length ≤ y3.length + (2147483653) := by rw [hy5, List.length_append]; omega
            clear hpl5
            have S5 := HS3.out.put hb5 ho5
            have K5 := HK3.out.below hb5 HK3.out.lt
            obtain ⟨A5, c5', rfl, -, -⟩ := Tab.own_slice ho5
            have HS5 := Lib.hid S5
            have HK5 := Lib.hid K5
            have HY5 := Lib.hid hy5
            have x50 : w5.cell? ⟨wr.heap.size, 0, none⟩ = some (.string n) := K5.cell 0
            have x51 : w5.cell? ⟨wr.heap.size, 1, none⟩ = some (.string vl) := K5.cell 1
            have x52 : w5.cell? ⟨wr.heap.size, 2, none⟩ = some (.bool true) := K5.cell 2
            have z50 : w5.cell? ⟨E, 0, none⟩ = some (.pointer (some ⟨g, 0, none⟩)) := S5.ke.cell 0
            clear ho5 hb5 S5 K5 HP5 hy5
            have HP6 := Lib.hid (puttext_any vl hv1 _ y5 w5 w.heap.size HS5.out.ow (by omega))
            have hpl6 := putText_len vl hv1
            go_wp2_with fail
            refine HP6.out.mono ?_
            rintro e w6 ⟨v6, rfl, ho6, hb6⟩
            obtain ⟨y6, hy6⟩ : ∃ y, y = y5 ++ putText vl := ⟨_, rfl⟩
            rw [← hy6] at ho6
            have hyl6 : y6.length ≤ y5.length + (2147483653) := by rw [hy6, List.length_append]; omega
            clear hpl6
            have S6 := HS5.out.put hb6 ho6
            have K6 := HK5.out.below hb6 HK5.out.lt
            obtain ⟨A6, c6', rfl, -, -⟩ := Tab.own_slice ho6
            have HS6 := Lib.hid S6
            have HK6 := Lib.hid K6
            have HY6 := Lib.hid hy6
            have x60 : w6.cell? ⟨wr.heap.size, 0, none⟩ = some (.string n) := K6.cell 0
            have x61 : w6.cell? ⟨wr.heap.size, 1, none⟩ = some (.string vl) := K6.cell 1
            have x62 : w6.cell? ⟨wr.heap.size, 2, none⟩ = some (.bool true) := K6.cell 2
            have z60 : w6.cell? ⟨E, 0, none⟩ = some (.pointer (some ⟨g, 0, none⟩)) := S6.ke.cell 0
            clear ho6 hb6 S6 K6 HP6 hy6
            have hone : y6 = ys ++ (putInt 16 4 (findR n vl Q).1 ++ ((if (findR n vl Q).1 = 0 then putText n else []) ++ putText vl)) := by rw [HY6.out, HY5.out, HY3.out, HI.out, if_pos (HI.out.symm.trans hiz), List.append_assoc, List.append_assoc]
            have HBN := Lib.hid (HB.out.step one_nev)
            rw [← hone] at HBN
            clear hone
            go_wp2_with fail
            go_roundw
            case rel => exact ⟨k + 1, Q, y6, by go_num, by omega, HS6.out, HBN.out, by omega⟩
            case measure => simp [intOf]; omega
          · have hi0 : ((i : Int) == 0) = false := by simp; omega
            have HP6 := Lib.hid (puttext_any vl hv1 _ y3 w3 w.heap.size HS3.out.ow (by omega))
            have hpl6 := putText_len vl hv1
            go_wp2_with fail
            refine HP6.out.mono ?_
            rintro e w6 ⟨v6, rfl, ho6, hb6⟩
            obtain ⟨y6, hy6⟩ : ∃ y, y = y3 ++ putText vl := ⟨_, rfl⟩
            rw [← hy6] at ho6
            have hyl6 : y6.length ≤ y3.length + (2147483653) := by rw [hy6, List.length_append]; omega
            clear hpl6
            have S6 := HS3.out.put hb6 ho6
            have K6 := HK3.out.below hb6 HK3.out.lt
            obtain ⟨A6, c6', rfl, -, -⟩ := Tab.own_slice ho6
            have HS6 := Lib.hid S6
            have HK6 := Lib.hid K6
            have HY6 := Lib.hid hy6
            have x60 : w6.cell? ⟨wr.heap.size, 0, none⟩ = some (.string n) := K6.cell 0
            have x61 : w6.cell? ⟨wr.heap.size, 1, none⟩ = some (.string vl) := K6.cell 1
            have x62 : w6.cell? ⟨wr.heap.size, 2, none⟩ = some (.bool true) := K6.cell 2
            have z60 : w6.cell? ⟨E, 0, none⟩ = some (.pointer (some ⟨g, 0, none⟩)) := S6.ke.cell 0
            clear ho6 hb6 S6 K6 HP6 hy6
            have hone : y6 = ys ++ (putInt 16 4 (findR n vl Q).1 ++ ((if (findR n vl Q).1 = 0 then putText n else []) ++ putText vl)) := by rw [HY6.out, HY3.out, HI.out, if_neg (fun h => hiz (HI.out.trans h)), List.nil_append, List.append_assoc]
            have HBN := Lib.hid (HB.out.step one_nev)
            rw [← hone] at HBN
            clear hone
            go_wp2_with fail
            go_roundw
            case rel => exact ⟨k + 1, Q, y6, by go_num, by omega, HS6.out, HBN.out, by omega⟩
            case measure => simp [intOf]; omega
      · have hwn := hwh
        have hwh : (findR n vl Q).2 = false := by simpa using hwn
        cases nv with
        | true =>
          have HF1 := Lib.hid (fun W hW => HF.out W hW false hwh.symm)
          clear HF
          refine wp_region_in (Since w1) (Since.drew0 w1) (by kernel_rfl) (by kernel_rfl) ?_
          repeat (first
            | go_big_quiet_skip
            | (go_big_quiet_want; go_big_quiet_op; go_big_quiet_on)
            | (go_big_quiet_want; apply in_val; (· intro W hW; have d0 := hW.cell e0; have d1 := hW.cell k0; have d2 := hW.cell k1; have d3 := hW.cell k2; go_simp; first | done | rfl); simp only [Act.put, List.setIfInBounds_toArray, List.set_cons_zero, List.set_cons_succ]; go_big_quiet_on)
            | (go_big_quiet_want; apply in_q; (· intro W hW; go_simp; (go_at_call 30; with_reducible exact hW.call (HF1.out W hW))); simp only [Act.put, List.setIfInBounds_toArray, List.set_cons_zero, List.set_cons_succ]; go_big_quiet_on))
          refine wpQuiet_nil ?_
          intro w2 hW2
          have S2 := HS1.out.ext hW2
          have K2 := HK1.out.below hW2 HK1.out.lt
          have HS2 := Lib.hid S2
          have HK2 := Lib.hid K2
          have q0 : w2.cell? ⟨wr.heap.size, 0, none⟩ = some (.string n) := K2.cell 0
          have q1 : w2.cell? ⟨wr.heap.size, 1, none⟩ = some (.string vl) := K2.cell 1
          have q2 : w2.cell? ⟨wr.heap.size, 2, none⟩ = some (.bool true) := K2.cell 2
          have qe : w2.cell? ⟨E, 0, none⟩ = some (.pointer (some ⟨g, 0, none⟩)) := S2.ke.cell 0
          clear hW2 S2 K2 HS1 HK1 HF1 e0 k0 k1 k2 c0 c1 c2
          have HP3 := Lib.hid (putint_any 16 4 i (.inr (.inr (.inl ⟨rfl, rfl⟩))) hi31 _ ys w2 w.heap.size HS2.out.ow (by omega))
          have hpl3 := putInt_len 16 4 i hi31
          go_wp2_with fail
          refine HP3.out.mono ?_
          rintro e w3 ⟨v3, rfl, ho3, hb3⟩
          obtain ⟨y3, hy3⟩ : ∃ y, y = ys ++ putInt 16 4 i := ⟨_, rfl⟩
          rw [← hy3] at ho3
          have hyl3 : y3.length ≤ ys.length + (6) := by rw [hy3, List.length_append]; omega
          clear hpl3
          have S3 := HS2.out.put hb3 ho3
          have K3 := HK2.out.below hb3 HK2.out.lt
          obtain ⟨A3, c3', rfl, -, -⟩ := Tab.own_slice ho3
          have HS3 := Lib.hid S3
          have HK3 := Lib.hid K3
          have HY3 := Lib.hid hy3
          have x30 : w3.cell? ⟨wr.heap.size, 0, none⟩ = some (.string n) := K3.cell 0
          have x31 : w3.cell? ⟨wr.heap.size, 1, none⟩ = some (.string vl) := K3.cell 1
          have x32 : w3.cell? ⟨wr.heap.size, 2, none⟩ = some (.bool true) := K3.cell 2
          have z30 : w3.cell? ⟨E, 0, none⟩ = some (.pointer (some ⟨g, 0, none⟩)) := S3.ke.cell 0
          clear ho3 hb3 S3 K3 HP3 hy3
          by_cases hiz : i = 0
          · have hi0 : ((i : Int) == 0) = true := by simp; omega
            have HP5 := Lib.hid (puttext_any n hn1 _ y3 w3 w.heap.size HS3.out.ow (by omega))
            have hpl5 := putText_len n hn1
            go_wp2_with fail
            refine HP5.out.mono ?_
            rintro e w5 ⟨v5, rfl, ho5, hb5⟩
            obtain ⟨y5, hy5⟩ : ∃ y, y = y3 ++ putText n := ⟨_, rfl⟩
            rw [← hy5] at ho5
            have hyl5 : y5.length ≤ y3.length + (2147483653) := by rw [hy5, List.length_append]; omega
            clear hpl5
            have S5 := HS3.out.put hb5 ho5
            have K5 := HK3.out.below hb5 HK3.out.lt
            obtain ⟨A5, c5', rfl, -, -⟩ := Tab.own_slice ho5
            have HS5 := Lib.hid S5
            have HK5 := Lib.hid K5
            have HY5 := Lib.hid hy5
            have x50 : w5.cell? ⟨wr.heap.size, 0, none⟩ = some (.string n) := K5.cell 0
            have x51 : w5.cell? ⟨wr.heap.size, 1, none⟩ = some (.string vl) := K5.cell 1
            have x52 : w5.cell? ⟨wr.heap.size, 2, none⟩ = some (.bool true) := K5.cell 2
            have z50 : w5.cell? ⟨E, 0, none⟩ = some (.pointer (some ⟨g, 0, none⟩)) := S5.ke.cell 0
            clear ho5 hb5 S5 K5 HP5 hy5
            have HP6 := Lib.hid (puttext_any vl hv1 _ y5 w5 w.heap.size HS5.out.ow (by omega))
            have hpl6 := putText_len vl hv1
            go_wp2_with fail
            refine HP6.out.mono ?_
            rintro e w6 ⟨v6, rfl, ho6, hb6⟩
            obtain ⟨y6, hy6⟩ : ∃ y, y = y5 ++ putText vl := ⟨_, rfl⟩
            rw [← hy6] at ho6
            have hyl6 : y6.length ≤ y5.length + (2147483653) := by rw [hy6, List.length_append]; omega
            clear hpl6
            have S6 := HS5.out.put hb6 ho6
            have K6 := HK5.out.below hb6 HK5.out.lt
            obtain ⟨A6, c6', rfl, -, -⟩ := Tab.own_slice ho6
            have HS6 := Lib.hid S6
            have HK6 := Lib.hid K6
            have HY6 := Lib.hid hy6
            have x60 : w6.cell? ⟨wr.heap.size, 0, none⟩ = some (.string n) := K6.cell 0
            have x61 : w6.cell? ⟨wr.heap.size, 1, none⟩ = some (.string vl) := K6.cell 1
            have x62 : w6.cell? ⟨wr.heap.size, 2, none⟩ = some (.bool true) := K6.cell 2
            have z60 : w6.cell? ⟨E, 0, none⟩ = some (.pointer (some ⟨g, 0, none⟩)) := S6.ke.cell 0
            clear ho6 hb6 S6 K6 HP6 hy6
            have hone : y6 = ys ++ (putInt 16 4 (findR n vl Q).1 ++ ((if (findR n vl Q).1 = 0 then putText n else []) ++ putText vl)) := by rw [HY6.out, HY5.out, HY3.out, HI.out, if_pos (HI.out.symm.trans hiz), List.append_assoc, List.append_assoc]
            have HBN := Lib.hid (HB.out.step one_nev)
            rw [← hone] at HBN
            clear hone
            go_wp2_with fail
            go_roundw
            case rel => exact ⟨k + 1, Q, y6, by go_num, by omega, HS6.out, HBN.out, by omega⟩
            case measure => simp [intOf]; omega
          · have hi0 : ((i : Int) == 0) = false := by simp; omega
            have HP6 := Lib.hid (puttext_any vl hv1 _ y3 w3 w.heap.size HS3.out.ow (by omega))
            have hpl6 := putText_len vl hv1
            go_wp2_with fail
            refine HP6.out.mono ?_
            rintro e w6 ⟨v6, rfl, ho6, hb6⟩
            obtain ⟨y6, hy6⟩ : ∃ y, y = y3 ++ putText vl := ⟨_, rfl⟩
            rw [← hy6] at ho6
            have hyl6 : y6.length ≤ y3.length + (2147483653) := by rw [hy6, List.length_append]; omega
            clear hpl6
            have S6 := HS3.out.put hb6 ho6
            have K6 := HK3.out.below hb6 HK3.out.lt
            obtain ⟨A6, c6', rfl, -, -⟩ := Tab.own_slice ho6
            have HS6 := Lib.hid S6
            have HK6 := Lib.hid K6
            have HY6 := Lib.hid hy6
            have x60 : w6.cell? ⟨wr.heap.size, 0, none⟩ = some (.string n) := K6.cell 0
            have x61 : w6.cell? ⟨wr.heap.size, 1, none⟩ = some (.string vl) := K6.cell 1
            have x62 : w6.cell? ⟨wr.heap.size, 2, none⟩ = some (.bool true) := K6.cell 2
            have z60 : w6.cell? ⟨E, 0, none⟩ = some (.pointer (some ⟨g, 0, none⟩)) := S6.ke.cell 0
            clear ho6 hb6 S6 K6 HP6 hy6
            have hone : y6 = ys ++ (putInt 16 4 (findR n vl Q).1 ++ ((if (findR n vl Q).1 = 0 then putText n else []) ++ putText vl)) := by rw [HY6.out, HY3.out, HI.out, if_neg (fun h => hiz (HI.out.trans h)), List.nil_append, List.append_assoc]
            have HBN := Lib.hid (HB.out.step one_nev)
            rw [← hone] at HBN
            clear hone
            go_wp2_with fail
            go_roundw
            case rel => exact ⟨k + 1, Q, y6, by go_num, by omega, HS6.out, HBN.out, by omega⟩
            case measure => simp [intOf]; omega
        | false =>
          have hszb : hsz (n, vl) ≤ 4611686018427387904 := by unfold hsz; simp only; omega
          by_cases hbig : m < hsz (n, vl)
          · have HF1 := Lib.hid (fun W hW => HF.out W hW false hwh.symm)
            clear HF
            refine wp_region_in (Since w1) (Since.drew0 w1) (by kernel_rfl) (by kernel_rfl) ?_
            repeat (first
              | go_big_quiet_skip
              | (go_big_quiet_want; go_big_quiet_op; go_big_quiet_on)
              | (go_big_quiet_want; apply in_val; (· intro W hW; have d0 := hW.cell e0; have d1 := hW.cell k0; have d2 := hW.cell k1; have d3 := hW.cell k2; go_simp; first | done | rfl); simp only [Act.put, List.setIfInBounds_toArray, List.set_cons_zero, List.set_cons_succ]; go_big_quiet_on)
              | (go_big_quiet_want; apply in_q; (· intro W hW; go_simp; (go_at_call 30; with_reducible exact hW.call (HF1.out W hW))); simp only [Act.put, List.setIfInBounds_toArray, List.set_cons_zero, List.set_cons_succ]; go_big_quiet_on))
            refine wpQuiet_nil ?_
            intro w2 hW2
            have S2 := HS1.out.ext hW2
            have K2 := HK1.out.below hW2 HK1.out.lt
            have HS2 := Lib.hid S2
            have HK2 := Lib.hid K2
            have q0 : w2.cell? ⟨wr.heap.size, 0, none⟩ = some (.string n) := K2.cell 0
            have q1 : w2.cell? ⟨wr.heap.size, 1, none⟩ = some (.string vl) := K2.cell 1
            have q2 : w2.cell? ⟨wr.heap.size, 2, none⟩ = some (.bool false) := K2.cell 2
            have qe : w2.cell? ⟨E, 0, none⟩ = some (.pointer (some ⟨g, 0, none⟩)) := S2.ke.cell 0
            clear hW2 S2 K2 HS1 HK1 HF1 e0 k0 k1 k2 c0 c1 c2
            go_wp2_with fail
            have HSZ := Lib.hid (fun W => Tab.size_any n vl false (hsz (n, vl)) rfl hszb W)
            have HM2 : Hid (∀ W, Since w2 W → Calls Tryd.prog 32 #[.pointer (some ⟨g, 0, none⟩)] W fun e w' => e = .returned (.int .i64 (m : Int)) ∧ W = w') := Lib.hid (fun W hW => HM.out W (by obtain ⟨o, ht⟩ := HS2.out.kt; exact ⟨o, ht.below hW⟩))
            have hdm : decide ((hsz (n, vl) : Int) > (m : Int)) = true := decide_eq_true (by omega)
            refine wp_region_in (Since w2) (Since.drew0 w2) (by kernel_rfl) (by kernel_rfl) ?_
            repeat (first
              | go_big_quiet_skip
              | (go_big_quiet_want; go_big_quiet_op; go_big_quiet_on)
              | (go_big_quiet_want; apply in_val; (· intro W hW; have d0 := hW.cell qe; have d1 := hW.cell q0; have d2 := hW.cell q1; have d3 := hW.cell q2; go_simp; first | done | rfl); simp only [Act.put, List.setIfInBounds_toArray, List.set_cons_zero, List.set_cons_succ]; go_big_quiet_on)
              | (go_big_quiet_want; apply in_q; (· intro W hW; go_simp; first | (go_at_call 17; with_reducible exact hW.call (HSZ.out W)) | (go_at_call 32; with_reducible exact hW.callS (HM2.out W hW))); simp only [Act.put, List.setIfInBounds_toArray, List.set_cons_zero, List.set_cons_succ]; go_big_quiet_on))
            refine wpQuiet_nil ?_
            intro w4 hW4
            have S4 := HS2.out.ext hW4
            have K4 := HK2.out.below hW4 HK2.out.lt
            have HS4 := Lib.hid S4
            have HK4 := Lib.hid K4
            clear hW4 S4 K4 HS2 HK2 HSZ HM2 q0 q1 q2 qe
            have HP3 := Lib.hid (putint_any 0 4 i (.inr (.inr (.inr (.inl ⟨rfl, rfl⟩)))) hi31 _ ys w4 w.heap.size HS4.out.ow (by omega))
            have hpl3 := putInt_len 0 4 i hi31
            go_wp2_with fail
            refine HP3.out.mono ?_
            rintro e w3 ⟨v3, rfl, ho3, hb3⟩
            obtain ⟨y3, hy3⟩ : ∃ y, y = ys ++ putInt 0 4 i := ⟨_, rfl⟩
            rw [← hy3] at ho3
            have hyl3 : y3.length ≤ ys.length + (6) := by rw [hy3, List.length_append]; omega
            clear hpl3
            have S3 := HS4.out.put hb3 ho3
            have K3 := HK4.out.below hb3 HK4.out.lt
            obtain ⟨A3, c3', rfl, -, -⟩ := Tab.own_slice ho3
            have HS3 := Lib.hid S3
            have HK3 := Lib.hid K3
            have HY3 := Lib.hid hy3
            have x30 : w3.cell? ⟨wr.heap.size, 0, none⟩ = some (.string n) := K3.cell 0
            have x31 : w3.cell? ⟨wr.heap.size, 1, none⟩ = some (.string vl) := K3.cell 1
            have x32 : w3.cell? ⟨wr.heap.size, 2, none⟩ = some (.bool false) := K3.cell 2
            have z30 : w3.cell? ⟨E, 0, none⟩ = some (.pointer (some ⟨g, 0, none⟩)) := S3.ke.cell 0
            clear ho3 hb3 S3 K3 HP3 hy3
            by_cases hiz : i = 0
            · have hi0 : ((i : Int) == 0) = true := by simp; omega
              have HP5 := Lib.hid (puttext_any n hn1 _ y3 w3 w.heap.size HS3.out.ow (by omega))
              have hpl5 := putText_len n hn1
              go_wp2_with fail
              refine HP5.out.mono ?_
              rintro e w5 ⟨v5, rfl, ho5, hb5⟩
              obtain ⟨y5, hy5⟩ : ∃ y, y = y3 ++ putText n := ⟨_, rfl⟩
              rw [← hy5] at ho5
              have hyl5 : y5.length ≤ y3.length + (2147483653) := by rw [hy5, List.length_append]; omega
              clear hpl5
              have S5 := HS3.out.put hb5 ho5
              have K5 := HK3.out.below hb5 HK3.out.lt
              obtain ⟨A5, c5', rfl, -, -⟩ := Tab.own_slice ho5
              have HS5 := Lib.hid S5
              have HK5 := Lib.hid K5
              have HY5 := Lib.hid hy5
              have x50 : w5.cell? ⟨wr.heap.size, 0, none⟩ = some (.string n) := K5.cell 0
              have x51 : w5.cell? ⟨wr.heap.size, 1, none⟩ = some (.string vl) := K5.cell 1
              have x52 : w5.cell? ⟨wr.heap.size, 2, none⟩ = some (.bool false) := K5.cell 2
              have z50 : w5.cell? ⟨E, 0, none⟩ = some (.pointer (some ⟨g, 0, none⟩)) := S5.ke.cell 0
              clear ho5 hb5 S5 K5 HP5 hy5
              have HP6 := Lib.hid (puttext_any vl hv1 _ y5 w5 w.heap.size HS5.out.ow (by omega))
              have hpl6 := putText_len vl hv1
              go_wp2_with fail
              refine HP6.out.mono ?_
              rintro e w6 ⟨v6, rfl, ho6, hb6⟩
              obtain ⟨y6, hy6⟩ : ∃ y, y = y5 ++ putText vl := ⟨_, rfl⟩
              rw [← hy6] at ho6
              have hyl6 : y6.length ≤ y5.length + (2147483653) := by rw [hy6, List.length_append]; omega
              clear hpl6
              have S6 := HS5.out.put hb6 ho6
              have K6 := HK5.out.below hb6 HK5.out.lt
              obtain ⟨A6, c6', rfl, -, -⟩ := Tab.own_slice ho6
              have HS6 := Lib.hid S6
              have HK6 := Lib.hid K6
              have HY6 := Lib.hid hy6
              have x60 : w6.cell? ⟨wr.heap.size, 0, none⟩ = some (.string n) := K6.cell 0
              have x61 : w6.cell? ⟨wr.heap.size, 1, none⟩ = some (.string vl) := K6.cell 1
              have x62 : w6.cell? ⟨wr.heap.size, 2, none⟩ = some (.bool false) := K6.cell 2
              have z60 : w6.cell? ⟨E, 0, none⟩ = some (.pointer (some ⟨g, 0, none⟩)) := S6.ke.cell 0
              clear ho6 hb6 S6 K6 HP6 hy6
              have hone : y6 = ys ++ (putInt 0 4 (findR n vl Q).1 ++ ((if (findR n vl Q).1 = 0 then putText n else []) ++ putText vl)) := by rw [HY6.out, HY5.out, HY3.out, HI.out, if_pos (HI.out.symm.trans hiz), List.append_assoc, List.append_assoc]
              have HBN := Lib.hid (HB.out.step (one_big hwn hbig))
              rw [← hone] at HBN
              clear hone
              go_wp2_with fail
              go_roundw
              case rel => exact ⟨k + 1, Q, y6, by go_num, by omega, HS6.out, HBN.out, by omega⟩
              case measure => simp [intOf]; omega
            · have hi0 : ((i : Int) == 0) = false := by simp; omega
              have HP6 := Lib.hid (puttext_any vl hv1 _ y3 w3 w.heap.size HS3.out.ow (by omega))
              have hpl6 := putText_len vl hv1
              go_wp2_with fail
              refine HP6.out.mono ?_
              rintro e w6 ⟨v6, rfl, ho6, hb6⟩
              obtain ⟨y6, hy6⟩ : ∃ y, y = y3 ++ putText vl := ⟨_, rfl⟩
              rw [← hy6] at ho6
              have hyl6 : y6.length ≤ y3.length + (2147483653) := by rw [hy6, List.length_append]; omega
              clear hpl6
              have S6 := HS3.out.put hb6 ho6
              have K6 := HK3.out.below hb6 HK3.out.lt
              obtain ⟨A6, c6', rfl, -, -⟩ := Tab.own_slice ho6
              have HS6 := Lib.hid S6
              have HK6 := Lib.hid K6
              have HY6 := Lib.hid hy6
              have x60 : w6.cell? ⟨wr.heap.size, 0, none⟩ = some (.string n) := K6.cell 0
              have x61 : w6.cell? ⟨wr.heap.size, 1, none⟩ = some (.string vl) := K6.cell 1
              have x62 : w6.cell? ⟨wr.heap.size, 2, none⟩ = some (.bool false) := K6.cell 2
              have z60 : w6.cell? ⟨E, 0, none⟩ = some (.pointer (some ⟨g, 0, none⟩)) := S6.ke.cell 0
              clear ho6 hb6 S6 K6 HP6 hy6
              have hone : y6 = ys ++ (putInt 0 4 (findR n vl Q).1 ++ ((if (findR n vl Q).1 = 0 then putText n else []) ++ putText vl)) := by rw [HY6.out, HY3.out, HI.out, if_neg (fun h => hiz (HI.out.trans h)), List.nil_append, List.append_assoc]
              have HBN := Lib.hid (HB.out.step (one_big hwn hbig))
              rw [← hone] at HBN
              clear hone
              go_wp2_with fail
              go_roundw
              case rel => exact ⟨k + 1, Q, y6, by go_num, by omega, HS6.out, HBN.out, by omega⟩
              case measure => simp [intOf]; omega
          · have HF1 := Lib.hid (fun W hW => HF.out W hW false hwh.symm)
            clear HF
            refine wp_region_in (Since w1) (Since.drew0 w1) (by kernel_rfl) (by kernel_rfl) ?_
            repeat (first
              | go_big_quiet_skip
              | (go_big_quiet_want; go_big_quiet_op; go_big_quiet_on)
              | (go_big_quiet_want; apply in_val; (· intro W hW; have d0 := hW.cell e0; have d1 := hW.cell k0; have d2 := hW.cell k1; have d3 := hW.cell k2; go_simp; first | done | rfl); simp only [Act.put, List.setIfInBounds_toArray, List.set_cons_zero, List.set_cons_succ]; go_big_quiet_on)
              | (go_big_quiet_want; apply in_q; (· intro W hW; go_simp; (go_at_call 30; with_reducible exact hW.call (HF1.out W hW))); simp only [Act.put, List.setIfInBounds_toArray, List.set_cons_zero, List.set_cons_succ]; go_big_quiet_on))
            refine wpQuiet_nil ?_
            intro w2 hW2
            have S2 := HS1.out.ext hW2
            have K2 := HK1.out.below hW2 HK1.out.lt
            have HS2 := Lib.hid S2
            have HK2 := Lib.hid K2
            have q0 : w2.cell? ⟨wr.heap.size, 0, none⟩ = some (.string n) := K2.cell 0
            have q1 : w2.cell? ⟨wr.heap.size, 1, none⟩ = some (.string vl) := K2.cell 1
            have q2 : w2.cell? ⟨wr.heap.size, 2, none⟩ = some (.bool false) := K2.cell 2
            have qe : w2.cell? ⟨E, 0, none⟩ = some (.pointer (some ⟨g, 0, none⟩)) := S2.ke.cell 0
            clear hW2 S2 K2 HS1 HK1 HF1 e0 k0 k1 k2 c0 c1 c2
            go_wp2_with fail
            have HSZ := Lib.hid (fun W => Tab.size_any n vl false (hsz (n, vl)) rfl hszb W)
            have HM2 : Hid (∀ W, Since w2 W → Calls Tryd.prog 32 #[.pointer (some ⟨g, 0, none⟩)] W fun e w' => e = .returned (.int .i64 (m : Int)) ∧ W = w') := Lib.hid (fun W hW => HM.out W (by obtain ⟨o, ht⟩ := HS2.out.kt; exact ⟨o, ht.below hW⟩))
            have hdm : decide ((hsz (n, vl) : Int) > (m : Int)) = false := decide_eq_false (by omega)
            refine wp_region_in (Since w2) (Since.drew0 w2) (by kernel_rfl) (by kernel_rfl) ?_
            repeat (first
              | go_big_quiet_skip
              | (go_big_quiet_want; go_big_quiet_op; go_big_quiet_on)
              | (go_big_quiet_want; apply in_val; (· intro W hW; have d0 := hW.cell qe; have d1 := hW.cell q0; have d2 := hW.cell q1; have d3 := hW.cell q2; go_simp; first | done | rfl); simp only [Act.put, List.setIfInBounds_toArray, List.set_cons_zero, List.set_cons_succ]; go_big_quiet_on)
              | (go_big_quiet_want; apply in_q; (· intro W hW; go_simp; first | (go_at_call 17; with_reducible exact hW.call (HSZ.out W)) | (go_at_call 32; with_reducible exact hW.callS (HM2.out W hW))); simp only [Act.put, List.setIfInBounds_toArray, List.set_cons_zero, List.set_cons_succ]; go_big_quiet_on))
            refine wpQuiet_nil ?_
            intro w4 hW4
            have S4 := HS2.out.ext hW4
            have K4 := HK2.out.below hW4 HK2.out.lt
            have HS4 := Lib.hid S4
            have HK4 := Lib.hid K4
            clear hW4 S4 K4 HS2 HK2 HSZ HM2 q0 q1 q2 qe
            have HP3 := Lib.hid (putint_any 64 6 i (.inr (.inr (.inr (.inr (.inl ⟨rfl, rfl⟩))))) hi31 _ ys w4 w.heap.size HS4.out.ow (by omega))
            have hpl3 := putInt_len 64 6 i hi31
            go_wp2_with fail
            refine HP3.out.mono ?_
            rintro e w3 ⟨v3, rfl, ho3, hb3⟩
            obtain ⟨y3, hy3⟩ : ∃ y, y = ys ++ putInt 64 6 i := ⟨_, rfl⟩
            rw [← hy3] at ho3
            have hyl3 : y3.length ≤ ys.length + (6) := by rw [hy3, List.length_append]; omega
            clear hpl3
            have S3 := HS4.out.put hb3 ho3
            have K3 := HK4.out.below hb3 HK4.out.lt
            obtain ⟨A3, c3', rfl, -, -⟩ := Tab.own_slice ho3
            have HS3 := Lib.hid S3
            have HK3 := Lib.hid K3
            have HY3 := Lib.hid hy3
            have x30 : w3.cell? ⟨wr.heap.size, 0, none⟩ = some (.string n) := K3.cell 0
            have x31 : w3.cell? ⟨wr.heap.size, 1, none⟩ = some (.string vl) := K3.cell 1
            have x32 : w3.cell? ⟨wr.heap.size, 2, none⟩ = some (.bool false) := K3.cell 2
            have z30 : w3.cell? ⟨E, 0, none⟩ = some (.pointer (some ⟨g, 0, none⟩)) := S3.ke.cell 0
            clear ho3 hb3 S3 K3 HP3 hy3
            go_wp2_with fail
            refine wp_region_in_tail 5 (Since w3) (Since.drew0 w3) (by kernel_rfl) (by kernel_rfl) ?_
            simp only [List.take_succ_cons, List.take_zero, List.drop_succ_cons, List.drop_zero]
            repeat (first
              | go_big_quiet_skip
              | (go_big_quiet_want; go_big_quiet_op; go_big_quiet_on)
              | (go_big_quiet_want; apply in_val; (· intro W hW; have d0 := hW.cell z30; have d1 := hW.cell x30; have d2 := hW.cell x31; have d3 := hW.cell x32; go_simp; first | done | rfl); simp only [Act.put, List.setIfInBounds_toArray, List.set_cons_zero, List.set_cons_succ]; go_big_quiet_on))
            refine wpQuiet_nil ?_
            intro w7 hW7
            have S7 := HS3.out.ext hW7
            have K7 := HK3.out.below hW7 HK3.out.lt
            obtain ⟨o7, ht7⟩ := S7.kt
            have AD := Lib.hid (Tab.add_any ht7 n vl false (by omega))
            have HS7 := Lib.hid S7
            have HK7 := Lib.hid K7
            clear hW7 S7 K7 ht7 HS3 HK3 x30 x31 x32 z30
            go_wp2_with fail
            refine AD.out.mono ?_
            rintro e w8 ⟨rfl, o8, ht8, hu8⟩
            have hlt3 := HV.out.lt
            have S8 := HS7.out.added ⟨hlt3.2.1, hlt3.2.2⟩ HV.out.ne ht8 hu8
            have K8 := hu8.blk HK7.out (by omega)
            have HS8 := Lib.hid S8
            have HK8 := Lib.hid K8
            have r0 : w8.cell? ⟨wr.heap.size, 0, none⟩ = some (.string n) := K8.cell 0
            have r1 : w8.cell? ⟨wr.heap.size, 1, none⟩ = some (.string vl) := K8.cell 1
            have r2 : w8.cell? ⟨wr.heap.size, 2, none⟩ = some (.bool false) := K8.cell 2
            clear ht8 hu8 S8 K8 AD HS7 HK7
            by_cases hiz : i = 0
            · have hi0 : ((i : Int) == 0) = true := by simp; omega
              have HP5 := Lib.hid (puttext_any n hn1 _ y3 w8 w.heap.size HS8.out.ow (by omega))
              have hpl5 := putText_len n hn1
              go_wp2_with fail
              refine HP5.out.mono ?_
              rintro e w5 ⟨v5, rfl, ho5, hb5⟩
              obtain ⟨y5, hy5⟩ : ∃ y, y = y3 ++ putText n := ⟨_, rfl⟩
              rw [← hy5] at ho5
              have hyl5 : y5.length ≤ y3.length + (2147483653) := by rw [hy5, List.length_append]; omega
              clear hpl5
              have S5 := HS8.out.put hb5 ho5
              have K5 := HK8.out.below hb5 HK8.out.lt
              obtain ⟨A5, c5', rfl, -, -⟩ := Tab.own_slice ho5
              have HS5 := Lib.hid S5
              have HK5 := Lib.hid K5
              have HY5 := Lib.hid hy5
              have x50 : w5.cell? ⟨wr.heap.size, 0, none⟩ = some (.string n) := K5.cell 0
              have x51 : w5.cell? ⟨wr.heap.size, 1, none⟩ = some (.string vl) := K5.cell 1
              have x52 : w5.cell? ⟨wr.heap.size, 2, none⟩ = some (.bool false) := K5.cell 2
              have z50 : w5.cell? ⟨E, 0, none⟩ = some (.pointer (some ⟨g, 0, none⟩)) := S5.ke.cell 0
              clear ho5 hb5 S5 K5 HP5 hy5
              have HP6 := Lib.hid (puttext_any vl hv1 _ y5 w5 w.heap.size HS5.out.ow (by omega))
              have hpl6 := putText_len vl hv1
              go_wp2_with fail
              refine HP6.out.mono ?_
              rintro e w6 ⟨v6, rfl, ho6, hb6⟩
              obtain ⟨y6, hy6⟩ : ∃ y, y = y5 ++ putText vl := ⟨_, rfl⟩
              rw [← hy6] at ho6
              have hyl6 : y6.length ≤ y5.length + (2147483653) := by rw [hy6, List.length_append]; omega
              clear hpl6
              have S6 := HS5.out.put hb6 ho6
              have K6 := HK5.out.below hb6 HK5.out.lt
              obtain ⟨A6, c6', rfl, -, -⟩ := Tab.own_slice ho6
              have HS6 := Lib.hid S6
              have HK6 := Lib.hid K6
              have HY6 := Lib.hid hy6
              have x60 : w6.cell? ⟨wr.heap.size, 0, none⟩ = some (.string n) := K6.cell 0
              have x61 : w6.cell? ⟨wr.heap.size, 1, none⟩ = some (.string vl) := K6.cell 1
              have x62 : w6.cell? ⟨wr.heap.size, 2, none⟩ = some (.bool false) := K6.cell 2
              have z60 : w6.cell? ⟨E, 0, none⟩ = some (.pointer (some ⟨g, 0, none⟩)) := S6.ke.cell 0
              clear ho6 hb6 S6 K6 HP6 hy6
              have hone : y6 = ys ++ (putInt 64 6 (findR n vl Q).1 ++ ((if (findR n vl Q).1 = 0 then putText n else []) ++ putText vl)) := by rw [HY6.out, HY5.out, HY3.out, HI.out, if_pos (HI.out.symm.trans hiz), List.append_assoc, List.append_assoc]
              have HBN := Lib.hid (HB.out.step (one_new hwn hbig))
              rw [← hone] at HBN
              clear hone
              go_wp2_with fail
              go_roundw
              case rel => exact ⟨k + 1, (addQ m (n, vl) Q), y6, by go_num, by omega, HS6.out, HBN.out, by omega⟩
              case measure => simp [intOf]; omega
            · have hi0 : ((i : Int) == 0) = false := by simp; omega
              have HP6 := Lib.hid (puttext_any vl hv1 _ y3 w8 w.heap.size HS8.out.ow (by omega))
              have hpl6 := putText_len vl hv1
              go_wp2_with fail
              refine HP6.out.mono ?_
              rintro e w6 ⟨v6, rfl, ho6, hb6⟩
              obtain ⟨y6, hy6⟩ : ∃ y, y = y3 ++ putText vl := ⟨_, rfl⟩
              rw [← hy6] at ho6
              have hyl6 : y6.length ≤ y3.length + (2147483653) := by rw [hy6, List.length_append]; omega
              clear hpl6
              have S6 := HS8.out.put hb6 ho6
              have K6 := HK8.out.below hb6 HK8.out.lt
              obtain ⟨A6, c6', rfl, -, -⟩ := Tab.own_slice ho6
              have HS6 := Lib.hid S6
              have HK6 := Lib.hid K6
              have HY6 := Lib.hid hy6
              have x60 : w6.cell? ⟨wr.heap.size, 0, none⟩ = some (.string n) := K6.cell 0
              have x61 : w6.cell? ⟨wr.heap.size, 1, none⟩ = some (.string vl) := K6.cell 1
              have x62 : w6.cell? ⟨wr.heap.size, 2, none⟩ = some (.bool false) := K6.cell 2
              have z60 : w6.cell? ⟨E, 0, none⟩ = some (.pointer (some ⟨g, 0, none⟩)) := S6.ke.cell 0
              clear ho6 hb6 S6 K6 HP6 hy6
              have hone : y6 = ys ++ (putInt 64 6 (findR n vl Q).1 ++ ((if (findR n vl Q).1 = 0 then putText n else []) ++ putText vl)) := by rw [HY6.out, HY3.out, HI.out, if_neg (fun h => hiz (HI.out.trans h)), List.nil_append, List.append_assoc]
              have HBN := Lib.hid (HB.out.step (one_new hwn hbig))
              rw [← hone] at HBN
              clear hone
              go_wp2_with fail
              go_roundw
              case rel => exact ⟨k + 1, (addQ m (n, vl) Q), y6, by go_num, by omega, HS6.out, HBN.out, by omega⟩
              case measure => simp [intOf]; omega
    · have hkl : k = L.length := by omega
      have hd : decide ((k : Int) < (L.length : Int)) = false := decide_eq_false (by omega)
      rw [hkl, List.drop_length] at hbal
      have HE := Lib.hid (HFIN.out _ _ _ _ S hbal)
      clear S hbal
      go_wp2_with fail
      go_ret
      exact HE.out
end Go.Proofs.YtflmgjidnclegaaDoor.Hpk
