/-
  The walk of the document's encoder.
-/
import Derived.Test.YtflmgjidnclegaaDoorHpkROneM
import Derived.Test.YtflmgjidnclegaaDoorHpkLOwnM
namespace Go.Proofs.YtflmgjidnclegaaDoor.Hpk
open Go.RowKit
open Huff (bytesV bytesV_append)
open Tab (Hd hsz tot Hn RTbl RUpd shr addQ findR HnAt)
theorem RAt.cleared {w wr w' : World} {B X x r : Nat} {s : ES} {v : Value} {ys : List UInt8} (h : RAt w wr B X x r s v ys) (hl : X < w.heap.size) (hne : X ≠ x) (hw : w' = wr.setCell ⟨X, 1, none⟩ (.bool false)) : RAt w w' B X x r { s with asked := false } v ys := by
  subst hw
  have u : Upd3 wr (wr.setCell ⟨X, 1, none⟩ (.bool false)) (fun i => i = X) := (Upd3.refl wr (fun i => i = X)).setCell (p := ⟨X, 1, none⟩) (Or.inl rfl) _
  obtain ⟨l, k, e⟩ := h.kr.kx
  refine ⟨⟨⟨l, k.set_ 1 (.bool false), fun e => by cases e⟩, h.kr.kt.upd u (fun e => hne e.symm) (fun i e => by subst e; exact .inr (.inr (.inr ⟨_, _, k, by decide⟩)))⟩, h.up.trans u (fun i hi => Or.inl (Or.inl hi)), u.own h.ow (fun b hb e => ?_)⟩
  have := (h.ow.lt b hb).1
  omega
theorem RAt.set {w wr : World} {B X x r : Nat} {s s' : ES} {v : Value} {ys : List UInt8} (h : RAt w wr B X x r s v ys) (e : s = s') : RAt w wr B X x r s' v ys := e ▸ h
def REncodeEnd (w : World) (B X x r : Nat) (s : ES) (L : List Hn) (e : Ending) (w' : World) : Prop :=
  ∃ v, e = .returned v ∧ w'.ownsRow w.heap.size 5 1 v (encode s L).1.length (bytesV (encode s L).1) ∧ REnc w' B X x r (encode s L).2 ∧ Upd3 w w' (fun i => i = X ∨ i = x)
set_option maxRecDepth 100000 in
set_option maxHeartbeats 8000000 in
theorem rencode_any {w : World} {B X x r : Nat} {s : ES} {A : Option Addr} {L : List Hn} (cap : Nat) (h : REnc w B X x r s) (hr : r < w.heap.size) (hB : B ≤ w.heap.size) (hl : s.least ≤ 2147483647) (hA : HnAt w A L) (hAn : ∀ ad, A = some ad → 0 < L.length → ¬ (ad.block = X ∨ ad.block = x))
    (hzz : ∀ h ∈ L, hsz (h.1, h.2.1) ≤ 2147483647) (hlen : L.length ≤ 64) :
    Calls Tryd.prog 50 #[.pointer (some ⟨X, 0, none⟩), .slice A L.length cap] w (REncodeEnd w B X x r s L) := by
  obtain ⟨ii, hi, hi0, hi1, hi2⟩ := info_parts (P := Tryd.prog) (e := 5) (z := .int .u8 0) (size := 1) (bytes := 1) (by kernel_rfl)
  have HI := Lib.hid hi
  obtain ⟨Q0, m, least, asked⟩ := s
  have hXx := h.lt
  have hne := h.ne
  have hm : m ≤ 4096 := h.kt.hm
  have HA := Lib.hid hA
  have HAN := Lib.hid hAn
  have HZ := Lib.hid hzz
  obtain ⟨Bs, hBs⟩ : ∃ B, B = (encode ⟨Q0, m, least, asked⟩ L).1 := ⟨_, rfl⟩
  obtain ⟨QF, hQF⟩ : ∃ QF, QF = (many m Q0 L).2 := ⟨_, rfl⟩
  have HFIN : Hid (∀ (w' : World) (v : Value) (Q : List Hd) (ys : List UInt8), RAt w w' B X x r ⟨Q, m, least, false⟩ v ys → Bal m Bs QF Q ys [] → REncodeEnd w B X x r ⟨Q0, m, least, asked⟩ L (.returned v) w') := Lib.hid (by
    intro w' v Q ys S b
    obtain ⟨b1, b2⟩ := b
    have b2 : Q = QF := b2
    have b1 : ys ++ [] = Bs := b1
    rw [List.append_nil] at b1
    subst b1 b2
    refine ⟨v, rfl, by rw [← hBs]; exact S.ow, ?_, S.up⟩
    have := S.kr
    rw [hQF] at this
    exact this)
  have HBAL : Hid (Bal m Bs QF Q0 (sizes ⟨Q0, m, least, asked⟩) L) := Lib.hid ⟨by rw [hBs]; rfl, hQF.symm⟩
  obtain ⟨y0, hy0⟩ : ∃ y : List UInt8, y = [] := ⟨_, rfl⟩
  have hyl0 : y0.length ≤ 0 := by rw [hy0]; simp
  have H0 : RAt w w B X x r ⟨Q0, m, least, asked⟩ (.slice none 0 0) y0 := by rw [hy0]; exact ⟨h, Upd3.refl _ _, World.ownsRow_nil _ _ _ _⟩
  have HY0 := Lib.hid hy0
  obtain ⟨last, kx, hlast⟩ := h.kx
  have e1 : w.cell? ⟨X, 1, none⟩ = some (.bool asked) := kx.cell 1
  have e2 : w.cell? ⟨X, 2, none⟩ = some (.int .i64 (least : Int)) := kx.cell 2
  have e3 : w.cell? ⟨X, 3, none⟩ = some (.int .i64 last) := kx.cell 3
  have HS0 := Lib.hid H0
  have hwr : w.heap.size ≤ w.heap.size := Nat.le_refl _
  clear h hA hAn hzz hBs hQF H0 kx hi hy0
  go_enter Tryd.func50, Tryd.ntmps50
  cases asked with
  | false =>
    have HBL := HBAL
    rw [show sizes ⟨Q0, m, least, false⟩ = [] from rfl, ← HY0.out] at HBL
    clear HBAL
    go_wp2_with fail
    go_loopw [5, 6] (fun v i wr => ∃ (k : Nat) (Q : List Hd) (ys : List UInt8), i = .int .i64 (k : Int) ∧ k ≤ L.length ∧ RAt w wr B X x r ⟨Q, m, least, false⟩ v ys ∧ Bal m Bs QF Q ys (L.drop k) ∧ ys.length ≤ 64 + k * 8589934592) (fun _ i _ => L.length - (intOf i).toNat)
    case atStart => exact ⟨0, Q0, y0, rfl, Nat.zero_le _, HS0.out, HBL.out, by omega⟩
    case round =>
      clear HS0 HBL
      obtain ⟨k, Q, ys, rfl, hk, S, hbal, hyl⟩ := hrel
      obtain ⟨Ay, cy, rfl, -, -⟩ := Tab.own_slice S.ow
      by_cases hlt : k < L.length
      · obtain ⟨x0, hx⟩ : ∃ x, L[k]? = some x := ⟨_, List.getElem?_eq_getElem hlt⟩
        have hz0 := HZ.out x0 (List.mem_of_getElem? hx)
        obtain ⟨hn1, hv1⟩ : x0.1.size ≤ 2147483647 ∧ x0.2.1.size ≤ 2147483647 := by unfold hsz at hz0; simp only at hz0; omega
        have hdr : L.drop k = x0 :: L.drop (k + 1) := by
          rw [List.drop_eq_getElem_cons hlt]
          congr 1
          rw [List.getElem?_eq_getElem hlt] at hx
          exact Option.some.inj hx
        rw [hdr] at hbal
        obtain ⟨b, off, hAe, hbl, a0, a1, a2⟩ := HA.out k x0 hx
        have hnf := HAN.out _ hAe (by omega)
        subst hAe
        have c0 := S.up.cell a0 hnf
        have c1 := S.up.cell a1 hnf
        have c2 := S.up.cell a2 hnf
        obtain ⟨n, vl, nv⟩ := x0
        simp only at hn1 hv1 c0 c1 c2
        have hd : decide ((k : Int) < (L.length : Int)) = true := decide_eq_true (by omega)
        have hq : tot Q ≤ 4096 := S.kr.kt.ht
        have hws := S.up.size
        have HON := Lib.hid (rone_any S.kr (by omega) (by omega) n vl nv hn1 hv1)
        have hol := one_len m Q hq (n, vl, nv) hz0
        have HB := Lib.hid hbal
        have HS := Lib.hid S
        have HOL := Lib.hid hol
        clear S hbal hx hdr a0 a1 a2 hnf hol hq hz0
        go_wp2_with fail
        refine HON.out.mono ?_
        rintro e w2 ⟨v2, rfl, S2⟩
        simp only at S2
        obtain ⟨A2, c2', rfl, -, -⟩ := Tab.own_slice S2.ow
        obtain ⟨z, hz⟩ : ∃ z, z = (one m Q (n, vl, nv)).1 := ⟨_, rfl⟩
        obtain ⟨Q', hQ'⟩ : ∃ Q', Q' = (one m Q (n, vl, nv)).2 := ⟨_, rfl⟩
        rw [← hz, ← hQ'] at S2
        rw [← hz]
        have HBN := Lib.hid (HB.out.step (show one m Q (n, vl, nv) = (z, Q') by rw [hz, hQ']))
        have hzl : z.length ≤ 8589934592 := by
          have := HOL.out
          rw [← hz] at this
          unfold hsz at this
          simp only at this
          omega
        have S3 : RAt w w2 B X x r ⟨Q', m, least, false⟩ (.slice Ay ys.length cy) ys := ⟨S2.kr, HS.out.up.trans S2.up (fun i hi => Or.inl hi), S2.up.own HS.out.ow (fun b hb hi => by have := (HS.out.ow.lt b hb).1; omega)⟩
        have hs2 := S3.up.size
        have HS2 := Lib.hid S2
        have HS3 := Lib.hid S3
        clear HON S2 S3 HB HS HOL hz hQ' c0 c1 c2
        go_wp2_with (refine wpList_append_any _ rfl (.tmp 43) (.tmp 49) 66 rfl w.heap.size 5 ii (.int .u8 0) 1 1 Tryd.underlying66 HI.out hi0 hi1 hi2 rfl (by decide) _ _ _ rfl HS3.out.ow w2.heap.size A2 z.length c2' (bytesV z) rfl (Reads.of_own HS2.out.ow) (bytes_one _) (by unfold maxLen; omega) (by omega) hs2 ?_; intro v4 w4 ho4 hg4 hat4)
        have S4 := HS3.out.app hXx ho4 hg4
        obtain ⟨y, hy⟩ : ∃ y, y = ys ++ z := ⟨_, rfl⟩
        rw [← hy] at S4 HBN
        have hyl4 : y.length ≤ ys.length + 8589934592 := by rw [hy, List.length_append]; omega
        have HS4 := Lib.hid S4
        clear ho4 hg4 hat4 S4 hy HS2 HS3
        go_wp2_with fail
        go_roundw
        case rel => exact ⟨k + 1, Q', y, by go_num, by omega, HS4.out, HBN.out, by omega⟩
        case measure => simp [intOf]; omega
      · have hkl : k = L.length := by omega
        have hd : decide ((k : Int) < (L.length : Int)) = false := decide_eq_false (by omega)
        rw [hkl, List.drop_length] at hbal
        have HE := Lib.hid (HFIN.out _ _ _ _ S hbal)
        clear S hbal
        go_wp2_with fail
        go_ret
        exact HE.out
  | true =>
    have hl0 : last = (m : Int) := hlast rfl
    subst hl0
    go_wp2_with fail
    by_cases c : least < m
    · have hd0 : decide ((least : Int) < (m : Int)) = true := decide_eq_true (by omega)
      refine wp_region_in (Since w) (Since.drew0 w) (by kernel_rfl) (by kernel_rfl) ?_
      repeat (first
        | go_big_quiet_skip
        | (go_big_quiet_want; go_big_quiet_op; go_big_quiet_on)
        | (go_big_quiet_want; apply in_val; (· intro W hW; have d0 := hW.cell e2; have d1 := hW.cell e3; go_simp; first | done | rfl); simp only [Act.put, List.setIfInBounds_toArray, List.set_cons_zero, List.set_cons_succ]; go_big_quiet_on))
      refine wpQuiet_nil ?_
      intro W1 hW1
      have S1 := HS0.out.ext hW1
      obtain ⟨la1, ka1, -⟩ := S1.kr.kx
      have f2 : W1.cell? ⟨X, 2, none⟩ = some (.int .i64 (least : Int)) := ka1.cell 2
      have HS1 := Lib.hid S1
      clear hW1 S1 ka1 HS0
      have HP5 := Lib.hid (rputint_any 32 5 least (.inl ⟨rfl, rfl⟩) (by omega) W1)
      have hpl5 := putInt_len 32 5 least (by omega)
      go_wp2_with fail
      refine HP5.out.mono ?_
      rintro e u5 ⟨p5, rfl, hpo5, hpb5⟩
      obtain ⟨B5, d5, rfl, -, -⟩ := Tab.own_slice hpo5
      obtain ⟨q5, hq5⟩ : ∃ q, q = putInt 32 5 least := ⟨_, rfl⟩
      rw [← hq5] at hpo5 hpl5 ⊢
      have HT5 := Lib.hid (HS1.out.ext hpb5)
      have HO5 := Lib.hid hpo5
      have HQ5 := Lib.hid hq5
      have hsz5 := HT5.out.up.size
      clear HP5 hpo5 hpb5 hq5 HS1
      go_wp2_with (refine wpList_append_any _ rfl (.tmp 20) (.tmp 25) 66 rfl w.heap.size 5 ii (.int .u8 0) 1 1 Tryd.underlying66 HI.out hi0 hi1 hi2 rfl (by decide) _ _ _ rfl HT5.out.ow u5.heap.size B5 q5.length d5 (bytesV q5) rfl (Reads.of_own HO5.out) (bytes_one _) (by unfold maxLen; omega) (by omega) hsz5 ?_; intro v5 w5 ho5 hg5 hat5; have S5 := HT5.out.app hXx ho5 hg5; obtain ⟨la5, ka5, he5⟩ := S5.kr.kx; have ea5 : w5.cell? ⟨X, 1, none⟩ = some (.bool true) := ka5.cell 1; have hl5 : la5 = (m : Int) := he5 rfl; subst hl5; have eb5 : w5.cell? ⟨X, 3, none⟩ = some (.int .i64 (m : Int)) := ka5.cell 3; have ef5 := ka5.frozen 1; clear he5)
      obtain ⟨y5, hy5⟩ : ∃ y, y = y0 ++ q5 := ⟨_, rfl⟩
      rw [← hy5] at S5
      have hyl5 : y5.length ≤ y0.length + 6 := by rw [hy5, List.length_append]; omega
      obtain ⟨A5, c5', rfl, -, -⟩ := Tab.own_slice S5.ow
      have HS5 := Lib.hid S5
      have HY5 := Lib.hid hy5
      clear ho5 hg5 hat5 S5 hy5 HT5 ka5
      have HP6 := Lib.hid (rputint_any 32 5 m (.inl ⟨rfl, rfl⟩) (by omega) w5)
      have hpl6 := putInt_len 32 5 m (by omega)
      go_wp2_with fail
      refine HP6.out.mono ?_
      rintro e u6 ⟨p6, rfl, hpo6, hpb6⟩
      obtain ⟨B6, d6, rfl, -, -⟩ := Tab.own_slice hpo6
      obtain ⟨q6, hq6⟩ : ∃ q, q = putInt 32 5 m := ⟨_, rfl⟩
      rw [← hq6] at hpo6 hpl6 ⊢
      have HT6 := Lib.hid (HS5.out.ext hpb6)
      have HO6 := Lib.hid hpo6
      have HQ6 := Lib.hid hq6
      have hsz6 := HT6.out.up.size
      clear HP6 hpo6 hpb6 hq6 HS5
      go_wp2_with (refine wpList_append_any _ rfl (.tmp 27) (.tmp 32) 66 rfl w.heap.size 5 ii (.int .u8 0) 1 1 Tryd.underlying66 HI.out hi0 hi1 hi2 rfl (by decide) _ _ _ rfl HT6.out.ow u6.heap.size B6 q6.length d6 (bytesV q6) rfl (Reads.of_own HO6.out) (bytes_one _) (by unfold maxLen; omega) (by omega) hsz6 ?_; intro v6 w6 ho6 hg6 hat6; have S6 := HT6.out.app hXx ho6 hg6; obtain ⟨la6, ka6, he6⟩ := S6.kr.kx; have ea6 : w6.cell? ⟨X, 1, none⟩ = some (.bool true) := ka6.cell 1; have hl6 : la6 = (m : Int) := he6 rfl; subst hl6; have eb6 : w6.cell? ⟨X, 3, none⟩ = some (.int .i64 (m : Int)) := ka6.cell 3; have ef6 := ka6.frozen 1; clear he6)
      obtain ⟨y6, hy6⟩ : ∃ y, y = y5 ++ q6 := ⟨_, rfl⟩
      rw [← hy6] at S6
      have hyl6 : y6.length ≤ y5.length + 6 := by rw [hy6, List.length_append]; omega
      obtain ⟨A6, c6', rfl, -, -⟩ := Tab.own_slice S6.ow
      have HS6 := Lib.hid S6
      have HY6 := Lib.hid hy6
      clear ho6 hg6 hat6 S6 hy6 HT6 ka6
      have HSZ : Hid (sizes ⟨Q0, m, least, true⟩ = y6) := Lib.hid (by rw [HY6.out, HQ6.out, HY5.out, HQ5.out, HY0.out, List.nil_append]; show (if true = true then (if least < m then putInt 32 5 least else []) ++ putInt 32 5 m else []) = _; rw [if_pos rfl, if_pos c])
      go_wp2_with fail
      have HSC := Lib.hid (HS6.out.cleared hXx.1 hne rfl)
      have HBL := HBAL
      rw [HSZ.out] at HBL
      clear HBAL HS6 ea6 eb6 ef6 e1 e2 e3
      go_loopw [5, 6] (fun v i wr => ∃ (k : Nat) (Q : List Hd) (ys : List UInt8), i = .int .i64 (k : Int) ∧ k ≤ L.length ∧ RAt w wr B X x r ⟨Q, m, least, false⟩ v ys ∧ Bal m Bs QF Q ys (L.drop k) ∧ ys.length ≤ 64 + k * 8589934592) (fun _ i _ => L.length - (intOf i).toNat)
      case atStart => exact ⟨0, Q0, y6, rfl, Nat.zero_le _, HSC.out, HBL.out, by omega⟩
      case round =>
        clear HSC HBL
        obtain ⟨k, Q, ys, rfl, hk, S, hbal, hyl⟩ := hrel
        obtain ⟨Ay, cy, rfl, -, -⟩ := Tab.own_slice S.ow
        by_cases hlt : k < L.length
        · obtain ⟨x0, hx⟩ : ∃ x, L[k]? = some x := ⟨_, List.getElem?_eq_getElem hlt⟩
          have hz0 := HZ.out x0 (List.mem_of_getElem? hx)
          obtain ⟨hn1, hv1⟩ : x0.1.size ≤ 2147483647 ∧ x0.2.1.size ≤ 2147483647 := by unfold hsz at hz0; simp only at hz0; omega
          have hdr : L.drop k = x0 :: L.drop (k + 1) := by
            rw [List.drop_eq_getElem_cons hlt]
            congr 1
            rw [List.getElem?_eq_getElem hlt] at hx
            exact Option.some.inj hx
          rw [hdr] at hbal
          obtain ⟨b, off, hAe, hbl, a0, a1, a2⟩ := HA.out k x0 hx
          have hnf := HAN.out _ hAe (by omega)
          subst hAe
          have c0 := S.up.cell a0 hnf
          have c1 := S.up.cell a1 hnf
          have c2 := S.up.cell a2 hnf
          obtain ⟨n, vl, nv⟩ := x0
          simp only at hn1 hv1 c0 c1 c2
          have hd : decide ((k : Int) < (L.length : Int)) = true := decide_eq_true (by omega)
          have hq : tot Q ≤ 4096 := S.kr.kt.ht
          have hws := S.up.size
          have HON := Lib.hid (rone_any S.kr (by omega) (by omega) n vl nv hn1 hv1)
          have hol := one_len m Q hq (n, vl, nv) hz0
          have HB := Lib.hid hbal
          have HS := Lib.hid S
          have HOL := Lib.hid hol
          clear S hbal hx hdr a0 a1 a2 hnf hol hq hz0
          go_wp2_with fail
          refine HON.out.mono ?_
          rintro e w2 ⟨v2, rfl, S2⟩
          simp only at S2
          obtain ⟨A2, c2', rfl, -, -⟩ := Tab.own_slice S2.ow
          obtain ⟨z, hz⟩ : ∃ z, z = (one m Q (n, vl, nv)).1 := ⟨_, rfl⟩
          obtain ⟨Q', hQ'⟩ : ∃ Q', Q' = (one m Q (n, vl, nv)).2 := ⟨_, rfl⟩
          rw [← hz, ← hQ'] at S2
          rw [← hz]
          have HBN := Lib.hid (HB.out.step (show one m Q (n, vl, nv) = (z, Q') by rw [hz, hQ']))
          have hzl : z.length ≤ 8589934592 := by
            have := HOL.out
            rw [← hz] at this
            unfold hsz at this
            simp only at this
            omega
          have S3 : RAt w w2 B X x r ⟨Q', m, least, false⟩ (.slice Ay ys.length cy) ys := ⟨S2.kr, HS.out.up.trans S2.up (fun i hi => Or.inl hi), S2.up.own HS.out.ow (fun b hb hi => by have := (HS.out.ow.lt b hb).1; omega)⟩
          have hs2 := S3.up.size
          have HS2 := Lib.hid S2
          have HS3 := Lib.hid S3
          clear HON S2 S3 HB HS HOL hz hQ' c0 c1 c2
          go_wp2_with (refine wpList_append_any _ rfl (.tmp 43) (.tmp 49) 66 rfl w.heap.size 5 ii (.int .u8 0) 1 1 Tryd.underlying66 HI.out hi0 hi1 hi2 rfl (by decide) _ _ _ rfl HS3.out.ow w2.heap.size A2 z.length c2' (bytesV z) rfl (Reads.of_own HS2.out.ow) (bytes_one _) (by unfold maxLen; omega) (by omega) hs2 ?_; intro v4 w4 ho4 hg4 hat4)
          have S4 := HS3.out.app hXx ho4 hg4
          obtain ⟨y, hy⟩ : ∃ y, y = ys ++ z := ⟨_, rfl⟩
          rw [← hy] at S4 HBN
          have hyl4 : y.length ≤ ys.length + 8589934592 := by rw [hy, List.length_append]; omega
          have HS4 := Lib.hid S4
          clear ho4 hg4 hat4 S4 hy HS2 HS3
          go_wp2_with fail
          go_roundw
          case rel => exact ⟨k + 1, Q', y, by go_num, by omega, HS4.out, HBN.out, by omega⟩
          case measure => simp [intOf]; omega
        · have hkl : k = L.length := by omega
          have hd : decide ((k : Int) < (L.length : Int)) = false := decide_eq_false (by omega)
          rw [hkl, List.drop_length] at hbal
          have HE := Lib.hid (HFIN.out _ _ _ _ S hbal)
          clear S hbal
          go_wp2_with fail
          go_ret
          exact HE.out
    · have hd0 : decide ((least : Int) < (m : Int)) = false := decide_eq_false (by omega)
      refine wp_region_in (Since w) (Since.drew0 w) (by kernel_rfl) (by kernel_rfl) ?_
      repeat (first
        | go_big_quiet_skip
        | (go_big_quiet_want; go_big_quiet_op; go_big_quiet_on)
        | (go_big_quiet_want; apply in_val; (· intro W hW; have d0 := hW.cell e2; have d1 := hW.cell e3; go_simp; first | done | rfl); simp only [Act.put, List.setIfInBounds_toArray, List.set_cons_zero, List.set_cons_succ]; go_big_quiet_on))
      refine wpQuiet_nil ?_
      intro W1 hW1
      have S1 := HS0.out.ext hW1
      obtain ⟨la1, ka1, he1⟩ := S1.kr.kx
      have hl1 : la1 = (m : Int) := he1 rfl
      subst hl1
      have f3 : W1.cell? ⟨X, 3, none⟩ = some (.int .i64 (m : Int)) := ka1.cell 3
      have HS1 := Lib.hid S1
      clear hW1 S1 ka1 HS0 he1
      have HP6 := Lib.hid (rputint_any 32 5 m (.inl ⟨rfl, rfl⟩) (by omega) W1)
      have hpl6 := putInt_len 32 5 m (by omega)
      go_wp2_with fail
      refine HP6.out.mono ?_
      rintro e u6 ⟨p6, rfl, hpo6, hpb6⟩
      obtain ⟨B6, d6, rfl, -, -⟩ := Tab.own_slice hpo6
      obtain ⟨q6, hq6⟩ : ∃ q, q = putInt 32 5 m := ⟨_, rfl⟩
      rw [← hq6] at hpo6 hpl6 ⊢
      have HT6 := Lib.hid (HS1.out.ext hpb6)
      have HO6 := Lib.hid hpo6
      have HQ6 := Lib.hid hq6
      have hsz6 := HT6.out.up.size
      clear HP6 hpo6 hpb6 hq6 HS1
      go_wp2_with (refine wpList_append_any _ rfl (.tmp 27) (.tmp 32) 66 rfl w.heap.size 5 ii (.int .u8 0) 1 1 Tryd.underlying66 HI.out hi0 hi1 hi2 rfl (by decide) _ _ _ rfl HT6.out.ow u6.heap.size B6 q6.length d6 (bytesV q6) rfl (Reads.of_own HO6.out) (bytes_one _) (by unfold maxLen; omega) (by omega) hsz6 ?_; intro v6 w6 ho6 hg6 hat6; have S6 := HT6.out.app hXx ho6 hg6; obtain ⟨la6, ka6, he6⟩ := S6.kr.kx; have ea6 : w6.cell? ⟨X, 1, none⟩ = some (.bool true) := ka6.cell 1; have hl6 : la6 = (m : Int) := he6 rfl; subst hl6; have eb6 : w6.cell? ⟨X, 3, none⟩ = some (.int .i64 (m : Int)) := ka6.cell 3; have ef6 := ka6.frozen 1; clear he6)
      obtain ⟨y6, hy6⟩ : ∃ y, y = y0 ++ q6 := ⟨_, rfl⟩
      rw [← hy6] at S6
      have hyl6 : y6.length ≤ y0.length + 6 := by rw [hy6, List.length_append]; omega
      obtain ⟨A6, c6', rfl, -, -⟩ := Tab.own_slice S6.ow
      have HS6 := Lib.hid S6
      have HY6 := Lib.hid hy6
      clear ho6 hg6 hat6 S6 hy6 HT6 ka6
      have HSZ : Hid (sizes ⟨Q0, m, least, true⟩ = y6) := Lib.hid (by rw [HY6.out, HQ6.out, HY0.out, List.nil_append]; show (if true = true then (if least < m then putInt 32 5 least else []) ++ putInt 32 5 m else []) = _; rw [if_pos rfl, if_neg c, List.nil_append])
      go_wp2_with fail
      have HSC := Lib.hid (HS6.out.cleared hXx.1 hne rfl)
      have HBL := HBAL
      rw [HSZ.out] at HBL
      clear HBAL HS6 ea6 eb6 ef6 e1 e2 e3
      go_loopw [5, 6] (fun v i wr => ∃ (k : Nat) (Q : List Hd) (ys : List UInt8), i = .int .i64 (k : Int) ∧ k ≤ L.length ∧ RAt w wr B X x r ⟨Q, m, least, false⟩ v ys ∧ Bal m Bs QF Q ys (L.drop k) ∧ ys.length ≤ 64 + k * 8589934592) (fun _ i _ => L.length - (intOf i).toNat)
      case atStart => exact ⟨0, Q0, y6, rfl, Nat.zero_le _, HSC.out, HBL.out, by omega⟩
      case round =>
        clear HSC HBL
        obtain ⟨k, Q, ys, rfl, hk, S, hbal, hyl⟩ := hrel
        obtain ⟨Ay, cy, rfl, -, -⟩ := Tab.own_slice S.ow
        by_cases hlt : k < L.length
        · obtain ⟨x0, hx⟩ : ∃ x, L[k]? = some x := ⟨_, List.getElem?_eq_getElem hlt⟩
          have hz0 := HZ.out x0 (List.mem_of_getElem? hx)
          obtain ⟨hn1, hv1⟩ : x0.1.size ≤ 2147483647 ∧ x0.2.1.size ≤ 2147483647 := by unfold hsz at hz0; simp only at hz0; omega
          have hdr : L.drop k = x0 :: L.drop (k + 1) := by
            rw [List.drop_eq_getElem_cons hlt]
            congr 1
            rw [List.getElem?_eq_getElem hlt] at hx
            exact Option.some.inj hx
          rw [hdr] at hbal
          obtain ⟨b, off, hAe, hbl, a0, a1, a2⟩ := HA.out k x0 hx
          have hnf := HAN.out _ hAe (by omega)
          subst hAe
          have c0 := S.up.cell a0 hnf
          have c1 := S.up.cell a1 hnf
          have c2 := S.up.cell a2 hnf
          obtain ⟨n, vl, nv⟩ := x0
          simp only at hn1 hv1 c0 c1 c2
          have hd : decide ((k : Int) < (L.length : Int)) = true := decide_eq_true (by omega)
          have hq : tot Q ≤ 4096 := S.kr.kt.ht
          have hws := S.up.size
          have HON := Lib.hid (rone_any S.kr (by omega) (by omega) n vl nv hn1 hv1)
          have hol := one_len m Q hq (n, vl, nv) hz0
          have HB := Lib.hid hbal
          have HS := Lib.hid S
          have HOL := Lib.hid hol
          clear S hbal hx hdr a0 a1 a2 hnf hol hq hz0
          go_wp2_with fail
          refine HON.out.mono ?_
          rintro e w2 ⟨v2, rfl, S2⟩
          simp only at S2
          obtain ⟨A2, c2', rfl, -, -⟩ := Tab.own_slice S2.ow
          obtain ⟨z, hz⟩ : ∃ z, z = (one m Q (n, vl, nv)).1 := ⟨_, rfl⟩
          obtain ⟨Q', hQ'⟩ : ∃ Q', Q' = (one m Q (n, vl, nv)).2 := ⟨_, rfl⟩
          rw [← hz, ← hQ'] at S2
          rw [← hz]
          have HBN := Lib.hid (HB.out.step (show one m Q (n, vl, nv) = (z, Q') by rw [hz, hQ']))
          have hzl : z.length ≤ 8589934592 := by
            have := HOL.out
            rw [← hz] at this
            unfold hsz at this
            simp only at this
            omega
          have S3 : RAt w w2 B X x r ⟨Q', m, least, false⟩ (.slice Ay ys.length cy) ys := ⟨S2.kr, HS.out.up.trans S2.up (fun i hi => Or.inl hi), S2.up.own HS.out.ow (fun b hb hi => by have := (HS.out.ow.lt b hb).1; omega)⟩
          have hs2 := S3.up.size
          have HS2 := Lib.hid S2
          have HS3 := Lib.hid S3
          clear HON S2 S3 HB HS HOL hz hQ' c0 c1 c2
          go_wp2_with (refine wpList_append_any _ rfl (.tmp 43) (.tmp 49) 66 rfl w.heap.size 5 ii (.int .u8 0) 1 1 Tryd.underlying66 HI.out hi0 hi1 hi2 rfl (by decide) _ _ _ rfl HS3.out.ow w2.heap.size A2 z.length c2' (bytesV z) rfl (Reads.of_own HS2.out.ow) (bytes_one _) (by unfold maxLen; omega) (by omega) hs2 ?_; intro v4 w4 ho4 hg4 hat4)
          have S4 := HS3.out.app hXx ho4 hg4
          obtain ⟨y, hy⟩ : ∃ y, y = ys ++ z := ⟨_, rfl⟩
          rw [← hy] at S4 HBN
          have hyl4 : y.length ≤ ys.length + 8589934592 := by rw [hy, List.length_append]; omega
          have HS4 := Lib.hid S4
          clear ho4 hg4 hat4 S4 hy HS2 HS3
          go_wp2_with fail
          go_roundw
          case rel => exact ⟨k + 1, Q', y, by go_num, by omega, HS4.out, HBN.out, by omega⟩
          case measure => simp [intOf]; omega
        · have hkl : k = L.length := by omega
          have hd : decide ((k : Int) < (L.length : Int)) = false := decide_eq_false (by omega)
          rw [hkl, List.drop_length] at hbal
          have HE := Lib.hid (HFIN.out _ _ _ _ S hbal)
          clear S hbal
          go_wp2_with fail
          go_ret
          exact HE.out
end Go.Proofs.YtflmgjidnclegaaDoor.Hpk
