/-
  The walk of the document's encoder at one header.
-/
import Derived.Test.YtflmgjidnclegaaDoorHpkRefM
import Derived.Test.YtflmgjidnclegaaDoorEncodeM
namespace Go.Proofs.YtflmgjidnclegaaDoor.Hpk
open Go.RowKit
open Huff (bytesV bytesV_append)
open Tab (Hd hsz tot Hn RTbl RUpd shr addQ findR HnAt)
/-- what the document's encoder has written so far -/
structure RAt (w wr : World) (B X x r : Nat) (s : ES) (v : Value) (ys : List UInt8) : Prop where
  kr : REnc wr B X x r s
  up : Upd3 w wr (fun i => i = X ∨ i = x)
  ow : wr.ownsRow w.heap.size 5 1 v ys.length (bytesV ys)
section
variable {w wr w' : World} {B X x r : Nat} {s : ES} {v v' : Value} {ys zs : List UInt8}
theorem RAt.ext (h : RAt w wr B X x r s v ys) (hb : Below wr.heap.size wr w') : RAt w w' B X x r s v ys := ⟨h.kr.below hb, h.up.since hb, own_in h.ow hb⟩
theorem RAt.app (h : RAt w wr B X x r s v ys) (hl : X < w.heap.size ∧ x < w.heap.size) (ho : w'.ownsRow w.heap.size 5 1 v' (ys.length + zs.length) (bytesV ys ++ bytesV zs)) (hg : wr.grownBy w' v.ownBlock) : RAt w w' B X x r s v' (ys ++ zs) :=
  ⟨h.kr.grown h.ow hl.1 hl.2 hg, h.up.grown hg (fun b hb => Or.inr (h.ow.lt b hb).1), by rw [bytesV_append, List.length_append]; exact ho⟩
theorem RAt.fresh (h : REnc wr B X x r s) (hu : Upd3 w wr (fun i => i = X ∨ i = x)) (hb : Below wr.heap.size wr w') (ho : w'.ownsRow wr.heap.size 5 1 v ys.length (bytesV ys)) : RAt w w' B X x r s v ys :=
  ⟨h.below hb, hu.since hb, own_low ho hu.size⟩
theorem RAt.added (h : RAt w wr B X x r s v ys) (hl : x < w.heap.size) (hne : X ≠ x) {Q : List Hd} (ht : RTbl w' B x r Q s.m) (u : Upd3 wr w' (fun i => i = x)) : RAt w w' B X x r { s with Q := Q } v ys := by
  obtain ⟨l, k, e⟩ := h.kr.kx
  refine ⟨⟨⟨l, u.blk k hne, e⟩, ht⟩, h.up.trans u (fun i hi => Or.inl (Or.inr hi)), u.own h.ow (fun b hb e => ?_)⟩
  have := (h.ow.lt b hb).1
  omega
end
def OneEnd (w : World) (B X x r : Nat) (s : ES) (h : Hn) (e : Ending) (w' : World) : Prop :=
  ∃ v, e = .returned v ∧ RAt w w' B X x r { s with Q := (one s.m s.Q h).2 } v (one s.m s.Q h).1
theorem one_end {w w' : World} {B X x r : Nat} {s : ES} {h : Hn} {v : Value} {ys : List UInt8} {Q : List Hd} (S : RAt w w' B X x r { s with Q := Q } v ys) (e : one s.m s.Q h = (ys, Q)) : OneEnd w B X x r s h (.returned v) w' := by
  refine ⟨v, rfl, ?_⟩
  rw [e]
  exact S
set_option maxRecDepth 100000 in
set_option maxHeartbeats 8000000 in
theorem rone_any {w : World} {B X x r : Nat} {s : ES} (h : REnc w B X x r s) (hr : r < w.heap.size) (hB : B ≤ w.heap.size) (n vl : ByteArray) (nv : Bool) (hn1 : n.size ≤ 2147483647) (hv1 : vl.size ≤ 2147483647) :
    Calls Tryd.prog 72 #[.pointer (some ⟨X, 0, none⟩), .agg #[.string n, .string vl, .bool nv]] w (OneEnd w B X x r s (n, vl, nv)) := by
  obtain ⟨ii, hi, hi0, hi1, hi2⟩ := info_parts (P := Tryd.prog) (e := 5) (z := .int .u8 0) (size := 1) (bytes := 1) (by kernel_rfl)
  have HI := Lib.hid hi
  obtain ⟨Q, m, least, asked⟩ := s
  have hXx := h.lt
  have hne := h.ne
  have hq : tot Q ≤ 4096 := h.kt.ht
  have hm : m ≤ 4096 := h.kt.hm
  have hfl := findR_le n vl Q
  have hql := Tab.tot_len Q
  obtain ⟨i, hi'⟩ : ∃ i, i = (findR n vl Q).1 := ⟨_, rfl⟩
  rw [← hi'] at hfl
  have hi31 : i ≤ 2147483647 := by omega
  have HIQ := Lib.hid hi'
  have hBa : Below w.heap.size w (w.alloc (.cells #[.string n, .string vl, .bool nv] 23)) := (Below.refl _ _).alloc (Nat.le_refl _) _
  have h1 := h.below hBa
  have K1 := Blk.new w 23 #[.string n, .string vl, .bool nv]
  have hU1 : Upd3 w (w.alloc (.cells #[.string n, .string vl, .bool nv] 23)) (fun i => i = X ∨ i = x) := Upd3.of_below hBa _
  obtain ⟨l1, kx1, -⟩ := h1.kx
  obtain ⟨At, ct, kt1, -⟩ := h1.kt.kx
  have e0 : (w.alloc (.cells #[.string n, .string vl, .bool nv] 23)).cell? ⟨X, 0, none⟩ = some (.pointer (some ⟨x, 0, none⟩)) := kx1.cell 0
  have e1 : (w.alloc (.cells #[.string n, .string vl, .bool nv] 23)).cell? ⟨x, 1, none⟩ = some (.int .i64 (m : Int)) := kt1.cell 1
  have k0 : (w.alloc (.cells #[.string n, .string vl, .bool nv] 23)).cell? ⟨w.heap.size, 0, none⟩ = some (.string n) := K1.cell 0
  have k1 : (w.alloc (.cells #[.string n, .string vl, .bool nv] 23)).cell? ⟨w.heap.size, 1, none⟩ = some (.string vl) := K1.cell 1
  have k2 : (w.alloc (.cells #[.string n, .string vl, .bool nv] 23)).cell? ⟨w.heap.size, 2, none⟩ = some (.bool nv) := K1.cell 2
  have HF : Hid (∀ W, Since (w.alloc (.cells #[.string n, .string vl, .bool nv] 23)) W → ∀ wh, wh = (findR n vl Q).2 → Calls Tryd.prog 31 #[.pointer (some ⟨x, 0, none⟩), .string n, .string vl] W fun e w' => e = .returned (.tuple #[.int .i64 (i : Int), .bool wh]) ∧ Below W.heap.size W w') := Lib.hid (by
    rintro W hW wh rfl
    refine (Tab.rfind_any (h1.kt.below hW) n vl).mono ?_
    rintro e w' ⟨rfl, hb⟩
    exact ⟨by rw [hi'], hb⟩)
  have HR1 := Lib.hid h1
  have HK1 := Lib.hid K1
  have HU1 := Lib.hid hU1
  have hszb : hsz (n, vl) ≤ 4611686018427387904 := by unfold hsz; simp only; omega
  have hrw : r < w.heap.size + 1 := by omega
  clear h h1 K1 hU1 kx1 kt1 hi hi' hfl hql hBa
  go_enter Tryd.func72, Tryd.ntmps72
  go_wp2_with fail
  generalize hw1 : w.alloc (.cells #[.string n, .string vl, .bool nv] 23) = w1 at *
  by_cases hwh : (findR n vl Q).2 = true
  · cases nv with
    | false =>
      have HF1 := Lib.hid (fun W hW => HF.out W hW true hwh.symm)
      clear HF
      refine wp_region_in (Since w1) (Since.drew0 w1) (by kernel_rfl) (by kernel_rfl) ?_
      repeat (first
        | go_big_quiet_skip
        | (go_big_quiet_want; go_big_quiet_op; go_big_quiet_on)
        | (go_big_quiet_want; apply in_val; (· intro W hW; have d0 := hW.cell e0; have d1 := hW.cell k0; have d2 := hW.cell k1; have d3 := hW.cell k2; go_simp; first | done | rfl); simp only [Act.put, List.setIfInBounds_toArray, List.set_cons_zero, List.set_cons_succ]; go_big_quiet_on)
        | (go_big_quiet_want; apply in_q; (· intro W hW; go_simp; (go_at_call 31; with_reducible exact hW.call (HF1.out W hW))); simp only [Act.put, List.setIfInBounds_toArray, List.set_cons_zero, List.set_cons_succ]; go_big_quiet_on))
      refine wpQuiet_nil ?_
      intro w2 hW2
      have R2 := HR1.out.below hW2
      have K2 := HK1.out.below hW2 HK1.out.lt
      have U2 := HU1.out.since hW2
      obtain ⟨l2, kx2, -⟩ := R2.kx
      obtain ⟨At2, ct2, kt2, -⟩ := R2.kt.kx
      have q0 : w2.cell? ⟨w.heap.size, 0, none⟩ = some (.string n) := K2.cell 0
      have q1 : w2.cell? ⟨w.heap.size, 1, none⟩ = some (.string vl) := K2.cell 1
      have q2 : w2.cell? ⟨w.heap.size, 2, none⟩ = some (.bool false) := K2.cell 2
      have qe : w2.cell? ⟨X, 0, none⟩ = some (.pointer (some ⟨x, 0, none⟩)) := kx2.cell 0
      have qm : w2.cell? ⟨x, 1, none⟩ = some (.int .i64 (m : Int)) := kt2.cell 1
      have HR2 := Lib.hid R2
      have HK2 := Lib.hid K2
      have HU2 := Lib.hid U2
      clear hW2 R2 K2 U2 HR1 HK1 HU1 HF1 e0 e1 k0 k1 k2 kx2 kt2
      have HP3 := Lib.hid (rputint_any 128 7 i (.inr (.inl ⟨rfl, rfl⟩)) hi31 w2)
      have hpl3 := putInt_len 128 7 i hi31
      go_wp2_with fail
      refine HP3.out.mono ?_
      rintro e w3 ⟨v3, rfl, ho3, hb3⟩
      obtain ⟨y3, hy3⟩ : ∃ y, y = putInt 128 7 i := ⟨_, rfl⟩
      rw [← hy3] at ho3 hpl3
      have S3 := RAt.fresh HR2.out HU2.out hb3 ho3
      have K3 := HK2.out.below hb3 HK2.out.lt
      obtain ⟨A3, c3', rfl, -, -⟩ := Tab.own_slice ho3
      have HS3 := Lib.hid S3
      have HK3 := Lib.hid K3
      have HY3 := Lib.hid hy3
      obtain ⟨l3, kx3, -⟩ := S3.kr.kx
      have x30 : w3.cell? ⟨w.heap.size, 0, none⟩ = some (.string n) := K3.cell 0
      have x31 : w3.cell? ⟨w.heap.size, 1, none⟩ = some (.string vl) := K3.cell 1
      have x32 : w3.cell? ⟨w.heap.size, 2, none⟩ = some (.bool false) := K3.cell 2
      have z30 : w3.cell? ⟨X, 0, none⟩ = some (.pointer (some ⟨x, 0, none⟩)) := kx3.cell 0
      clear ho3 hb3 S3 K3 HP3 hy3 kx3
      go_wp2_with fail
      go_ret
      refine one_end HS3.out (show one m Q (n, vl, false) = (y3, Q) from ?_)
      rw [one_hit hwh, HY3.out, HIQ.out]
    | true =>
      have HF1 := Lib.hid (fun W hW => HF.out W hW true hwh.symm)
      clear HF
      refine wp_region_in (Since w1) (Since.drew0 w1) (by kernel_rfl) (by kernel_rfl) ?_
      repeat (first
        | go_big_quiet_skip
        | (go_big_quiet_want; go_big_quiet_op; go_big_quiet_on)
        | (go_big_quiet_want; apply in_val; (· intro W hW; have d0 := hW.cell e0; have d1 := hW.cell k0; have d2 := hW.cell k1; have d3 := hW.cell k2; go_simp; first | done | rfl); simp only [Act.put, List.setIfInBounds_toArray, List.set_cons_zero, List.set_cons_succ]; go_big_quiet_on)
        | (go_big_quiet_want; apply in_q; (· intro W hW; go_simp; (go_at_call 31; with_reducible exact hW.call (HF1.out W hW))); simp only [Act.put, List.setIfInBounds_toArray, List.set_cons_zero, List.set_cons_succ]; go_big_quiet_on))
      refine wpQuiet_nil ?_
      intro w2 hW2
      have R2 := HR1.out.below hW2
      have K2 := HK1.out.below hW2 HK1.out.lt
      have U2 := HU1.out.since hW2
      obtain ⟨l2, kx2, -⟩ := R2.kx
      obtain ⟨At2, ct2, kt2, -⟩ := R2.kt.kx
      have q0 : w2.cell? ⟨w.heap.size, 0, none⟩ = some (.string n) := K2.cell 0
      have q1 : w2.cell? ⟨w.heap.size, 1, none⟩ = some (.string vl) := K2.cell 1
      have q2 : w2.cell? ⟨w.heap.size, 2, none⟩ = some (.bool true) := K2.cell 2
      have qe : w2.cell? ⟨X, 0, none⟩ = some (.pointer (some ⟨x, 0, none⟩)) := kx2.cell 0
      have qm : w2.cell? ⟨x, 1, none⟩ = some (.int .i64 (m : Int)) := kt2.cell 1
      have HR2 := Lib.hid R2
      have HK2 := Lib.hid K2
      have HU2 := Lib.hid U2
      clear hW2 R2 K2 U2 HR1 HK1 HU1 HF1 e0 e1 k0 k1 k2 kx2 kt2
      have HP3 := Lib.hid (rputint_any 16 4 i (.inr (.inr (.inl ⟨rfl, rfl⟩))) hi31 w2)
      have hpl3 := putInt_len 16 4 i hi31
      go_wp2_with fail
      refine HP3.out.mono ?_
      rintro e w3 ⟨v3, rfl, ho3, hb3⟩
      obtain ⟨y3, hy3⟩ : ∃ y, y = putInt 16 4 i := ⟨_, rfl⟩
      rw [← hy3] at ho3 hpl3
      have S3 := RAt.fresh HR2.out HU2.out hb3 ho3
      have K3 := HK2.out.below hb3 HK2.out.lt
      obtain ⟨A3, c3', rfl, -, -⟩ := Tab.own_slice ho3
      have HS3 := Lib.hid S3
      have HK3 := Lib.hid K3
      have HY3 := Lib.hid hy3
      obtain ⟨l3, kx3, -⟩ := S3.kr.kx
      have x30 : w3.cell? ⟨w.heap.size, 0, none⟩ = some (.string n) := K3.cell 0
      have x31 : w3.cell? ⟨w.heap.size, 1, none⟩ = some (.string vl) := K3.cell 1
      have x32 : w3.cell? ⟨w.heap.size, 2, none⟩ = some (.bool true) := K3.cell 2
      have z30 : w3.cell? ⟨X, 0, none⟩ = some (.pointer (some ⟨x, 0, none⟩)) := kx3.cell 0
      clear ho3 hb3 S3 K3 HP3 hy3 kx3
      by_cases hiz : i = 0
      · have hi0' : ((i : Int) == 0) = true := by simp; omega
        have HP5 := Lib.hid (rputtext_any n hn1 w3)
        have hpl5 := putText_len n hn1
        go_wp2_with fail
        refine HP5.out.mono ?_
        rintro e u5 ⟨p5, rfl, hpo5, hpb5⟩
        obtain ⟨B5, d5, rfl, -, -⟩ := Tab.own_slice hpo5
        obtain ⟨q5, hq5⟩ : ∃ q, q = putText n := ⟨_, rfl⟩
        rw [← hq5] at hpo5 hpl5 ⊢
        have HT5 := Lib.hid (HS3.out.ext hpb5)
        have HL5 := Lib.hid (HK3.out.below hpb5 HK3.out.lt)
        have HO5 := Lib.hid hpo5
        have HQ5 := Lib.hid hq5
        have hsz5 := HT5.out.up.size
        clear HP5 hpo5 hpb5 hq5 HS3 HK3
        go_wp2_with (refine wpList_append_any _ rfl (.tmp 56) (.tmp 59) 66 rfl w.heap.size 5 ii (.int .u8 0) 1 1 Tryd.underlying66 HI.out hi0 hi1 hi2 rfl (by decide) _ _ _ rfl HT5.out.ow u5.heap.size B5 q5.length d5 (bytesV q5) rfl (Reads.of_own HO5.out) (bytes_one _) (by unfold maxLen; omega) (by omega) hsz5 ?_; intro v5 w5 ho5 hg5 hat5; have K5 := HL5.out.grown hg5 (fun e => own_blk_ne HT5.out.ow HL5.out (by decide) e.symm); have x50 : w5.cell? ⟨w.heap.size, 0, none⟩ = some (.string n) := K5.cell 0; have x51 : w5.cell? ⟨w.heap.size, 1, none⟩ = some (.string vl) := K5.cell 1)
        obtain ⟨y5, hy5⟩ : ∃ y, y = y3 ++ q5 := ⟨_, rfl⟩
        have S5 := HT5.out.app hXx ho5 hg5
        rw [← hy5] at S5
        have hyl5 : y5.length ≤ y3.length + 2147483653 := by rw [hy5, List.length_append]; omega
        obtain ⟨A5, c5', rfl, -, -⟩ := Tab.own_slice S5.ow
        have HS5 := Lib.hid S5
        have HK5 := Lib.hid K5
        have HY5 := Lib.hid hy5
        clear ho5 hg5 hat5 S5 K5 hy5 HT5 HL5
        have HP6 := Lib.hid (rputtext_any vl hv1 w5)
        have hpl6 := putText_len vl hv1
        go_wp2_with fail
        refine HP6.out.mono ?_
        rintro e u6 ⟨p6, rfl, hpo6, hpb6⟩
        obtain ⟨B6, d6, rfl, -, -⟩ := Tab.own_slice hpo6
        obtain ⟨q6, hq6⟩ : ∃ q, q = putText vl := ⟨_, rfl⟩
        rw [← hq6] at hpo6 hpl6 ⊢
        have HT6 := Lib.hid (HS5.out.ext hpb6)
        have HL6 := Lib.hid (HK5.out.below hpb6 HK5.out.lt)
        have HO6 := Lib.hid hpo6
        have HQ6 := Lib.hid hq6
        have hsz6 := HT6.out.up.size
        clear HP6 hpo6 hpb6 hq6 HS5 HK5
        go_wp2_with (refine wpList_append_any _ rfl (.tmp 61) (.tmp 64) 66 rfl w.heap.size 5 ii (.int .u8 0) 1 1 Tryd.underlying66 HI.out hi0 hi1 hi2 rfl (by decide) _ _ _ rfl HT6.out.ow u6.heap.size B6 q6.length d6 (bytesV q6) rfl (Reads.of_own HO6.out) (bytes_one _) (by unfold maxLen; omega) (by omega) hsz6 ?_; intro v6 w6 ho6 hg6 hat6; have K6 := HL6.out.grown hg6 (fun e => own_blk_ne HT6.out.ow HL6.out (by decide) e.symm); have x60 : w6.cell? ⟨w.heap.size, 0, none⟩ = some (.string n) := K6.cell 0; have x61 : w6.cell? ⟨w.heap.size, 1, none⟩ = some (.string vl) := K6.cell 1)
        obtain ⟨y6, hy6⟩ : ∃ y, y = y5 ++ q6 := ⟨_, rfl⟩
        have S6 := HT6.out.app hXx ho6 hg6
        rw [← hy6] at S6
        have hyl6 : y6.length ≤ y5.length + 2147483653 := by rw [hy6, List.length_append]; omega
        obtain ⟨A6, c6', rfl, -, -⟩ := Tab.own_slice S6.ow
        have HS6 := Lib.hid S6
        have HK6 := Lib.hid K6
        have HY6 := Lib.hid hy6
        clear ho6 hg6 hat6 S6 K6 hy6 HT6 HL6
        go_wp2_with fail
        go_ret
        refine one_end HS6.out (show one m Q (n, vl, true) = (y6, Q) from ?_)
        rw [one_nev, HY6.out, HQ6.out, HY5.out, HQ5.out, HY3.out, HIQ.out, if_pos (HIQ.out.symm.trans hiz), List.append_assoc]
      · have hi0' : ((i : Int) == 0) = false := by simp; omega
        have HP6 := Lib.hid (rputtext_any vl hv1 w3)
        have hpl6 := putText_len vl hv1
        go_wp2_with fail
        refine HP6.out.mono ?_
        rintro e u6 ⟨p6, rfl, hpo6, hpb6⟩
        obtain ⟨B6, d6, rfl, -, -⟩ := Tab.own_slice hpo6
        obtain ⟨q6, hq6⟩ : ∃ q, q = putText vl := ⟨_, rfl⟩
        rw [← hq6] at hpo6 hpl6 ⊢
        have HT6 := Lib.hid (HS3.out.ext hpb6)
        have HL6 := Lib.hid (HK3.out.below hpb6 HK3.out.lt)
        have HO6 := Lib.hid hpo6
        have HQ6 := Lib.hid hq6
        have hsz6 := HT6.out.up.size
        clear HP6 hpo6 hpb6 hq6 HS3 HK3
        go_wp2_with (refine wpList_append_any _ rfl (.tmp 61) (.tmp 64) 66 rfl w.heap.size 5 ii (.int .u8 0) 1 1 Tryd.underlying66 HI.out hi0 hi1 hi2 rfl (by decide) _ _ _ rfl HT6.out.ow u6.heap.size B6 q6.length d6 (bytesV q6) rfl (Reads.of_own HO6.out) (bytes_one _) (by unfold maxLen; omega) (by omega) hsz6 ?_; intro v6 w6 ho6 hg6 hat6; have K6 := HL6.out.grown hg6 (fun e => own_blk_ne HT6.out.ow HL6.out (by decide) e.symm); have x60 : w6.cell? ⟨w.heap.size, 0, none⟩ = some (.string n) := K6.cell 0; have x61 : w6.cell? ⟨w.heap.size, 1, none⟩ = some (.string vl) := K6.cell 1)
        obtain ⟨y6, hy6⟩ : ∃ y, y = y3 ++ q6 := ⟨_, rfl⟩
        have S6 := HT6.out.app hXx ho6 hg6
        rw [← hy6] at S6
        have hyl6 : y6.length ≤ y3.length + 2147483653 := by rw [hy6, List.length_append]; omega
        obtain ⟨A6, c6', rfl, -, -⟩ := Tab.own_slice S6.ow
        have HS6 := Lib.hid S6
        have HK6 := Lib.hid K6
        have HY6 := Lib.hid hy6
        clear ho6 hg6 hat6 S6 K6 hy6 HT6 HL6
        go_wp2_with fail
        go_ret
        refine one_end HS6.out (show one m Q (n, vl, true) = (y6, Q) from ?_)
        rw [one_nev, HY6.out, HQ6.out, HY3.out, HIQ.out, if_neg (fun h => hiz (HIQ.out.trans h)), List.nil_append]
  · have hwn := hwh
    have hwh : (findR n vl Q).2 = false := by simpa using hwn
    cases nv with
    | true =>
      have HF1 := Lib.hid (fun W hW => HF.out W hW false hwh.symm)
      clear HF
      refine wp_region_in (Since w1) (Since.drew0 w1) (by kernel_rfl) (by kernel_rfl) ?_
      repeat (first
        | go_big_quiet_skip
        | (go_big_quiet_want; go_big_quiet_op; go_big_quiet_on)
        | (go_big_quiet_want; apply in_val; (· intro W hW; have d0 := hW.cell e0; have d1 := hW.cell k0; have d2 := hW.cell k1; have d3 := hW.cell k2; go_simp; first | done | rfl); simp only [Act.put, List.setIfInBounds_toArray, List.set_cons_zero, List.set_cons_succ]; go_big_quiet_on)
        | (go_big_quiet_want; apply in_q; (· intro W hW; go_simp; (go_at_call 31; with_reducible exact hW.call (HF1.out W hW))); simp only [Act.put, List.setIfInBounds_toArray, List.set_cons_zero, List.set_cons_succ]; go_big_quiet_on))
      refine wpQuiet_nil ?_
      intro w2 hW2
      have R2 := HR1.out.below hW2
      have K2 := HK1.out.below hW2 HK1.out.lt
      have U2 := HU1.out.since hW2
      obtain ⟨l2, kx2, -⟩ := R2.kx
      obtain ⟨At2, ct2, kt2, -⟩ := R2.kt.kx
      have q0 : w2.cell? ⟨w.heap.size, 0, none⟩ = some (.string n) := K2.cell 0
      have q1 : w2.cell? ⟨w.heap.size, 1, none⟩ = some (.string vl) := K2.cell 1
      have q2 : w2.cell? ⟨w.heap.size, 2, none⟩ = some (.bool true) := K2.cell 2
      have qe : w2.cell? ⟨X, 0, none⟩ = some (.pointer (some ⟨x, 0, none⟩)) := kx2.cell 0
      have qm : w2.cell? ⟨x, 1, none⟩ = some (.int .i64 (m : Int)) := kt2.cell 1
      have HR2 := Lib.hid R2
      have HK2 := Lib.hid K2
      have HU2 := Lib.hid U2
      clear hW2 R2 K2 U2 HR1 HK1 HU1 HF1 e0 e1 k0 k1 k2 kx2 kt2
      have HP3 := Lib.hid (rputint_any 16 4 i (.inr (.inr (.inl ⟨rfl, rfl⟩))) hi31 w2)
      have hpl3 := putInt_len 16 4 i hi31
      go_wp2_with fail
      refine HP3.out.mono ?_
      rintro e w3 ⟨v3, rfl, ho3, hb3⟩
      obtain ⟨y3, hy3⟩ : ∃ y, y = putInt 16 4 i := ⟨_, rfl⟩
      rw [← hy3] at ho3 hpl3
      have S3 := RAt.fresh HR2.out HU2.out hb3 ho3
      have K3 := HK2.out.below hb3 HK2.out.lt
      obtain ⟨A3, c3', rfl, -, -⟩ := Tab.own_slice ho3
      have HS3 := Lib.hid S3
      have HK3 := Lib.hid K3
      have HY3 := Lib.hid hy3
      obtain ⟨l3, kx3, -⟩ := S3.kr.kx
      have x30 : w3.cell? ⟨w.heap.size, 0, none⟩ = some (.string n) := K3.cell 0
      have x31 : w3.cell? ⟨w.heap.size, 1, none⟩ = some (.string vl) := K3.cell 1
      have x32 : w3.cell? ⟨w.heap.size, 2, none⟩ = some (.bool true) := K3.cell 2
      have z30 : w3.cell? ⟨X, 0, none⟩ = some (.pointer (some ⟨x, 0, none⟩)) := kx3.cell 0
      clear ho3 hb3 S3 K3 HP3 hy3 kx3
      by_cases hiz : i = 0
      · have hi0' : ((i : Int) == 0) = true := by simp; omega
        have HP5 := Lib.hid (rputtext_any n hn1 w3)
        have hpl5 := putText_len n hn1
        go_wp2_with fail
        refine HP5.out.mono ?_
        rintro e u5 ⟨p5, rfl, hpo5, hpb5⟩
        obtain ⟨B5, d5, rfl, -, -⟩ := Tab.own_slice hpo5
        obtain ⟨q5, hq5⟩ : ∃ q, q = putText n := ⟨_, rfl⟩
        rw [← hq5] at hpo5 hpl5 ⊢
        have HT5 := Lib.hid (HS3.out.ext hpb5)
        have HL5 := Lib.hid (HK3.out.below hpb5 HK3.out.lt)
        have HO5 := Lib.hid hpo5
        have HQ5 := Lib.hid hq5
        have hsz5 := HT5.out.up.size
        clear HP5 hpo5 hpb5 hq5 HS3 HK3
        go_wp2_with (refine wpList_append_any _ rfl (.tmp 56) (.tmp 59) 66 rfl w.heap.size 5 ii (.int .u8 0) 1 1 Tryd.underlying66 HI.out hi0 hi1 hi2 rfl (by decide) _ _ _ rfl HT5.out.ow u5.heap.size B5 q5.length d5 (bytesV q5) rfl (Reads.of_own HO5.out) (bytes_one _) (by unfold maxLen; omega) (by omega) hsz5 ?_; intro v5 w5 ho5 hg5 hat5; have K5 := HL5.out.grown hg5 (fun e => own_blk_ne HT5.out.ow HL5.out (by decide) e.symm); have x50 : w5.cell? ⟨w.heap.size, 0, none⟩ = some (.string n) := K5.cell 0; have x51 : w5.cell? ⟨w.heap.size, 1, none⟩ = some (.string vl) := K5.cell 1)
        obtain ⟨y5, hy5⟩ : ∃ y, y = y3 ++ q5 := ⟨_, rfl⟩
        have S5 := HT5.out.app hXx ho5 hg5
        rw [← hy5] at S5
        have hyl5 : y5.length ≤ y3.length + 2147483653 := by rw [hy5, List.length_append]; omega
        obtain ⟨A5, c5', rfl, -, -⟩ := Tab.own_slice S5.ow
        have HS5 := Lib.hid S5
        have HK5 := Lib.hid K5
        have HY5 := Lib.hid hy5
        clear ho5 hg5 hat5 S5 K5 hy5 HT5 HL5
        have HP6 := Lib.hid (rputtext_any vl hv1 w5)
        have hpl6 := putText_len vl hv1
        go_wp2_with fail
        refine HP6.out.mono ?_
        rintro e u6 ⟨p6, rfl, hpo6, hpb6⟩
        obtain ⟨B6, d6, rfl, -, -⟩ := Tab.own_slice hpo6
        obtain ⟨q6, hq6⟩ : ∃ q, q = putText vl := ⟨_, rfl⟩
        rw [← hq6] at hpo6 hpl6 ⊢
        have HT6 := Lib.hid (HS5.out.ext hpb6)
        have HL6 := Lib.hid (HK5.out.below hpb6 HK5.out.lt)
        have HO6 := Lib.hid hpo6
        have HQ6 := Lib.hid hq6
        have hsz6 := HT6.out.up.size
        clear HP6 hpo6 hpb6 hq6 HS5 HK5
        go_wp2_with (refine wpList_append_any _ rfl (.tmp 61) (.tmp 64) 66 rfl w.heap.size 5 ii (.int .u8 0) 1 1 Tryd.underlying66 HI.out hi0 hi1 hi2 rfl (by decide) _ _ _ rfl HT6.out.ow u6.heap.size B6 q6.length d6 (bytesV q6) rfl (Reads.of_own HO6.out) (bytes_one _) (by unfold maxLen; omega) (by omega) hsz6 ?_; intro v6 w6 ho6 hg6 hat6; have K6 := HL6.out.grown hg6 (fun e => own_blk_ne HT6.out.ow HL6.out (by decide) e.symm); have x60 : w6.cell? ⟨w.heap.size, 0, none⟩ = some (.string n) := K6.cell 0; have x61 : w6.cell? ⟨w.heap.size, 1, none⟩ = some (.string vl) := K6.cell 1)
        obtain ⟨y6, hy6⟩ : ∃ y, y = y5 ++ q6 := ⟨_, rfl⟩
        have S6 := HT6.out.app hXx ho6 hg6
        rw [← hy6] at S6
        have hyl6 : y6.length ≤ y5.length + 2147483653 := by rw [hy6, List.length_append]; omega
        obtain ⟨A6, c6', rfl, -, -⟩ := Tab.own_slice S6.ow
        have HS6 := Lib.hid S6
        have HK6 := Lib.hid K6
        have HY6 := Lib.hid hy6
        clear ho6 hg6 hat6 S6 K6 hy6 HT6 HL6
        go_wp2_with fail
        go_ret
        refine one_end HS6.out (show one m Q (n, vl, true) = (y6, Q) from ?_)
        rw [one_nev, HY6.out, HQ6.out, HY5.out, HQ5.out, HY3.out, HIQ.out, if_pos (HIQ.out.symm.trans hiz), List.append_assoc]
      · have hi0' : ((i : Int) == 0) = false := by simp; omega
        have HP6 := Lib.hid (rputtext_any vl hv1 w3)
        have hpl6 := putText_len vl hv1
        go_wp2_with fail
        refine HP6.out.mono ?_
        rintro e u6 ⟨p6, rfl, hpo6, hpb6⟩
        obtain ⟨B6, d6, rfl, -, -⟩ := Tab.own_slice hpo6
        obtain ⟨q6, hq6⟩ : ∃ q, q = putText vl := ⟨_, rfl⟩
        rw [← hq6] at hpo6 hpl6 ⊢
        have HT6 := Lib.hid (HS3.out.ext hpb6)
        have HL6 := Lib.hid (HK3.out.below hpb6 HK3.out.lt)
        have HO6 := Lib.hid hpo6
        have HQ6 := Lib.hid hq6
        have hsz6 := HT6.out.up.size
        clear HP6 hpo6 hpb6 hq6 HS3 HK3
        go_wp2_with (refine wpList_append_any _ rfl (.tmp 61) (.tmp 64) 66 rfl w.heap.size 5 ii (.int .u8 0) 1 1 Tryd.underlying66 HI.out hi0 hi1 hi2 rfl (by decide) _ _ _ rfl HT6.out.ow u6.heap.size B6 q6.length d6 (bytesV q6) rfl (Reads.of_own HO6.out) (bytes_one _) (by unfold maxLen; omega) (by omega) hsz6 ?_; intro v6 w6 ho6 hg6 hat6; have K6 := HL6.out.grown hg6 (fun e => own_blk_ne HT6.out.ow HL6.out (by decide) e.symm); have x60 : w6.cell? ⟨w.heap.size, 0, none⟩ = some (.string n) := K6.cell 0; have x61 : w6.cell? ⟨w.heap.size, 1, none⟩ = some (.string vl) := K6.cell 1)
        obtain ⟨y6, hy6⟩ : ∃ y, y = y3 ++ q6 := ⟨_, rfl⟩
        have S6 := HT6.out.app hXx ho6 hg6
        rw [← hy6] at S6
        have hyl6 : y6.length ≤ y3.length + 2147483653 := by rw [hy6, List.length_append]; omega
        obtain ⟨A6, c6', rfl, -, -⟩ := Tab.own_slice S6.ow
        have HS6 := Lib.hid S6
        have HK6 := Lib.hid K6
        have HY6 := Lib.hid hy6
        clear ho6 hg6 hat6 S6 K6 hy6 HT6 HL6
        go_wp2_with fail
        go_ret
        refine one_end HS6.out (show one m Q (n, vl, true) = (y6, Q) from ?_)
        rw [one_nev, HY6.out, HQ6.out, HY3.out, HIQ.out, if_neg (fun h => hiz (HIQ.out.trans h)), List.nil_append]
    | false =>
      by_cases hbig : m < hsz (n, vl)
      · have HF1 := Lib.hid (fun W hW => HF.out W hW false hwh.symm)
        clear HF
        refine wp_region_in (Since w1) (Since.drew0 w1) (by kernel_rfl) (by kernel_rfl) ?_
        repeat (first
          | go_big_quiet_skip
          | (go_big_quiet_want; go_big_quiet_op; go_big_quiet_on)
          | (go_big_quiet_want; apply in_val; (· intro W hW; have d0 := hW.cell e0; have d1 := hW.cell k0; have d2 := hW.cell k1; have d3 := hW.cell k2; go_simp; first | done | rfl); simp only [Act.put, List.setIfInBounds_toArray, List.set_cons_zero, List.set_cons_succ]; go_big_quiet_on)
          | (go_big_quiet_want; apply in_q; (· intro W hW; go_simp; (go_at_call 31; with_reducible exact hW.call (HF1.out W hW))); simp only [Act.put, List.setIfInBounds_toArray, List.set_cons_zero, List.set_cons_succ]; go_big_quiet_on))
        refine wpQuiet_nil ?_
        intro w2 hW2
        have R2 := HR1.out.below hW2
        have K2 := HK1.out.below hW2 HK1.out.lt
        have U2 := HU1.out.since hW2
        obtain ⟨l2, kx2, -⟩ := R2.kx
        obtain ⟨At2, ct2, kt2, -⟩ := R2.kt.kx
        have q0 : w2.cell? ⟨w.heap.size, 0, none⟩ = some (.string n) := K2.cell 0
        have q1 : w2.cell? ⟨w.heap.size, 1, none⟩ = some (.string vl) := K2.cell 1
        have q2 : w2.cell? ⟨w.heap.size, 2, none⟩ = some (.bool false) := K2.cell 2
        have qe : w2.cell? ⟨X, 0, none⟩ = some (.pointer (some ⟨x, 0, none⟩)) := kx2.cell 0
        have qm : w2.cell? ⟨x, 1, none⟩ = some (.int .i64 (m : Int)) := kt2.cell 1
        have HR2 := Lib.hid R2
        have HK2 := Lib.hid K2
        have HU2 := Lib.hid U2
        clear hW2 R2 K2 U2 HR1 HK1 HU1 HF1 e0 e1 k0 k1 k2 kx2 kt2
        go_wp2_with fail
        have HSZ := Lib.hid (fun W => Tab.rsize_any n vl false (hsz (n, vl)) rfl hszb W)
        have hdm : decide ((hsz (n, vl) : Int) > (m : Int)) = true := decide_eq_true (by omega)
        refine wp_region_in (Since w2) (Since.drew0 w2) (by kernel_rfl) (by kernel_rfl) ?_
        repeat (first
          | go_big_quiet_skip
          | (go_big_quiet_want; go_big_quiet_op; go_big_quiet_on)
          | (go_big_quiet_want; apply in_val; (· intro W hW; have d0 := hW.cell qe; have d1 := hW.cell qm; have d2 := hW.cell q0; have d3 := hW.cell q1; have d4 := hW.cell q2; go_simp; first | done | rfl); simp only [Act.put, List.setIfInBounds_toArray, List.set_cons_zero, List.set_cons_succ]; go_big_quiet_on)
          | (go_big_quiet_want; apply in_q; (· intro W hW; go_simp; (go_at_call 59; with_reducible exact hW.call (HSZ.out W))); simp only [Act.put, List.setIfInBounds_toArray, List.set_cons_zero, List.set_cons_succ]; go_big_quiet_on))
        refine wpQuiet_nil ?_
        intro w4 hW4
        have HR4 := Lib.hid (HR2.out.below hW4)
        have HK4 := Lib.hid (HK2.out.below hW4 HK2.out.lt)
        have HU4 := Lib.hid (HU2.out.since hW4)
        clear hW4 HR2 HK2 HU2 HSZ q0 q1 q2 qe qm
        have HP3 := Lib.hid (rputint_any 0 4 i (.inr (.inr (.inr (.inl ⟨rfl, rfl⟩)))) hi31 w4)
        have hpl3 := putInt_len 0 4 i hi31
        go_wp2_with fail
        refine HP3.out.mono ?_
        rintro e w3 ⟨v3, rfl, ho3, hb3⟩
        obtain ⟨y3, hy3⟩ : ∃ y, y = putInt 0 4 i := ⟨_, rfl⟩
        rw [← hy3] at ho3 hpl3
        have S3 := RAt.fresh HR4.out HU4.out hb3 ho3
        have K3 := HK4.out.below hb3 HK4.out.lt
        obtain ⟨A3, c3', rfl, -, -⟩ := Tab.own_slice ho3
        have HS3 := Lib.hid S3
        have HK3 := Lib.hid K3
        have HY3 := Lib.hid hy3
        obtain ⟨l3, kx3, -⟩ := S3.kr.kx
        have x30 : w3.cell? ⟨w.heap.size, 0, none⟩ = some (.string n) := K3.cell 0
        have x31 : w3.cell? ⟨w.heap.size, 1, none⟩ = some (.string vl) := K3.cell 1
        have x32 : w3.cell? ⟨w.heap.size, 2, none⟩ = some (.bool false) := K3.cell 2
        have z30 : w3.cell? ⟨X, 0, none⟩ = some (.pointer (some ⟨x, 0, none⟩)) := kx3.cell 0
        clear ho3 hb3 S3 K3 HP3 hy3 kx3
        by_cases hiz : i = 0
        · have hi0' : ((i : Int) == 0) = true := by simp; omega
          have HP5 := Lib.hid (rputtext_any n hn1 w3)
          have hpl5 := putText_len n hn1
          go_wp2_with fail
          refine HP5.out.mono ?_
          rintro e u5 ⟨p5, rfl, hpo5, hpb5⟩
          obtain ⟨B5, d5, rfl, -, -⟩ := Tab.own_slice hpo5
          obtain ⟨q5, hq5⟩ : ∃ q, q = putText n := ⟨_, rfl⟩
          rw [← hq5] at hpo5 hpl5 ⊢
          have HT5 := Lib.hid (HS3.out.ext hpb5)
          have HL5 := Lib.hid (HK3.out.below hpb5 HK3.out.lt)
          have HO5 := Lib.hid hpo5
          have HQ5 := Lib.hid hq5
          have hsz5 := HT5.out.up.size
          clear HP5 hpo5 hpb5 hq5 HS3 HK3
          go_wp2_with (refine wpList_append_any _ rfl (.tmp 56) (.tmp 59) 66 rfl w.heap.size 5 ii (.int .u8 0) 1 1 Tryd.underlying66 HI.out hi0 hi1 hi2 rfl (by decide) _ _ _ rfl HT5.out.ow u5.heap.size B5 q5.length d5 (bytesV q5) rfl (Reads.of_own HO5.out) (bytes_one _) (by unfold maxLen; omega) (by omega) hsz5 ?_; intro v5 w5 ho5 hg5 hat5; have K5 := HL5.out.grown hg5 (fun e => own_blk_ne HT5.out.ow HL5.out (by decide) e.symm); have x50 : w5.cell? ⟨w.heap.size, 0, none⟩ = some (.string n) := K5.cell 0; have x51 : w5.cell? ⟨w.heap.size, 1, none⟩ = some (.string vl) := K5.cell 1)
          obtain ⟨y5, hy5⟩ : ∃ y, y = y3 ++ q5 := ⟨_, rfl⟩
          have S5 := HT5.out.app hXx ho5 hg5
          rw [← hy5] at S5
          have hyl5 : y5.length ≤ y3.length + 2147483653 := by rw [hy5, List.length_append]; omega
          obtain ⟨A5, c5', rfl, -, -⟩ := Tab.own_slice S5.ow
          have HS5 := Lib.hid S5
          have HK5 := Lib.hid K5
          have HY5 := Lib.hid hy5
          clear ho5 hg5 hat5 S5 K5 hy5 HT5 HL5
          have HP6 := Lib.hid (rputtext_any vl hv1 w5)
          have hpl6 := putText_len vl hv1
          go_wp2_with fail
          refine HP6.out.mono ?_
          rintro e u6 ⟨p6, rfl, hpo6, hpb6⟩
          obtain ⟨B6, d6, rfl, -, -⟩ := Tab.own_slice hpo6
          obtain ⟨q6, hq6⟩ : ∃ q, q = putText vl := ⟨_, rfl⟩
          rw [← hq6] at hpo6 hpl6 ⊢
          have HT6 := Lib.hid (HS5.out.ext hpb6)
          have HL6 := Lib.hid (HK5.out.below hpb6 HK5.out.lt)
          have HO6 := Lib.hid hpo6
          have HQ6 := Lib.hid hq6
          have hsz6 := HT6.out.up.size
          clear HP6 hpo6 hpb6 hq6 HS5 HK5
          go_wp2_with (refine wpList_append_any _ rfl (.tmp 61) (.tmp 64) 66 rfl w.heap.size 5 ii (.int .u8 0) 1 1 Tryd.underlying66 HI.out hi0 hi1 hi2 rfl (by decide) _ _ _ rfl HT6.out.ow u6.heap.size B6 q6.length d6 (bytesV q6) rfl (Reads.of_own HO6.out) (bytes_one _) (by unfold maxLen; omega) (by omega) hsz6 ?_; intro v6 w6 ho6 hg6 hat6; have K6 := HL6.out.grown hg6 (fun e => own_blk_ne HT6.out.ow HL6.out (by decide) e.symm); have x60 : w6.cell? ⟨w.heap.size, 0, none⟩ = some (.string n) := K6.cell 0; have x61 : w6.cell? ⟨w.heap.size, 1, none⟩ = some (.string vl) := K6.cell 1)
          obtain ⟨y6, hy6⟩ : ∃ y, y = y5 ++ q6 := ⟨_, rfl⟩
          have S6 := HT6.out.app hXx ho6 hg6
          rw [← hy6] at S6
          have hyl6 : y6.length ≤ y5.length + 2147483653 := by rw [hy6, List.length_append]; omega
          obtain ⟨A6, c6', rfl, -, -⟩ := Tab.own_slice S6.ow
          have HS6 := Lib.hid S6
          have HK6 := Lib.hid K6
          have HY6 := Lib.hid hy6
          clear ho6 hg6 hat6 S6 K6 hy6 HT6 HL6
          go_wp2_with fail
          go_ret
          refine one_end HS6.out (show one m Q (n, vl, false) = (y6, Q) from ?_)
          rw [one_big hwn hbig, HY6.out, HQ6.out, HY5.out, HQ5.out, HY3.out, HIQ.out, if_pos (HIQ.out.symm.trans hiz), List.append_assoc]
        · have hi0' : ((i : Int) == 0) = false := by simp; omega
          have HP6 := Lib.hid (rputtext_any vl hv1 w3)
          have hpl6 := putText_len vl hv1
          go_wp2_with fail
          refine HP6.out.mono ?_
          rintro e u6 ⟨p6, rfl, hpo6, hpb6⟩
          obtain ⟨B6, d6, rfl, -, -⟩ := Tab.own_slice hpo6
          obtain ⟨q6, hq6⟩ : ∃ q, q = putText vl := ⟨_, rfl⟩
          rw [← hq6] at hpo6 hpl6 ⊢
          have HT6 := Lib.hid (HS3.out.ext hpb6)
          have HL6 := Lib.hid (HK3.out.below hpb6 HK3.out.lt)
          have HO6 := Lib.hid hpo6
          have HQ6 := Lib.hid hq6
          have hsz6 := HT6.out.up.size
          clear HP6 hpo6 hpb6 hq6 HS3 HK3
          go_wp2_with (refine wpList_append_any _ rfl (.tmp 61) (.tmp 64) 66 rfl w.heap.size 5 ii (.int .u8 0) 1 1 Tryd.underlying66 HI.out hi0 hi1 hi2 rfl (by decide) _ _ _ rfl HT6.out.ow u6.heap.size B6 q6.length d6 (bytesV q6) rfl (Reads.of_own HO6.out) (bytes_one _) (by unfold maxLen; omega) (by omega) hsz6 ?_; intro v6 w6 ho6 hg6 hat6; have K6 := HL6.out.grown hg6 (fun e => own_blk_ne HT6.out.ow HL6.out (by decide) e.symm); have x60 : w6.cell? ⟨w.heap.size, 0, none⟩ = some (.string n) := K6.cell 0; have x61 : w6.cell? ⟨w.heap.size, 1, none⟩ = some (.string vl) := K6.cell 1)
          obtain ⟨y6, hy6⟩ : ∃ y, y = y3 ++ q6 := ⟨_, rfl⟩
          have S6 := HT6.out.app hXx ho6 hg6
          rw [← hy6] at S6
          have hyl6 : y6.length ≤ y3.length + 2147483653 := by rw [hy6, List.length_append]; omega
          obtain ⟨A6, c6', rfl, -, -⟩ := Tab.own_slice S6.ow
          have HS6 := Lib.hid S6
          have HK6 := Lib.hid K6
          have HY6 := Lib.hid hy6
          clear ho6 hg6 hat6 S6 K6 hy6 HT6 HL6
          go_wp2_with fail
          go_ret
          refine one_end HS6.out (show one m Q (n, vl, false) = (y6, Q) from ?_)
          rw [one_big hwn hbig, HY6.out, HQ6.out, HY3.out, HIQ.out, if_neg (fun h => hiz (HIQ.out.trans h)), List.nil_append]
      · have HF1 := Lib.hid (fun W hW => HF.out W hW false hwh.symm)
        clear HF
        refine wp_region_in (Since w1) (Since.drew0 w1) (by kernel_rfl) (by kernel_rfl) ?_
        repeat (first
          | go_big_quiet_skip
          | (go_big_quiet_want; go_big_quiet_op; go_big_quiet_on)
          | (go_big_quiet_want; apply in_val; (· intro W hW; have d0 := hW.cell e0; have d1 := hW.cell k0; have d2 := hW.cell k1; have d3 := hW.cell k2; go_simp; first | done | rfl); simp only [Act.put, List.setIfInBounds_toArray, List.set_cons_zero, List.set_cons_succ]; go_big_quiet_on)
          | (go_big_quiet_want; apply in_q; (· intro W hW; go_simp; (go_at_call 31; with_reducible exact hW.call (HF1.out W hW))); simp only [Act.put, List.setIfInBounds_toArray, List.set_cons_zero, List.set_cons_succ]; go_big_quiet_on))
        refine wpQuiet_nil ?_
        intro w2 hW2
        have R2 := HR1.out.below hW2
        have K2 := HK1.out.below hW2 HK1.out.lt
        have U2 := HU1.out.since hW2
        obtain ⟨l2, kx2, -⟩ := R2.kx
        obtain ⟨At2, ct2, kt2, -⟩ := R2.kt.kx
        have q0 : w2.cell? ⟨w.heap.size, 0, none⟩ = some (.string n) := K2.cell 0
        have q1 : w2.cell? ⟨w.heap.size, 1, none⟩ = some (.string vl) := K2.cell 1
        have q2 : w2.cell? ⟨w.heap.size, 2, none⟩ = some (.bool false) := K2.cell 2
        have qe : w2.cell? ⟨X, 0, none⟩ = some (.pointer (some ⟨x, 0, none⟩)) := kx2.cell 0
        have qm : w2.cell? ⟨x, 1, none⟩ = some (.int .i64 (m : Int)) := kt2.cell 1
        have HR2 := Lib.hid R2
        have HK2 := Lib.hid K2
        have HU2 := Lib.hid U2
        clear hW2 R2 K2 U2 HR1 HK1 HU1 HF1 e0 e1 k0 k1 k2 kx2 kt2
        go_wp2_with fail
        have HSZ := Lib.hid (fun W => Tab.rsize_any n vl false (hsz (n, vl)) rfl hszb W)
        have hdm : decide ((hsz (n, vl) : Int) > (m : Int)) = false := decide_eq_false (by omega)
        refine wp_region_in (Since w2) (Since.drew0 w2) (by kernel_rfl) (by kernel_rfl) ?_
        repeat (first
          | go_big_quiet_skip
          | (go_big_quiet_want; go_big_quiet_op; go_big_quiet_on)
          | (go_big_quiet_want; apply in_val; (· intro W hW; have d0 := hW.cell qe; have d1 := hW.cell qm; have d2 := hW.cell q0; have d3 := hW.cell q1; have d4 := hW.cell q2; go_simp; first | done | rfl); simp only [Act.put, List.setIfInBounds_toArray, List.set_cons_zero, List.set_cons_succ]; go_big_quiet_on)
          | (go_big_quiet_want; apply in_q; (· intro W hW; go_simp; (go_at_call 59; with_reducible exact hW.call (HSZ.out W))); simp only [Act.put, List.setIfInBounds_toArray, List.set_cons_zero, List.set_cons_succ]; go_big_quiet_on))
        refine wpQuiet_nil ?_
        intro w4 hW4
        have HR4 := Lib.hid (HR2.out.below hW4)
        have HK4 := Lib.hid (HK2.out.below hW4 HK2.out.lt)
        have HU4 := Lib.hid (HU2.out.since hW4)
        clear hW4 HR2 HK2 HU2 HSZ q0 q1 q2 qe qm
        have HP3 := Lib.hid (rputint_any 64 6 i (.inr (.inr (.inr (.inr (.inl ⟨rfl, rfl⟩))))) hi31 w4)
        have hpl3 := putInt_len 64 6 i hi31
        go_wp2_with fail
        refine HP3.out.mono ?_
        rintro e w3 ⟨v3, rfl, ho3, hb3⟩
        obtain ⟨y3, hy3⟩ : ∃ y, y = putInt 64 6 i := ⟨_, rfl⟩
        rw [← hy3] at ho3 hpl3
        have S3 := RAt.fresh HR4.out HU4.out hb3 ho3
        have K3 := HK4.out.below hb3 HK4.out.lt
        obtain ⟨A3, c3', rfl, -, -⟩ := Tab.own_slice ho3
        have HS3 := Lib.hid S3
        have HK3 := Lib.hid K3
        have HY3 := Lib.hid hy3
        obtain ⟨l3, kx3, -⟩ := S3.kr.kx
        have x30 : w3.cell? ⟨w.heap.size, 0, none⟩ = some (.string n) := K3.cell 0
        have x31 : w3.cell? ⟨w.heap.size, 1, none⟩ = some (.string vl) := K3.cell 1
        have x32 : w3.cell? ⟨w.heap.size, 2, none⟩ = some (.bool false) := K3.cell 2
        have z30 : w3.cell? ⟨X, 0, none⟩ = some (.pointer (some ⟨x, 0, none⟩)) := kx3.cell 0
        clear ho3 hb3 S3 K3 HP3 hy3 kx3
        go_wp2_with fail
        refine wp_region_in_tail 5 (Since w3) (Since.drew0 w3) (by kernel_rfl) (by kernel_rfl) ?_
        simp only [List.take_succ_cons, List.take_zero, List.drop_succ_cons, List.drop_zero]
        repeat (first
          | go_big_quiet_skip
          | (go_big_quiet_want; go_big_quiet_op; go_big_quiet_on)
          | (go_big_quiet_want; apply in_val; (· intro W hW; have d0 := hW.cell z30; have d1 := hW.cell x30; have d2 := hW.cell x31; have d3 := hW.cell x32; go_simp; first | done | rfl); simp only [Act.put, List.setIfInBounds_toArray, List.set_cons_zero, List.set_cons_succ]; go_big_quiet_on))
        refine wpQuiet_nil ?_
        intro w7 hW7
        have S7 := HS3.out.ext hW7
        have hs7 := S7.up.size
        have AD := Lib.hid (Tab.radd_any S7.kr.kt (by omega) (by omega) n vl false hszb)
        have HS7 := Lib.hid S7
        have HK7 := Lib.hid (HK3.out.below hW7 HK3.out.lt)
        clear hW7 S7 HS3 HK3 x30 x31 x32 z30
        go_wp2_with fail
        refine AD.out.mono ?_
        rintro e w8 ⟨rfl, ht8, hu8⟩
        have S8 := HS7.out.added hXx.2 hne ht8 hu8
        have K8 := hu8.blk HK7.out (by omega)
        have HS8 := Lib.hid S8
        have HK8 := Lib.hid K8
        obtain ⟨y8, hy8⟩ : ∃ y, y = y3 := ⟨_, rfl⟩
        have r0 : w8.cell? ⟨w.heap.size, 0, none⟩ = some (.string n) := K8.cell 0
        have r1 : w8.cell? ⟨w.heap.size, 1, none⟩ = some (.string vl) := K8.cell 1
        clear hy8 ht8 hu8 S8 K8 AD HS7 HK7 y8
        by_cases hiz : i = 0
        · have hi0' : ((i : Int) == 0) = true := by simp; omega
          have HP5 := Lib.hid (rputtext_any n hn1 w8)
          have hpl5 := putText_len n hn1
          go_wp2_with fail
          refine HP5.out.mono ?_
          rintro e u5 ⟨p5, rfl, hpo5, hpb5⟩
          obtain ⟨B5, d5, rfl, -, -⟩ := Tab.own_slice hpo5
          obtain ⟨q5, hq5⟩ : ∃ q, q = putText n := ⟨_, rfl⟩
          rw [← hq5] at hpo5 hpl5 ⊢
          have HT5 := Lib.hid (HS8.out.ext hpb5)
          have HL5 := Lib.hid (HK8.out.below hpb5 HK8.out.lt)
          have HO5 := Lib.hid hpo5
          have HQ5 := Lib.hid hq5
          have hsz5 := HT5.out.up.size
          clear HP5 hpo5 hpb5 hq5 HS8 HK8
          go_wp2_with (refine wpList_append_any _ rfl (.tmp 56) (.tmp 59) 66 rfl w.heap.size 5 ii (.int .u8 0) 1 1 Tryd.underlying66 HI.out hi0 hi1 hi2 rfl (by decide) _ _ _ rfl HT5.out.ow u5.heap.size B5 q5.length d5 (bytesV q5) rfl (Reads.of_own HO5.out) (bytes_one _) (by unfold maxLen; omega) (by omega) hsz5 ?_; intro v5 w5 ho5 hg5 hat5; have K5 := HL5.out.grown hg5 (fun e => own_blk_ne HT5.out.ow HL5.out (by decide) e.symm); have x50 : w5.cell? ⟨w.heap.size, 0, none⟩ = some (.string n) := K5.cell 0; have x51 : w5.cell? ⟨w.heap.size, 1, none⟩ = some (.string vl) := K5.cell 1)
          obtain ⟨y5, hy5⟩ : ∃ y, y = y3 ++ q5 := ⟨_, rfl⟩
          have S5 := HT5.out.app hXx ho5 hg5
          rw [← hy5] at S5
          have hyl5 : y5.length ≤ y3.length + 2147483653 := by rw [hy5, List.length_append]; omega
          obtain ⟨A5, c5', rfl, -, -⟩ := Tab.own_slice S5.ow
          have HS5 := Lib.hid S5
          have HK5 := Lib.hid K5
          have HY5 := Lib.hid hy5
          clear ho5 hg5 hat5 S5 K5 hy5 HT5 HL5
          have HP6 := Lib.hid (rputtext_any vl hv1 w5)
          have hpl6 := putText_len vl hv1
          go_wp2_with fail
          refine HP6.out.mono ?_
          rintro e u6 ⟨p6, rfl, hpo6, hpb6⟩
          obtain ⟨B6, d6, rfl, -, -⟩ := Tab.own_slice hpo6
          obtain ⟨q6, hq6⟩ : ∃ q, q = putText vl := ⟨_, rfl⟩
          rw [← hq6] at hpo6 hpl6 ⊢
          have HT6 := Lib.hid (HS5.out.ext hpb6)
          have HL6 := Lib.hid (HK5.out.below hpb6 HK5.out.lt)
          have HO6 := Lib.hid hpo6
          have HQ6 := Lib.hid hq6
          have hsz6 := HT6.out.up.size
          clear HP6 hpo6 hpb6 hq6 HS5 HK5
          go_wp2_with (refine wpList_append_any _ rfl (.tmp 61) (.tmp 64) 66 rfl w.heap.size 5 ii (.int .u8 0) 1 1 Tryd.underlying66 HI.out hi0 hi1 hi2 rfl (by decide) _ _ _ rfl HT6.out.ow u6.heap.size B6 q6.length d6 (bytesV q6) rfl (Reads.of_own HO6.out) (bytes_one _) (by unfold maxLen; omega) (by omega) hsz6 ?_; intro v6 w6 ho6 hg6 hat6; have K6 := HL6.out.grown hg6 (fun e => own_blk_ne HT6.out.ow HL6.out (by decide) e.symm); have x60 : w6.cell? ⟨w.heap.size, 0, none⟩ = some (.string n) := K6.cell 0; have x61 : w6.cell? ⟨w.heap.size, 1, none⟩ = some (.string vl) := K6.cell 1)
          obtain ⟨y6, hy6⟩ : ∃ y, y = y5 ++ q6 := ⟨_, rfl⟩
          have S6 := HT6.out.app hXx ho6 hg6
          rw [← hy6] at S6
          have hyl6 : y6.length ≤ y5.length + 2147483653 := by rw [hy6, List.length_append]; omega
          obtain ⟨A6, c6', rfl, -, -⟩ := Tab.own_slice S6.ow
          have HS6 := Lib.hid S6
          have HK6 := Lib.hid K6
          have HY6 := Lib.hid hy6
          clear ho6 hg6 hat6 S6 K6 hy6 HT6 HL6
          go_wp2_with fail
          go_ret
          refine one_end HS6.out (show one m Q (n, vl, false) = (y6, addQ m (n, vl) Q) from ?_)
          rw [one_new hwn hbig, HY6.out, HQ6.out, HY5.out, HQ5.out, HY3.out, HIQ.out, if_pos (HIQ.out.symm.trans hiz), List.append_assoc]
        · have hi0' : ((i : Int) == 0) = false := by simp; omega
          have HP6 := Lib.hid (rputtext_any vl hv1 w8)
          have hpl6 := putText_len vl hv1
          go_wp2_with fail
          refine HP6.out.mono ?_
          rintro e u6 ⟨p6, rfl, hpo6, hpb6⟩
          obtain ⟨B6, d6, rfl, -, -⟩ := Tab.own_slice hpo6
          obtain ⟨q6, hq6⟩ : ∃ q, q = putText vl := ⟨_, rfl⟩
          rw [← hq6] at hpo6 hpl6 ⊢
          have HT6 := Lib.hid (HS8.out.ext hpb6)
          have HL6 := Lib.hid (HK8.out.below hpb6 HK8.out.lt)
          have HO6 := Lib.hid hpo6
          have HQ6 := Lib.hid hq6
          have hsz6 := HT6.out.up.size
          clear HP6 hpo6 hpb6 hq6 HS8 HK8
          go_wp2_with (refine wpList_append_any _ rfl (.tmp 61) (.tmp 64) 66 rfl w.heap.size 5 ii (.int .u8 0) 1 1 Tryd.underlying66 HI.out hi0 hi1 hi2 rfl (by decide) _ _ _ rfl HT6.out.ow u6.heap.size B6 q6.length d6 (bytesV q6) rfl (Reads.of_own HO6.out) (bytes_one _) (by unfold maxLen; omega) (by omega) hsz6 ?_; intro v6 w6 ho6 hg6 hat6; have K6 := HL6.out.grown hg6 (fun e => own_blk_ne HT6.out.ow HL6.out (by decide) e.symm); have x60 : w6.cell? ⟨w.heap.size, 0, none⟩ = some (.string n) := K6.cell 0; have x61 : w6.cell? ⟨w.heap.size, 1, none⟩ = some (.string vl) := K6.cell 1)
          obtain ⟨y6, hy6⟩ : ∃ y, y = y3 ++ q6 := ⟨_, rfl⟩
          have S6 := HT6.out.app hXx ho6 hg6
          rw [← hy6] at S6
          have hyl6 : y6.length ≤ y3.length + 2147483653 := by rw [hy6, List.length_append]; omega
          obtain ⟨A6, c6', rfl, -, -⟩ := Tab.own_slice S6.ow
          have HS6 := Lib.hid S6
          have HK6 := Lib.hid K6
          have HY6 := Lib.hid hy6
          clear ho6 hg6 hat6 S6 K6 hy6 HT6 HL6
          go_wp2_with fail
          go_ret
          refine one_end HS6.out (show one m Q (n, vl, false) = (y6, addQ m (n, vl) Q) from ?_)
          rw [one_new hwn hbig, HY6.out, HQ6.out, HY3.out, HIQ.out, if_neg (fun h => hiz (HIQ.out.trans h)), List.nil_append]
end Go.Proofs.YtflmgjidnclegaaDoor.Hpk
