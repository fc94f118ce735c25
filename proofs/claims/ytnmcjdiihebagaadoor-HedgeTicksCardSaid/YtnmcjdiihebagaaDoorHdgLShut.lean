/-
  The walk of the law HedgeShut: it answers true.
-/
import Derived.Test.YtnmcjdiihebagaaDoorHdgShut
namespace Go.Proofs.YtnmcjdiihebagaaDoor.Hdg
open Go.RowKit
open Pol (intsV IntsAt codeOk thrC)
theorem and_mask (x : Int) (m : Nat) (hm : m < 9223372036854775808) (hm2 : (BitVec.ofInt 64 (m : Int)).toNat = m) : ∃ j : Nat, j ≤ m ∧ bits .and .i64 x (m : Int) = (j : Int) := by
  refine ⟨(BitVec.ofInt 64 x).toNat &&& m, Nat.and_le_right, ?_⟩
  have h : (BitVec.ofInt 64 x).toNat &&& m ≤ m := Nat.and_le_right
  show IntKind.i64.wrap ((BitVec.ofInt 64 x &&& BitVec.ofInt 64 (m : Int)).toNat : Int) = _
  rw [BitVec.toNat_and, hm2, IntKind.wrap_i64]
  omega
theorem and_1023 (x : Int) : ∃ j : Nat, j ≤ 1023 ∧ bits .and .i64 x 1023 = (j : Int) := and_mask x 1023 (by decide) (by decide)
theorem and_511 (x : Int) : ∃ j : Nat, j ≤ 511 ∧ bits .and .i64 x 511 = (j : Int) := and_mask x 511 (by decide) (by decide)
theorem and_15' (x : Int) : ∃ j : Nat, j ≤ 15 ∧ bits .and .i64 x 15 = (j : Int) := and_mask x 15 (by decide) (by decide)
theorem and_3 (x : Int) : ∃ j : Nat, j ≤ 3 ∧ bits .and .i64 x 3 = (j : Int) := and_mask x 3 (by decide) (by decide)
theorem failed_last (B g gt : Nat) (T D : Int) (A : Option Addr) (cf : Nat) (now started : Int) (nx : Bool) (due : Int) (rv : Value) (code : Int) (cd n : Int) (tok most ratio : Int) (w : World) (h : Blk w g 91 (hcC T D (.slice A 1 cf) (.pointer (some ⟨gt, 0, none⟩)) now started (nxV g nx) due rv (-1) false code))
    (hr : w.ownsRow B 3 1 rv [(0 : Int)].length (intsV [0])) (hB : B ≤ w.heap.size) (hBg : B ≤ g) (hBt : B ≤ gt) (hfx : IntsAt w A [14]) (hfd : ∀ ad, A = some ad → ad.block ≠ g ∧ rv.ownBlock ≠ some ad.block)
    (kt : Blk w gt 83 (thrC tok most ratio)) (htk : 0 ≤ tok ∧ tok ≤ 1000000) (hsh : 2 * tok ≤ most) :
    Calls Tryd.prog 25 #[.pointer (some ⟨g, 0, none⟩), .int .i64 0, .int .i64 cd, .int .i64 (-1), .int .i64 n] w fun e w' => ∃ rv' v due', e = .returned v ∧ w'.ownsRow w.heap.size 56 4 v 1 (evV [⟨3, 0, cd, max now n⟩]) ∧
      Blk w' g 91 (hcC T D (.slice A 1 cf) (.pointer (some ⟨gt, 0, none⟩)) (max now n) started (nxV g false) due' rv' (-1) true cd) ∧ w'.ownsRow B 3 1 rv' ([] : List Int).length (intsV []) ∧ Below B w w' := by
  by_cases hc : cd = 14
  · exact failed_shut B g gt T D A 1 cf [14] now started nx due rv (-1) code 0 cd n tok most ratio w h hr hB hBg hBt rfl (by omega) hfx hfd (by simp [hc]) (by omega) kt htk hsh
  · refine (failed_ends B g T D A 1 cf [14] (.pointer (some ⟨gt, 0, none⟩)) now started _ due rv [0] (-1) code 0 cd (-1) n w h hr hB (by simp) (by simp) rfl (by omega) hfx hfd (Or.inr (by simp [hc]))).mono ?_
    rintro e w' ⟨k, rv', v, rfl, hk, _, he, hM⟩
    have hk0 : k = 0 := by simp at hk; exact hk
    subst hk0
    exact ⟨rv', v, due, rfl, he, hM.kg, hM.kr, hM.up.below (B := B) (fun i hi => by rcases hi with e | e; omega; exact (hr.lt i e).1) hB⟩
theorem hok_shut (j1 j3 : Nat) (h3 : j3 ≤ 1023) : hOk ((j1 : Int) % 5 + 1) (j3 : Int) [14] = true := by
  unfold hOk
  rw [decide_eq_true (show hnums ((j1 : Int) % 5 + 1) (j3 : Int) from ⟨by omega, by omega, by omega, by omega⟩)]
  decide
set_option maxRecDepth 100000 in
set_option maxHeartbeats 4000000 in
theorem lshut_any (tries delay code : Int) (xs : List Int) (A : Option Addr) (n c : Nat) (hn : xs.length = n) (hcap : n ≤ 9223372036854775807) (v : Value) (w : World) (hx : IntsAt w A xs) (hv : w.cell? ⟨0, 0, none⟩ = some v) (hg : 0 < w.heap.size) :
    Calls Tryd.prog 7 #[.int .i64 tries, .int .i64 delay, .int .i64 code, .slice A n c] w fun e w' => e = .returned (.bool true) ∧ Below w.heap.size w w' := by
  go_enter Tryd.func7, Tryd.ntmps7
  go_wp2_with fail
  refine (hfirst_any v w hv hg).mono ?_
  rintro e w1 ⟨rfl, hb1⟩
  have NT := Pol.newthr_ok 2 1 w1 (by omega) (by omega)
  have HNT := Lib.hid NT
  clear NT
  go_wp2_with fail
  refine HNT.out.mono ?_
  rintro e w2 ⟨rfl, hw2⟩
  have kt : Blk w2 w1.heap.size 83 (thrC 2000 2000 1) := by rw [hw2]; exact Blk.new _ _ _
  have hB2 : Below w.heap.size w w2 := by rw [hw2]; exact hb1.alloc hb1.size _
  have hgt : w.heap.size ≤ w1.heap.size := hb1.size
  generalize w1.heap.size = gt at *
  clear hw2 hb1 HNT
  have HB2 := Lib.hid hB2
  have HKT := Lib.hid kt
  have HX := Lib.hid hx
  have HV := Lib.hid hv
  have HNN := Lib.hid hn
  clear hB2 kt hx hv hn
  by_cases h50 : 50 < n
  · go_wp2_with fail
    go_ret
    exact ⟨rfl, HB2.out⟩
  have HF := Lib.hid (Pol.fail_any gt 2000 2000 1 w2 (by omega) HKT.out)
  go_wp2_with fail
  refine HF.out.mono ?_
  rintro e w3 ⟨rfl, hw3⟩
  have kt3 : Blk w3 gt 83 (thrC 1000 2000 1) := by rw [hw3]; exact HKT.out.set_ 0 _
  have hB3 : Below w.heap.size w w3 := by rw [hw3]; exact HB2.out.setCell (p := ⟨gt, 0, none⟩) hgt _
  have HKT3 := Lib.hid kt3
  have HB3 := Lib.hid hB3
  clear hw3 kt3 hB3 HKT HB2 HF
  obtain ⟨j1, hj1, e1⟩ := and_1023 tries
  obtain ⟨j2, hj2, e2⟩ := and_15' code
  obtain ⟨j3, hj3, e3⟩ := and_1023 delay
  go_wp2_with fail
  have hB4 : Below w.heap.size w (w3.alloc (.cells #[.int .i64 14] 3)) := HB3.out.alloc HB3.out.size _
  have kx : Blk (w3.alloc (.cells #[.int .i64 14] 3)) w3.heap.size 3 #[.int .i64 14] := Blk.new _ _ _
  have kt4 := HKT3.out.alloc (.cells #[.int .i64 14] 3)
  have hB34 : w.heap.size ≤ w3.heap.size := HB3.out.size
  generalize w3.alloc (.cells #[.int .i64 14] 3) = w4 at *
  have hxa : IntsAt w4 (some ⟨w3.heap.size, 0, none⟩) [14] := by
    intro i hi
    have h0 : i = 0 := by simp at hi; omega
    subst h0
    exact ⟨_, 0, rfl, kx.lt, kx.cell 0⟩
  have N := hnew_ok ((j1 : Int) % 5 + 1) (j3 : Int) [14] (some ⟨w3.heap.size, 0, none⟩) 1 1 rfl (by omega) (fun e => by cases e) (some ⟨gt, 0, none⟩) v w4 hxa (hok_shut j1 j3 hj3) ((hB4.cell hg).trans HV.out) (Nat.lt_of_lt_of_le hg hB4.size)
  have HN := Lib.hid N
  have HB4 := Lib.hid hB4
  have HKT4 := Lib.hid kt4
  have HE2 := Lib.hid e2
  clear N hxa kx hB4 kt4 HKT3 HB3 e1 e2 e3
  generalize hT : (j1 : Int) % 5 + 1 = T at HN ⊢
  have hT1 : 1 ≤ T ∧ T ≤ 5 := by omega
  clear hT
  refine HN.out.mono ?_
  rintro e w5 ⟨g, A', c', rv, b, rfl, hgg, hx5, hA', kg, kr, he5, hb5⟩
  have hB4s := HB4.out.size
  have hgw : w.heap.size ≤ g := by omega
  have HX5 := Lib.hid hx5
  have HA := Lib.hid hA'
  have HKG := Lib.hid kg
  have hkr := own_base kr hB4s
  have HKR := Lib.hid hkr
  have HB5 := Lib.hid (HB4.out.trans (hb5.mono HB4.out.size))
  have HKT5 := Lib.hid (HKT4.out.below hb5 HKT4.out.lt)
  clear hx5 hA' kg kr hkr he5 hb5 HN HB4 HKT4 hgg
  go_wp2_with fail
  go_loopw [15, 16] (fun nv iv wr => ∃ (k : Nat) (now : Int) (nx : Bool), k ≤ n ∧ iv = .int .i64 (k : Int) ∧ nv = .int .i64 now ∧ 0 ≤ now ∧ now ≤ 511 * (k : Int) ∧ Blk wr g 91 (hcC T (j3 : Int) (.slice A' 1 c') (.pointer (some ⟨gt, 0, none⟩)) now 1 (nxV g nx) (j3 : Int) rv (-1) false 0) ∧
      wr.ownsRow w.heap.size 3 1 rv [(0 : Int)].length (intsV [0]) ∧ IntsAt wr A' [14] ∧ Blk wr gt 83 (thrC 1000 2000 1) ∧ Below w.heap.size w wr) (fun _ iv _ => n - (intOf iv).toNat)
  case atStart => exact ⟨0, 0, _, Nat.zero_le _, rfl, rfl, by omega, by omega, HKG.out, HKR.out, HX5.out, HKT5.out, HB5.out⟩
  case round =>
    obtain ⟨k, now, nx, hk, rfl, rfl, hn0, hn1, kg, kr, hx5, kt5, hB⟩ := hrel
    clear HKG HKR HX5 HKT5 HB5
    by_cases hlt : k < n
    · obtain ⟨b0, off, rfl, hb0, hc0⟩ := (HX.out.below hB) k (by rw [HNN.out]; exact hlt)
      obtain ⟨q, hq, eq⟩ := and_511 (xs.getD k 0)
      obtain ⟨x, hx0⟩ : ∃ x, xs.getD k 0 = x := ⟨_, rfl⟩
      rw [hx0] at hc0 eq
      have TS := tick_shut w.heap.size g gt T (j3 : Int) (.slice A' 1 c') now 1 nx (j3 : Int) rv [0] (-1) false 0 1000 2000 1 (now + (q : Int)) wr kg kr hB.size kt5 (by omega) (by omega)
      have HTS := Lib.hid TS
      have hrl := kr.lt
      have HX5 := Lib.hid hx5
      have HKT5 := Lib.hid kt5
      have HKG := Lib.hid kg
      have HKR := Lib.hid kr
      have HB := Lib.hid hB
      clear TS hx5 kt5 kg kr hB hx0
      go_wp2_with fail
      clear eq hc0
      refine HTS.out.mono ?_
      rintro e w6 ⟨nx', rfl, hM6, _⟩
      have hmx : max now (now + (q : Int)) = now + (q : Int) := by omega
      rw [hmx] at hM6
      have hx6 := hmid_own hM6 HX5.out (fun ad e => (HA.out ad e).2)
      have kt6 := hM6.up.blk HKT5.out (by rintro (e | e); exact Blk.ne_ HKT5.out HKG.out (by decide) e; exact own_blk_ne HKR.out HKT5.out (by decide) e)
      have HM6 := Lib.hid hM6
      have HX6 := Lib.hid hx6
      have HKT6 := Lib.hid kt6
      have HB6 := Lib.hid (HB.out.trans (hM6.up.below (B := w.heap.size) (fun i hi => by rcases hi with e | e; omega; exact (hrl i e).1) HB.out.size))
      clear hM6 hx6 kt6 hmx HTS HX5 HKT5 HKG HKR HB hrl
      go_wp2_with fail
      go_roundw
      case rel => exact ⟨k + 1, now + (q : Int), nx', by omega, by go_num, rfl, by omega, by omega, HM6.out.kg, HM6.out.kr, HX6.out, HKT6.out, HB6.out⟩
      case measure => simp [intOf]; omega
    · have FL := failed_last w.heap.size g gt T (j3 : Int) A' c' now 1 nx (j3 : Int) rv 0 ((j2 : Int) + 1) now 1000 2000 1 wr kg kr hB.size hgw hgt hx5 (fun ad e => (HA.out ad e).2) kt5 (by omega) (by omega)
      rw [show max now now = now by omega] at FL
      have HFL := Lib.hid FL
      have HB := Lib.hid hB
      clear FL kg kr hx5 kt5 hB
      go_wp2_with fail
      refine HFL.out.mono ?_
      rintro e w7 ⟨rv7, v7, due7, rfl, he7, kg7, kr7, hb7⟩
      obtain ⟨A7, c7, rfl, ev7⟩ := evs_of_own (E := [⟨3, 0, (j2 : Int) + 1, now⟩]) he7
      have DN := done_any g _ _ _ _ _ _ _ _ _ _ _ _ w7 kg7
      have HDN := Lib.hid DN
      have HK7 := Lib.hid kg7
      have HR7 := Lib.hid kr7
      have HE7 := Lib.hid ev7
      have HB7 := Lib.hid (HB.out.trans hb7)
      clear DN kg7 kr7 ev7 he7 hb7 HFL HB
      go_wp2_with fail
      refine HDN.out.mono ?_
      rintro e w8 ⟨rfl, nq, rfl⟩
      have HR8 := Lib.hid (running_any w.heap.size g _ _ _ _ _ _ _ _ rv7 [] _ _ _ (w7.drewN nq) (HK7.out.drewN nq) HR7.out (by simp))
      have HB8 := Lib.hid (below_drewN HB7.out nq)
      obtain ⟨b7, off7, x7, rfl, _, hx7, q0, q1, q2, q3⟩ := (HE7.out.below (below_drewN (Below.refl _ _) nq)) 0 (by simp)
      have hx8 : x7 = ⟨3, 0, (j2 : Int) + 1, now⟩ := by simpa using hx7.symm
      subst hx8
      simp only [Nat.zero_mul, Nat.add_zero] at q0 q1
      clear hx7 q2 q3 HDN HK7 HR7 HE7 HB7
      generalize w7.drewN nq = w8 at *
      go_wp2_with fail
      refine HR8.out.mono ?_
      rintro e w9 ⟨v9, rfl, ho9, hb9⟩
      obtain ⟨A9, c9, rfl, _⟩ := Pol.own_ints (xs := []) rfl ho9
      have HB9 := Lib.hid (HB8.out.trans (hb9.mono HB8.out.size))
      clear ho9 hb9 HR8 HB8 q0 q1
      go_wp2_with fail
      go_ret
      exact ⟨rfl, HB9.out⟩
end Go.Proofs.YtnmcjdiihebagaaDoor.Hdg
