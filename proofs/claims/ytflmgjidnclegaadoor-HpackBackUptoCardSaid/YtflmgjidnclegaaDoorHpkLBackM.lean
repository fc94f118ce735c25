/-
  The walk of the law HpackBack.
-/
import Derived.Test.YtflmgjidnclegaaDoorHpkAllM
import Derived.Test.YtflmgjidnclegaaDoorHpkLOwnM
namespace Go.Proofs.YtflmgjidnclegaaDoor.Hpk
open Go.RowKit
open Huff (bytesV BytesAt)
open Tab (Hd hsz tot Hn Tbl HnAt hncs)
theorem resize_least {k z : Nat} {s : ES} (hk : k ≤ z) (hs : s.least ≤ z) : (resize k s).least ≤ z := by
  unfold resize
  simp only
  split
  · exact hk
  · exact hs
set_option maxRecDepth 100000 in
set_option maxHeartbeats 16000000 in
theorem lback_any (n : Int) (A : Option Addr) (cap : Nat) (l : List Bl) (hl : l.length ≤ 1048576) (hL : ∀ x ∈ l, x.L.length ≤ 1048576 ∧ ∀ h ∈ x.L, hsz (h.1, h.2.1) ≤ 1048608) (ad : Er → Addr) (M : Int) (W : World) (G : Glob W (evOf ad) M) (hA : BlAt W A l) :
    Calls Tryd.prog 12 #[.int .i64 n, .slice A l.length cap] W fun e w' => e = .returned (.bool true) ∧ Below W.heap.size W w' := by
  have HG := Lib.hid G
  have HA := Lib.hid hA
  have HL := Lib.hid hL
  have hs0 := G.hs
  clear G hA hL
  go_enter Tryd.func12, Tryd.ntmps12
  go_wp2_with fail
  refine (first_any W HG.out).mono ?_
  rintro e w1 ⟨rfl, hb1⟩
  have HB1 := Lib.hid hb1
  have HA1 := Lib.hid (HA.out.below hb1)
  clear hb1
  go_wp2_with fail
  refine (all_any A cap l hl (fun x hx => (HL.out x hx).1) w1 HA1.out).mono ?_
  rintro e w2 ⟨b, rfl, hb2, hlen⟩
  have HB2 := Lib.hid (HB1.out.trans (hb2.mono HB1.out.size))
  have HLN := Lib.hid hlen
  clear hb2 HB1 HA1 hlen
  cases b with
  | false =>
    go_wp2_with fail
    go_ret
    exact ⟨rfl, HB2.out⟩
  | true =>
  have hl20 := (HLN.out rfl).1
  have HLX := Lib.hid (HLN.out rfl).2
  clear HLN
  by_cases c2 : n < 0
  · have d2 : decide (n < 0) = true := decide_eq_true c2
    go_wp2_with fail
    go_ret
    exact ⟨rfl, HB2.out⟩
  have d2 : decide (n < 0) = false := decide_eq_false c2
  by_cases c3 : 4096 < n
  · have d3 : decide (n > 4096) = true := decide_eq_true c3
    go_wp2_with fail
    go_ret
    exact ⟨rfl, HB2.out⟩
  have d3 : decide (n > 4096) = false := decide_eq_false c3
  obtain ⟨nn, rfl⟩ : ∃ nn : Nat, n = (nn : Int) := ⟨n.toNat, by omega⟩
  have hn : nn ≤ 4096 := by omega
  go_wp2_with fail
  refine (newenc_yes nn hn w2).mono ?_
  rintro e w3 ⟨E, rfl, hE, hb3, he3⟩
  have hE3 := he3.ke.lt
  have hs2 := HB2.out.size
  have hs3 := hb3.size
  have HB3 := Lib.hid (HB2.out.trans (hb3.mono HB2.out.size))
  have HE3 := Lib.hid he3
  clear hb3 he3 HB2 d2 d3 c2 c3
  go_wp2_with fail
  refine (newdec_yes nn hn w3).mono ?_
  rintro e w4 ⟨D, rfl, hD, hb4, kd4, o4, ht4⟩
  have hD4 := kd4.lt
  have HB4 := Lib.hid (HB3.out.trans (hb4.mono HB3.out.size))
  have HE4 := Lib.hid (HE3.out.below hb4)
  have HD4 := Lib.hid (⟨kd4, o4, ht4⟩ : Dec w4 D (w3.heap.size + 1) w3.heap.size nn [] nn false)
  clear hb4 kd4 ht4 HB3 HE3
  obtain ⟨g, hg⟩ : ∃ g, g = w2.heap.size + 1 := ⟨_, rfl⟩
  obtain ⟨r, hr⟩ : ∃ r, r = w2.heap.size := ⟨_, rfl⟩
  obtain ⟨g', hg'⟩ : ∃ g, g = w3.heap.size + 1 := ⟨_, rfl⟩
  obtain ⟨r', hr'⟩ : ∃ r, r = w3.heap.size := ⟨_, rfl⟩
  rw [← hg, ← hr] at HE4
  rw [← hg', ← hr'] at HD4
  go_wp2_with fail
  go_loopw [10] (fun i wr => ∃ (k : Nat) (s : ES) (Q : List Hd) (m : Nat), i = .int .i64 (k : Int) ∧ k ≤ l.length ∧ Enc wr E g r s ∧ Dec wr D g' r' nn Q m false ∧ Sync nn s Q m ∧ s.least ≤ 4096 ∧ Below W.heap.size W wr) (fun i _ => l.length - (intOf i).toNat)
  case atStart => exact ⟨0, es0 nn, [], nn, rfl, Nat.zero_le _, HE4.out, HD4.out, ⟨by simp [tot], Nat.le_refl _, hn, fun _ => ⟨rfl, rfl⟩, fun e => by cases e⟩, Nat.zero_le _, HB4.out⟩
  case round =>
    clear HE4 HD4 HB4
    obtain ⟨k, s, Q, m, rfl, hk, he, hd, hsy, hls, hb⟩ := hrel
    have HB := Lib.hid hb
    by_cases hlt : k < l.length
    · obtain ⟨x, hx⟩ : ∃ x, l[k]? = some x := ⟨_, List.getElem?_eq_getElem hlt⟩
      obtain ⟨b0, off, hAe, hbl, a0, a1, hna⟩ := HA.out k x hx
      obtain ⟨hxl, hxz⟩ := HL.out x (List.mem_of_getElem? hx)
      have hx60 := HLX.out x (List.mem_of_getElem? hx)
      obtain ⟨sz, xA, xc, xL⟩ := x
      simp only at a0 a1 hna hxl hxz hx60
      subst hAe
      have hts := tots_small xL 1048608 1048576 hxl hxz
      have CW : Hid (∀ w, Below W.heap.size W w → w.cell? ⟨b0, off + k * 2, none⟩ = some (.int .i64 sz) ∧ w.cell? ⟨b0, off + k * 2 + 1, none⟩ = some (.slice xA xL.length xc) ∧ HnAt w xA xL) := Lib.hid (fun w hb => ⟨(Below.cell hb (p := ⟨b0, off + k * 2, none⟩) hbl).trans a0, (Below.cell hb (p := ⟨b0, off + k * 2 + 1, none⟩) hbl).trans a1, hna.below hb⟩)
      have HAL := Lib.hid (hnAt_lt hna)
      have hdk : decide ((k : Int) < (l.length : Int)) = true := decide_eq_true (by omega)
      have HE := Lib.hid he
      have HD := Lib.hid hd
      have HSY := Lib.hid hsy
      obtain ⟨p0, p1, hnr⟩ := CW.out wr hb
      have HNR := Lib.hid hnr
      have hws := hb.size
      clear he hd hsy hb hx a0 a1 hna hxz hnr
      go_wp2_with fail
      refine (lsize_any xA xc xL hxl (by omega) wr HNR.out).mono ?_
      rintro e w5 ⟨rfl, hb5⟩
      have hb5' := HB.out.trans (hb5.mono HB.out.size)
      by_cases hbig : 16384 < tots xL
      · have hdb : decide ((tots xL : Int) > 16384) = true := decide_eq_true (by omega)
        have HB5 := Lib.hid hb5'
        clear hb5 hb5'
        go_wp2_with fail
        go_ret
        exact ⟨rfl, HB5.out⟩
      have hdb : decide ((tots xL : Int) > 16384) = false := decide_eq_false (by omega)
      have HB5 := Lib.hid hb5'
      have HE5 := Lib.hid (HE.out.below hb5)
      have HD5 := Lib.hid (HD.out.below hb5)
      obtain ⟨q0, q1, -⟩ := CW.out w5 hb5'
      have hs5 := hb5.size
      clear hb5 hb5' HE HD HB HNR p0 p1
      by_cases cneg : sz < 0
      · have z0 : decide (sz ≥ 0) = false := decide_eq_false (by omega)
        go_wp2_with fail
        clear z0 q0 q1
        obtain ⟨z0, z1, hnx⟩ := CW.out w5 HB5.out
        have hel := HE5.out.lt
        have hdl := HD5.out.lt
        have hwx := HB5.out.size
        have V : EncEnv w5 E g r xA xL M := ⟨hel, by omega, (HG.out.since HB5.out).mx, by omega, hnx, fun ad e h0 => by have := HAL.out ad e h0; omega, sz_of_tots (z := 16384) (by omega) (by omega), by omega⟩
        obtain ⟨hrun, hsync1⟩ := run_encode HSY.out xL (by omega)
        obtain ⟨Bs, hBs⟩ : ∃ Bs, Bs = (encode s xL).1 := ⟨_, rfl⟩
        obtain ⟨s1, hs1⟩ : ∃ s1, s1 = (encode s xL).2 := ⟨_, rfl⟩
        rw [← hBs, ← hs1] at hrun
        rw [← hs1] at hsync1
        have hls1 : s1.least ≤ 4096 := by rw [hs1]; exact hls
        have HC := Lib.hid (encode_any xc HE5.out V (by omega))
        have HRUN := Lib.hid hrun
        have HSY1 := Lib.hid hsync1
        have HBS := Lib.hid hBs
        have HS1 := Lib.hid hs1
        clear z0 hnx V hrun hsync1 hBs hs1
        go_wp2_with fail
        refine HC.out.mono ?_
        rintro e w8 ⟨v8, rfl, ho8, he8, hu8⟩
        rw [← HBS.out] at ho8
        rw [← HS1.out] at he8
        have hb8 := below_upd HB5.out hu8 (by omega) (Nat.le_refl _)
        have hd8 := HD5.out.upd hu8 (by omega) (by omega) (by omega)
        obtain ⟨A8, c8, rfl, -, -⟩ := Tab.own_slice ho8
        have hs8 := hu8.size
        have DC := decode_own (ev := evOf ad) (M := M) Bs hd8 (HG.out.since hb8) (by omega) (by omega) (by omega) hn rfl ho8
        rw [HRUN.out] at DC
        have HDC := Lib.hid DC
        have HE8 := Lib.hid he8
        have HB8 := Lib.hid hb8
        clear HC DC ho8 he8 hu8 hb8 hd8 HE5 HD5 HB5 z1
        go_wp2_with fail
        refine HDC.out.mono ?_
        rintro e w9 ⟨ov, rfl, ho9, hd9, hu9⟩
        simp only at ho9 hd9
        have hb9 := below_upd HB8.out hu9 (by omega) (Nat.le_refl _)
        obtain ⟨A11, c11, rfl, -, -⟩ := Tab.own_slice ho9
        have HM9 := Lib.hid (HnAt.own ho9)
        have HE9 := Lib.hid (HE8.out.upd hu9 (by omega) (by omega) (by omega))
        have HD9 := Lib.hid hd9
        have HB9 := Lib.hid hb9
        obtain ⟨y0, y1, hn9⟩ := CW.out w9 hb9
        have HN9 := Lib.hid hn9
        have Y1 := Lib.hid y1
        clear HDC ho9 hd9 hu9 hb9 hn9 HE8 HB8 y0
        go_wp2_with fail
        clear y1
        go_loopw [14] (fun i wc => ∃ j : Nat, i = .int .i64 (j : Int) ∧ j ≤ xL.length ∧ Since w9 wc) (fun i _ => xL.length - (intOf i).toNat)
        case atStart => exact ⟨0, rfl, Nat.zero_le _, Below.refl _ _⟩
        case round =>
          obtain ⟨j, rfl, hj, hs⟩ := hrel
          by_cases hjl : j < xL.length
          · have hdj : decide ((j : Int) < (xL.length : Int)) = true := decide_eq_true (by omega)
            obtain ⟨h, hh⟩ : ∃ h, xL[j]? = some h := ⟨_, List.getElem?_eq_getElem hjl⟩
            obtain ⟨b1, o1, e1, -, m0, m1, m2⟩ := (HM9.out.below hs) j h hh
            obtain ⟨b2, o2, e2, -, l0, l1, l2⟩ := (HN9.out.below hs) j h hh
            have y1 := Since.cell hs Y1.out
            obtain ⟨nm, vl, nv⟩ := h
            simp only at m0 m1 m2 l0 l1 l2
            subst e1 e2
            have HS := Lib.hid hs
            clear hs hh
            go_wp2_with fail
            refine wp_region_in (Since wr) (Since.drew0 wr) (by kernel_rfl) (by kernel_rfl) ?_
            repeat (first
              | go_big_quiet_skip
              | (go_big_quiet_want; go_big_quiet_op; go_big_quiet_on)
              | (go_big_quiet_want; apply in_val; (· intro W hW; have d0 := hW.cell y1; have d1 := hW.cell m0; have d2 := hW.cell m1; have d3 := hW.cell m2; have d4 := hW.cell l0; have d5 := hW.cell l1; have d6 := hW.cell l2; go_simp; first | done | rfl); simp only [Act.put, List.setIfInBounds_toArray, List.set_cons_zero, List.set_cons_succ]; go_big_quiet_on))
            refine wpQuiet_nil ?_
            intro W1 hW1
            have HS1' := Lib.hid (Below.trans HS.out (Below.mono hW1 (Below.size HS.out)))
            clear hW1 y1 m0 m1 m2 l0 l1 l2 HS
            go_wp2_with fail
            go_roundw
            case rel => exact ⟨j + 1, by go_num, by omega, HS1'.out⟩
            case measure => simp [intOf]; omega
          · have hdj : decide ((j : Int) < (xL.length : Int)) = false := decide_eq_false (by omega)
            have HS := Lib.hid hs
            clear hs
            go_wp2_with fail
            go_roundw
            case rel => exact ⟨k + 1, s1, s1.Q, s1.m, by go_num, by omega, HE9.out.below HS.out, HD9.out.below HS.out, HSY1.out, hls1, HB9.out.trans (Below.mono HS.out HB9.out.size)⟩
            case measure => simp [intOf]; omega
      by_cases cov : (nn : Int) < sz
      · have z0 : decide (sz ≥ 0) = true := decide_eq_true (by omega)
        have z9 : decide (sz ≤ (nn : Int)) = false := decide_eq_false (by omega)
        go_wp2_with fail
        clear z0 z9 q0 q1
        obtain ⟨z0, z1, hnx⟩ := CW.out w5 HB5.out
        have hel := HE5.out.lt
        have hdl := HD5.out.lt
        have hwx := HB5.out.size
        have V : EncEnv w5 E g r xA xL M := ⟨hel, by omega, (HG.out.since HB5.out).mx, by omega, hnx, fun ad e h0 => by have := HAL.out ad e h0; omega, sz_of_tots (z := 16384) (by omega) (by omega), by omega⟩
        obtain ⟨hrun, hsync1⟩ := run_encode HSY.out xL (by omega)
        obtain ⟨Bs, hBs⟩ : ∃ Bs, Bs = (encode s xL).1 := ⟨_, rfl⟩
        obtain ⟨s1, hs1⟩ : ∃ s1, s1 = (encode s xL).2 := ⟨_, rfl⟩
        rw [← hBs, ← hs1] at hrun
        rw [← hs1] at hsync1
        have hls1 : s1.least ≤ 4096 := by rw [hs1]; exact hls
        have HC := Lib.hid (encode_any xc HE5.out V (by omega))
        have HRUN := Lib.hid hrun
        have HSY1 := Lib.hid hsync1
        have HBS := Lib.hid hBs
        have HS1 := Lib.hid hs1
        clear z0 hnx V hrun hsync1 hBs hs1
        go_wp2_with fail
        refine HC.out.mono ?_
        rintro e w8 ⟨v8, rfl, ho8, he8, hu8⟩
        rw [← HBS.out] at ho8
        rw [← HS1.out] at he8
        have hb8 := below_upd HB5.out hu8 (by omega) (Nat.le_refl _)
        have hd8 := HD5.out.upd hu8 (by omega) (by omega) (by omega)
        obtain ⟨A8, c8, rfl, -, -⟩ := Tab.own_slice ho8
        have hs8 := hu8.size
        have DC := decode_own (ev := evOf ad) (M := M) Bs hd8 (HG.out.since hb8) (by omega) (by omega) (by omega) hn rfl ho8
        rw [HRUN.out] at DC
        have HDC := Lib.hid DC
        have HE8 := Lib.hid he8
        have HB8 := Lib.hid hb8
        clear HC DC ho8 he8 hu8 hb8 hd8 HE5 HD5 HB5 z1
        go_wp2_with fail
        refine HDC.out.mono ?_
        rintro e w9 ⟨ov, rfl, ho9, hd9, hu9⟩
        simp only at ho9 hd9
        have hb9 := below_upd HB8.out hu9 (by omega) (Nat.le_refl _)
        obtain ⟨A11, c11, rfl, -, -⟩ := Tab.own_slice ho9
        have HM9 := Lib.hid (HnAt.own ho9)
        have HE9 := Lib.hid (HE8.out.upd hu9 (by omega) (by omega) (by omega))
        have HD9 := Lib.hid hd9
        have HB9 := Lib.hid hb9
        obtain ⟨y0, y1, hn9⟩ := CW.out w9 hb9
        have HN9 := Lib.hid hn9
        have Y1 := Lib.hid y1
        clear HDC ho9 hd9 hu9 hb9 hn9 HE8 HB8 y0
        go_wp2_with fail
        clear y1
        go_loopw [14] (fun i wc => ∃ j : Nat, i = .int .i64 (j : Int) ∧ j ≤ xL.length ∧ Since w9 wc) (fun i _ => xL.length - (intOf i).toNat)
        case atStart => exact ⟨0, rfl, Nat.zero_le _, Below.refl _ _⟩
        case round =>
          obtain ⟨j, rfl, hj, hs⟩ := hrel
          by_cases hjl : j < xL.length
          · have hdj : decide ((j : Int) < (xL.length : Int)) = true := decide_eq_true (by omega)
            obtain ⟨h, hh⟩ : ∃ h, xL[j]? = some h := ⟨_, List.getElem?_eq_getElem hjl⟩
            obtain ⟨b1, o1, e1, -, m0, m1, m2⟩ := (HM9.out.below hs) j h hh
            obtain ⟨b2, o2, e2, -, l0, l1, l2⟩ := (HN9.out.below hs) j h hh
            have y1 := Since.cell hs Y1.out
            obtain ⟨nm, vl, nv⟩ := h
            simp only at m0 m1 m2 l0 l1 l2
            subst e1 e2
            have HS := Lib.hid hs
            clear hs hh
            go_wp2_with fail
            refine wp_region_in (Since wr) (Since.drew0 wr) (by kernel_rfl) (by kernel_rfl) ?_
            repeat (first
              | go_big_quiet_skip
              | (go_big_quiet_want; go_big_quiet_op; go_big_quiet_on)
              | (go_big_quiet_want; apply in_val; (· intro W hW; have d0 := hW.cell y1; have d1 := hW.cell m0; have d2 := hW.cell m1; have d3 := hW.cell m2; have d4 := hW.cell l0; have d5 := hW.cell l1; have d6 := hW.cell l2; go_simp; first | done | rfl); simp only [Act.put, List.setIfInBounds_toArray, List.set_cons_zero, List.set_cons_succ]; go_big_quiet_on))
            refine wpQuiet_nil ?_
            intro W1 hW1
            have HS1' := Lib.hid (Below.trans HS.out (Below.mono hW1 (Below.size HS.out)))
            clear hW1 y1 m0 m1 m2 l0 l1 l2 HS
            go_wp2_with fail
            go_roundw
            case rel => exact ⟨j + 1, by go_num, by omega, HS1'.out⟩
            case measure => simp [intOf]; omega
          · have hdj : decide ((j : Int) < (xL.length : Int)) = false := decide_eq_false (by omega)
            have HS := Lib.hid hs
            clear hs
            go_wp2_with fail
            go_roundw
            case rel => exact ⟨k + 1, s1, s1.Q, s1.m, by go_num, by omega, HE9.out.below HS.out, HD9.out.below HS.out, HSY1.out, hls1, HB9.out.trans (Below.mono HS.out HB9.out.size)⟩
            case measure => simp [intOf]; omega
      · obtain ⟨sn, rfl⟩ : ∃ sn : Nat, sz = (sn : Int) := ⟨sz.toNat, by omega⟩
        have z0 : decide ((sn : Int) ≥ 0) = true := decide_eq_true (by omega)
        have z9 : decide ((sn : Int) ≤ (nn : Int)) = true := decide_eq_true (by omega)
        have HRZ := Lib.hid (encresize_yes HE5.out (by omega) sn (by omega))
        go_wp2_with fail
        refine HRZ.out.mono ?_
        rintro e w6 ⟨rfl, he6, hu6⟩
        have hel5 := HE5.out.lt
        have HE6 := Lib.hid he6
        have HD6 := Lib.hid (HD5.out.upd hu6 (by omega) (by omega) (by omega))
        have HB6 := Lib.hid (below_upd HB5.out hu6 (by omega) (Nat.le_refl _))
        have HSY6 := Lib.hid (HSY.out.resize sn (by omega))
        have hls6 := resize_least (z := 4096) (show sn ≤ 4096 by omega) hls
        have hs6 := hu6.size
        clear HRZ he6 hu6 HE5 HD5 HB5 z0 z9 q0 q1
        obtain ⟨z0, z1, hnx⟩ := CW.out w6 HB6.out
        have hel := HE6.out.lt
        have hdl := HD6.out.lt
        have hwx := HB6.out.size
        have V : EncEnv w6 E g r xA xL M := ⟨hel, by omega, (HG.out.since HB6.out).mx, by omega, hnx, fun ad e h0 => by have := HAL.out ad e h0; omega, sz_of_tots (z := 16384) (by omega) (by omega), by omega⟩
        obtain ⟨hrun, hsync1⟩ := run_encode HSY6.out xL (by omega)
        obtain ⟨Bs, hBs⟩ : ∃ Bs, Bs = (encode (resize sn s) xL).1 := ⟨_, rfl⟩
        obtain ⟨s1, hs1⟩ : ∃ s1, s1 = (encode (resize sn s) xL).2 := ⟨_, rfl⟩
        rw [← hBs, ← hs1] at hrun
        rw [← hs1] at hsync1
        have hls1 : s1.least ≤ 4096 := by rw [hs1]; exact hls6
        have HC := Lib.hid (encode_any xc HE6.out V (by omega))
        have HRUN := Lib.hid hrun
        have HSY1 := Lib.hid hsync1
        have HBS := Lib.hid hBs
        have HS1 := Lib.hid hs1
        clear z0 hnx V hrun hsync1 hBs hs1
        go_wp2_with fail
        refine HC.out.mono ?_
        rintro e w8 ⟨v8, rfl, ho8, he8, hu8⟩
        rw [← HBS.out] at ho8
        rw [← HS1.out] at he8
        have hb8 := below_upd HB6.out hu8 (by omega) (Nat.le_refl _)
        have hd8 := HD6.out.upd hu8 (by omega) (by omega) (by omega)
        obtain ⟨A8, c8, rfl, -, -⟩ := Tab.own_slice ho8
        have hs8 := hu8.size
        have DC := decode_own (ev := evOf ad) (M := M) Bs hd8 (HG.out.since hb8) (by omega) (by omega) (by omega) hn rfl ho8
        rw [HRUN.out] at DC
        have HDC := Lib.hid DC
        have HE8 := Lib.hid he8
        have HB8 := Lib.hid hb8
        clear HC DC ho8 he8 hu8 hb8 hd8 HE6 HD6 HB6 z1
        go_wp2_with fail
        refine HDC.out.mono ?_
        rintro e w9 ⟨ov, rfl, ho9, hd9, hu9⟩
        simp only at ho9 hd9
        have hb9 := below_upd HB8.out hu9 (by omega) (Nat.le_refl _)
        obtain ⟨A11, c11, rfl, -, -⟩ := Tab.own_slice ho9
        have HM9 := Lib.hid (HnAt.own ho9)
        have HE9 := Lib.hid (HE8.out.upd hu9 (by omega) (by omega) (by omega))
        have HD9 := Lib.hid hd9
        have HB9 := Lib.hid hb9
        obtain ⟨y0, y1, hn9⟩ := CW.out w9 hb9
        have HN9 := Lib.hid hn9
        have Y1 := Lib.hid y1
        clear HDC ho9 hd9 hu9 hb9 hn9 HE8 HB8 y0
        go_wp2_with fail
        clear y1
        go_loopw [14] (fun i wc => ∃ j : Nat, i = .int .i64 (j : Int) ∧ j ≤ xL.length ∧ Since w9 wc) (fun i _ => xL.length - (intOf i).toNat)
        case atStart => exact ⟨0, rfl, Nat.zero_le _, Below.refl _ _⟩
        case round =>
          obtain ⟨j, rfl, hj, hs⟩ := hrel
          by_cases hjl : j < xL.length
          · have hdj : decide ((j : Int) < (xL.length : Int)) = true := decide_eq_true (by omega)
            obtain ⟨h, hh⟩ : ∃ h, xL[j]? = some h := ⟨_, List.getElem?_eq_getElem hjl⟩
            obtain ⟨b1, o1, e1, -, m0, m1, m2⟩ := (HM9.out.below hs) j h hh
            obtain ⟨b2, o2, e2, -, l0, l1, l2⟩ := (HN9.out.below hs) j h hh
            have y1 := Since.cell hs Y1.out
            obtain ⟨nm, vl, nv⟩ := h
            simp only at m0 m1 m2 l0 l1 l2
            subst e1 e2
            have HS := Lib.hid hs
            clear hs hh
            go_wp2_with fail
            refine wp_region_in (Since wr) (Since.drew0 wr) (by kernel_rfl) (by kernel_rfl) ?_
            repeat (first
              | go_big_quiet_skip
              | (go_big_quiet_want; go_big_quiet_op; go_big_quiet_on)
              | (go_big_quiet_want; apply in_val; (· intro W hW; have d0 := hW.cell y1; have d1 := hW.cell m0; have d2 := hW.cell m1; have d3 := hW.cell m2; have d4 := hW.cell l0; have d5 := hW.cell l1; have d6 := hW.cell l2; go_simp; first | done | rfl); simp only [Act.put, List.setIfInBounds_toArray, List.set_cons_zero, List.set_cons_succ]; go_big_quiet_on))
            refine wpQuiet_nil ?_
            intro W1 hW1
            have HS1' := Lib.hid (Below.trans HS.out (Below.mono hW1 (Below.size HS.out)))
            clear hW1 y1 m0 m1 m2 l0 l1 l2 HS
            go_wp2_with fail
            go_roundw
            case rel => exact ⟨j + 1, by go_num, by omega, HS1'.out⟩
            case measure => simp [intOf]; omega
          · have hdj : decide ((j : Int) < (xL.length : Int)) = false := decide_eq_false (by omega)
            have HS := Lib.hid hs
            clear hs
            go_wp2_with fail
            go_roundw
            case rel => exact ⟨k + 1, s1, s1.Q, s1.m, by go_num, by omega, HE9.out.below HS.out, HD9.out.below HS.out, HSY1.out, hls1, HB9.out.trans (Below.mono HS.out HB9.out.size)⟩
            case measure => simp [intOf]; omega
    · have hdk : decide ((k : Int) < (l.length : Int)) = false := decide_eq_false (by omega)
      go_wp2_with fail
      go_ret
      exact ⟨rfl, HB.out⟩
end Go.Proofs.YtflmgjidnclegaaDoor.Hpk
