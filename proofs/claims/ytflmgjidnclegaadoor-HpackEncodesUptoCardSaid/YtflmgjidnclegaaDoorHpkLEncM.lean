/-
  The walk of the law HpackEncodes.
-/
import Derived.Test.YtflmgjidnclegaaDoorHpkAllM
import Derived.Test.YtflmgjidnclegaaDoorHpkLOwnM
import Derived.Test.YtflmgjidnclegaaDoorHpkREncM
namespace Go.Proofs.YtflmgjidnclegaaDoor.Hpk
open Go.RowKit
open Huff (bytesV BytesAt)
open Tab (Hd hsz tot Hn Tbl HnAt hncs)
theorem eql_err (ad : Addr) (W : World) : (binOp .eql 35 (.iface 149 (.pointer (some ad))) (.iface 149 (.pointer (some ad)))).run Tryd.prog W = .ok (.bool true) W := by
  obtain ⟨i, hi, hc⟩ := Option.map_eq_some_iff.1 infoE
  obtain ⟨j, hj⟩ := Option.isSome_iff_exists.1 infoS
  exact run_eql_iface_ptr_same W ad Tryd.underlying35 Tryd.underlying149 hi hc hj
theorem resize_least' {k z : Nat} {s : ES} (hk : k ≤ z) (hs : s.least ≤ z) : (resize k s).least ≤ z := by
  unfold resize
  simp only
  split
  · exact hk
  · exact hs
theorem encode_least (s : ES) (L : List Hn) : (encode s L).2.least = s.least := rfl
set_option maxRecDepth 100000 in
set_option maxHeartbeats 16000000 in
theorem lencodes_any (n : Int) (A : Option Addr) (cap : Nat) (l : List Bl) (hl : l.length ≤ 1048576) (hL : ∀ x ∈ l, x.L.length ≤ 1048576 ∧ ∀ h ∈ x.L, hsz (h.1, h.2.1) ≤ 1048608) (ad : Er → Addr) (M : Int) (W : World) (G : Glob W (evOf ad) M) (hA : BlAt W A l) :
    Calls Tryd.prog 11 #[.int .i64 n, .slice A l.length cap] W fun e w' => e = .returned (.bool true) ∧ Below W.heap.size W w' := by
  have HG := Lib.hid G
  have HA := Lib.hid hA
  have HL := Lib.hid hL
  have hs0 := G.hs
  clear G hA hL
  go_enter Tryd.func11, Tryd.ntmps11
  go_wp2_with fail
  refine (first_any W HG.out).mono ?_
  rintro e w1 ⟨rfl, hb1⟩
  have HB1 := Lib.hid hb1
  have HA1 := Lib.hid (HA.out.below hb1)
  clear hb1
  go_wp2_with fail
  refine (all_any A cap l hl (fun x hx => (HL.out x hx).1) w1 HA1.out).mono ?_
  rintro e w2 ⟨b, rfl, hb2, hlen⟩
  have HB2 := Lib.hid (HB1.out.trans (hb2.mono HB1.out.size))
  have HLN := Lib.hid hlen
  clear hb2 HB1 HA1 hlen
  cases b with
  | false =>
    go_wp2_with fail
    go_ret
    exact ⟨rfl, HB2.out⟩
  | true =>
  have hl20 := (HLN.out rfl).1
  have HLX := Lib.hid (HLN.out rfl).2
  clear HLN
  by_cases cno : n < 0 ∨ 4096 < n
  · have G2 := HG.out.since HB2.out
    have eg := (G2.er .table).1
    have HN := Lib.hid (newenc_no n cno (evOf ad .table) w2 eg (G2.er .table).2.2)
    have hcase : (decide (n < 0) = true) ∨ (decide (n < 0) = false ∧ decide (n > 4096) = true) := by
      by_cases h : n < 0
      · exact .inl (decide_eq_true h)
      · exact .inr ⟨decide_eq_false h, decide_eq_true (by omega)⟩
    go_wp2_with fail
    refine HN.out.mono ?_
    rintro e w3 ⟨rfl, q, rfl⟩
    have eg2 : (w2.drewN q).cell? ⟨0, 0, none⟩ = some (evOf ad .table) := eg
    unfold evOf at eg2 ⊢
    have HQ := eql_err (ad .table) (w2.drewN q)
    have HBD := Lib.hid (below_drewN HB2.out q)
    clear HN eg G2
    rcases hcase with h | ⟨h, h'⟩
    · go_wp2_with fail
      go_ret
      exact ⟨rfl, HBD.out⟩
    · go_wp2_with fail
      go_ret
      exact ⟨rfl, HBD.out⟩
  have d2 : decide (n < 0) = false := decide_eq_false (by omega)
  have d3 : decide (n > 4096) = false := decide_eq_false (by omega)
  obtain ⟨nn, rfl⟩ : ∃ nn : Nat, n = (nn : Int) := ⟨n.toNat, by omega⟩
  have hn : nn ≤ 4096 := by omega
  go_wp2_with fail
  refine (newenc_yes nn hn w2).mono ?_
  rintro e w3 ⟨E, rfl, hE, hb3, he3⟩
  have hE3 := he3.ke.lt
  have hs2 := HB2.out.size
  have hs3 := hb3.size
  have HB3 := Lib.hid (HB2.out.trans (hb3.mono HB2.out.size))
  have HE3 := Lib.hid he3
  clear hb3 he3 HB2
  go_wp2_with fail
  obtain ⟨g, hg⟩ : ∃ g, g = w2.heap.size + 1 := ⟨_, rfl⟩
  obtain ⟨r, hr⟩ : ∃ r, r = w2.heap.size := ⟨_, rfl⟩
  rw [← hg, ← hr] at HE3
  obtain ⟨Bq, hBq⟩ : ∃ Bq, Bq = w3.heap.size := ⟨_, rfl⟩
  refine (rnewenc_any nn hn w3 Bq r).mono ?_
  rintro e w4 ⟨X, x, rfl, hx3, hxX, hb4, hr4⟩
  have hX4 := hr4.lt
  have HB4 := Lib.hid (HB3.out.trans (hb4.mono HB3.out.size))
  have HE4 := Lib.hid (HE3.out.below hb4)
  have HR4 := Lib.hid hr4
  have hs4 := hb4.size
  clear hb4 hr4 HB3 HE3 d2 d3 cno
  go_wp2_with fail
  go_loopw [9] (fun i wr => ∃ (k : Nat) (s : ES), i = .int .i64 (k : Int) ∧ k ≤ l.length ∧ Enc wr E g r s ∧ REnc wr Bq X x r s ∧ s.least ≤ 4096 ∧ Below W.heap.size W wr) (fun i _ => l.length - (intOf i).toNat)
  case atStart => exact ⟨0, es0 nn, rfl, Nat.zero_le _, HE4.out, HR4.out, Nat.zero_le _, HB4.out⟩
  case round =>
    clear HE4 HR4 HB4
    obtain ⟨k, s, rfl, hk, he, hrr, hls, hb⟩ := hrel
    have HB := Lib.hid hb
    by_cases hlt : k < l.length
    · obtain ⟨x0, hx⟩ : ∃ x, l[k]? = some x := ⟨_, List.getElem?_eq_getElem hlt⟩
      obtain ⟨b0, off, hAe, hbl, a0, a1, hna⟩ := HA.out k x0 hx
      obtain ⟨hxl, hxz⟩ := HL.out x0 (List.mem_of_getElem? hx)
      have hx60 := HLX.out x0 (List.mem_of_getElem? hx)
      obtain ⟨sz, xA, xc, xL⟩ := x0
      simp only at a0 a1 hna hxl hxz hx60
      subst hAe
      have hts := tots_small xL 1048608 1048576 hxl hxz
      have HSZ : Hid (∀ h ∈ xL, h.1.size ≤ 2147483647 ∧ h.2.1.size ≤ 2147483647) := Lib.hid (fun h hh => by have := hxz h hh; unfold Tab.hsz at this; simp only at this; omega)
      have HZZ : Hid (∀ h ∈ xL, hsz (h.1, h.2.1) ≤ 2147483647) := Lib.hid (fun h hh => Nat.le_trans (hxz h hh) (by omega))
      have CW : Hid (∀ w, Below W.heap.size W w → w.cell? ⟨b0, off + k * 2, none⟩ = some (.int .i64 sz) ∧ w.cell? ⟨b0, off + k * 2 + 1, none⟩ = some (.slice xA xL.length xc) ∧ HnAt w xA xL) := Lib.hid (fun w hb => ⟨(Below.cell hb (p := ⟨b0, off + k * 2, none⟩) hbl).trans a0, (Below.cell hb (p := ⟨b0, off + k * 2 + 1, none⟩) hbl).trans a1, hna.below hb⟩)
      have HAL := Lib.hid (hnAt_lt hna)
      have hdk : decide ((k : Int) < (l.length : Int)) = true := decide_eq_true (by omega)
      have HE := Lib.hid he
      have HR := Lib.hid hrr
      have hel := he.lt
      have hrl := hrr.lt
      obtain ⟨p0, p1, -⟩ := CW.out wr hb
      have G5 := Lib.hid (HG.out.since hb)
      have hws := hb.size
      clear he hrr hb hx a0 a1 hna hxz hbl
      by_cases cm1 : sz = -1
      · subst cm1
        by_cases h3 : k % 3 = 2
        · have hm3 : (Int.tmod (k : Int) 3 == 2) = true := by have : Int.tmod (k : Int) 3 = ((k % 3 : Nat) : Int) := rfl; rw [this, h3]; rfl
          go_wp2_with fail
          go_roundw
          case rel => exact ⟨k + 1, s, by go_num, by omega, HE.out, HR.out, hls, HB.out⟩
          case measure => simp [intOf]; omega
        · have hm3 : (Int.tmod (k : Int) 3 == 2) = false := by have : Int.tmod (k : Int) 3 = ((k % 3 : Nat) : Int) := rfl; rw [this]; simp; omega
          obtain ⟨z0, z1, hnx⟩ := CW.out wr HB.out
          have HNX := Lib.hid hnx
          clear hnx z0
          go_wp2_with fail
          refine (Tab.hdrs_any xA xc xL (by omega) wr HNX.out).mono ?_
          rintro e w6 ⟨A6, c6, rfl, ho6, hb6⟩
          have HB6 := Lib.hid (HB.out.trans (hb6.mono HB.out.size))
          have HE6 := Lib.hid (HE.out.below hb6)
          have HR6 := Lib.hid (HR.out.below hb6)
          have HK6 := Lib.hid (HnAt.own ho6)
          have HAT6 := Lib.hid (own_at ho6)
          have hel6 := HE6.out.lt
          have hrl6 := HR6.out.lt
          have hlw := HE.out.lt
          have hrlw := HR.out.lt
          have hs6 := hb6.size
          obtain ⟨y0, y1, hn6⟩ := CW.out w6 HB6.out
          have V : EncEnv w6 E g r xA xL M := ⟨hel6, by omega, (HG.out.since HB6.out).mx, by omega, hn6, fun ad e h0 => by have := HAL.out ad e h0; omega, HSZ.out, by omega⟩
          have HC := Lib.hid (encode_any xc HE6.out V (by omega))
          clear ho6 hb6 y0 hn6 V z1 HE HR HB HNX
          go_wp2_with fail
          refine HC.out.mono ?_
          rintro e w8 ⟨v8, rfl, ho8, he8, hu8⟩
          have hs8 := hu8.size
          have HB8 := Lib.hid (below_upd HB6.out hu8 (by omega) (Nat.le_refl _))
          have hr8 := HR6.out.upd hu8 (by omega) (by omega) (fun i hi => by rcases hi with rfl | rfl | rfl; exact .inr (.inr (.inl (by omega))); exact .inr (.inr (.inl (by omega))); exact .inl rfl)
          have HK8 := Lib.hid (HnAt.upd HK6.out hu8 (fun ad e => by have := (HAT6.out _ ⟨ad, e, rfl⟩).1; omega))
          obtain ⟨Bs, hBs⟩ : ∃ Bs, Bs = (encode s xL).1 := ⟨_, rfl⟩
          obtain ⟨s1, hs1⟩ : ∃ s1, s1 = (encode s xL).2 := ⟨_, rfl⟩
          rw [← hBs] at ho8
          rw [← hs1] at he8
          have hls1 : s1.least ≤ 4096 := by rw [hs1]; exact hls
          obtain ⟨A8, c8, rfl, hx8, -, hA8⟩ := own_bytes rfl ho8
          have HO8 := Lib.hid ho8
          obtain ⟨y0, y1, hn8⟩ := CW.out w8 HB8.out
          have HRC := rencode_any xc hr8 (by omega) (by omega) (by omega) hn8 (fun ad e h0 => by have := HAL.out ad e h0; omega) HZZ.out (by omega)
          unfold REncodeEnd at HRC
          rw [← hBs, ← hs1] at HRC
          have HRC := Lib.hid HRC
          have HE8 := Lib.hid he8
          have HAT8 := Lib.hid (own_at ho8)
          have HX8 := Lib.hid hx8
          clear HC ho8 he8 hu8 hr8 hx8 hA8 hn8 y0 hBs hs1 HE6 HR6 HK6
          go_wp2_with fail
          refine HRC.out.mono ?_
          rintro e w10 ⟨v10, rfl, ho10, hr10, hu10⟩
          obtain ⟨A10, c10, rfl, hx10, -, -⟩ := own_bytes rfl ho10
          have hxa := BytesAt.upd HX8.out hu10 (fun ad e => by have := (HAT8.out _ ⟨ad, e, rfl⟩).1; omega)
          have HSB := Lib.hid (Huff.same_any Bs Bs A8 A10 c8 c10 w10 hxa hx10)
          have HB10 := Lib.hid (below_upd HB8.out hu10 (by omega) (Nat.le_refl _))
          have HE10 := Lib.hid (HE8.out.upd hu10 (by omega) (by omega) (by omega))
          have HR10 := Lib.hid hr10
          have hk10 := HnAt.upd HK8.out hu10 (fun ad e => by have := (HAT6.out _ ⟨ad, e, rfl⟩).1; omega)
          obtain ⟨y0, yy1, hn10⟩ := CW.out w10 HB10.out
          have HSH := Lib.hid (fun (W' : World) (hW : Since w10 W') => same_headers xA A6 xc c6 xL (by omega) W' (hn10.below hW) (hk10.below hW))
          have HLS := Lib.hid (fun (W' : World) (hW : Since w10 W') => lsize_any xA xc xL hxl (by omega) W' (hn10.below hW))
          have HRS := Lib.hid (fun (W' : World) (hW : Since w10 W') => rlsize_any xA xc xL hxl (by omega) W' (hn10.below hW))
          have HY := Lib.hid yy1
          clear HRC ho10 hr10 hu10 hx10 hxa hk10 y0 hn10 yy1 y1 HE8 HB8 HK8 HX8 HO8
          go_wp2_with fail
          refine HSB.out.mono ?_
          rintro e w11 ⟨rfl, rfl⟩
          have y1 := HY.out
          rw [show decide True = true from rfl]
          go_wp2_with fail
          refine wp_region_in (Since w10) (Since.drew0 w10) (by kernel_rfl) (by kernel_rfl) ?_
          repeat (first
            | go_big_quiet_skip
            | (go_big_quiet_want; go_big_quiet_op; go_big_quiet_on)
            | (go_big_quiet_want; apply in_val; (· intro W hW; have d0 := hW.cell y1; go_simp; first | done | rfl); simp only [Act.put, List.setIfInBounds_toArray, List.set_cons_zero, List.set_cons_succ]; go_big_quiet_on)
            | (go_big_quiet_want; apply in_q; (· intro W hW; go_simp; first | (go_at_call 42; with_reducible exact hW.call (HSH.out W hW)) | (go_at_call 36; with_reducible exact hW.call (HLS.out W hW)) | (go_at_call 51; with_reducible exact hW.call (HRS.out W hW))); simp only [Act.put, List.setIfInBounds_toArray, List.set_cons_zero, List.set_cons_succ]; go_big_quiet_on))
          refine wpQuiet_nil ?_
          intro w12 hW12
          have HEF := Lib.hid (HE10.out.below hW12)
          have HRF := Lib.hid (HR10.out.below hW12)
          have HBF := Lib.hid (HB10.out.trans (Below.mono hW12 HB10.out.size))
          clear hW12 y1 HE10 HR10 HB10 HSH HLS HRS HSB
          go_wp2_with fail
          go_roundw
          case rel => exact ⟨k + 1, s1, by go_num, by omega, HEF.out, HRF.out, hls1, HBF.out⟩
          case measure => simp [intOf]; omega
      by_cases cyes : 0 ≤ sz ∧ sz ≤ 4096
      · obtain ⟨sn, rfl⟩ : ∃ sn : Nat, sz = (sn : Int) := ⟨sz.toNat, by omega⟩
        have z0 : decide ((sn : Int) ≥ 0) = true := decide_eq_true (by omega)
        have z9 : decide ((sn : Int) ≤ 4096) = true := decide_eq_true (by omega)
        have zn : ((sn : Int) == -1) = false := by first | (simp; done) | (simp; omega)
        have HRZ := Lib.hid (encresize_yes HE.out (by omega) sn (by omega))
        go_wp2_with fail
        refine HRZ.out.mono ?_
        rintro e w4' ⟨rfl, he4, hu4⟩
        have hb4 := below_upd HB.out hu4 (by omega) (Nat.le_refl _)
        have hr4 := HR.out.upd hu4 (by omega) (by omega) (fun i hi => by rcases hi with rfl | rfl | rfl; exact .inr (.inr (.inl (by omega))); exact .inr (.inr (.inl (by omega))); exact .inl rfl)
        have hs4' := hu4.size
        have HRZ2 := Lib.hid (rencresize_any hr4 (by omega) (by omega) sn (by omega))
        have HE4' := Lib.hid he4
        have HB4' := Lib.hid hb4
        obtain ⟨p0', p1', -⟩ := CW.out w4' hb4
        clear HRZ he4 hu4 hb4 hr4 HE HR HB p0 p1
        go_wp2_with fail
        refine HRZ2.out.mono ?_
        rintro e w5 ⟨rfl, hr5, hu5⟩
        have hel4 := HE4'.out.lt
        have HR5 := Lib.hid hr5
        have HE5 := Lib.hid (HE4'.out.upd hu5 (by omega) (by omega) (by omega))
        have HB5 := Lib.hid (below_upd HB4'.out hu5 (by omega) (Nat.le_refl _))
        have hls5 := resize_least' (z := 4096) (show sn ≤ 4096 by omega) hls
        have hs5 := hu5.size
        clear HRZ2 hr5 hu5 HE4' HB4' p0' p1' z0 z9 zn
        by_cases h3 : k % 3 = 2
        · have hm3 : (Int.tmod (k : Int) 3 == 2) = true := by have : Int.tmod (k : Int) 3 = ((k % 3 : Nat) : Int) := rfl; rw [this, h3]; rfl
          go_wp2_with fail
          go_roundw
          case rel => exact ⟨k + 1, (resize sn s), by go_num, by omega, HE5.out, HR5.out, hls5, HB5.out⟩
          case measure => simp [intOf]; omega
        · have hm3 : (Int.tmod (k : Int) 3 == 2) = false := by have : Int.tmod (k : Int) 3 = ((k % 3 : Nat) : Int) := rfl; rw [this]; simp; omega
          obtain ⟨z0, z1, hnx⟩ := CW.out w5 HB5.out
          have HNX := Lib.hid hnx
          clear hnx z0
          go_wp2_with fail
          refine (Tab.hdrs_any xA xc xL (by omega) w5 HNX.out).mono ?_
          rintro e w6 ⟨A6, c6, rfl, ho6, hb6⟩
          have HB6 := Lib.hid (HB5.out.trans (hb6.mono HB5.out.size))
          have HE6 := Lib.hid (HE5.out.below hb6)
          have HR6 := Lib.hid (HR5.out.below hb6)
          have HK6 := Lib.hid (HnAt.own ho6)
          have HAT6 := Lib.hid (own_at ho6)
          have hel6 := HE6.out.lt
          have hrl6 := HR6.out.lt
          have hlw := HE5.out.lt
          have hrlw := HR5.out.lt
          have hs6 := hb6.size
          obtain ⟨y0, y1, hn6⟩ := CW.out w6 HB6.out
          have V : EncEnv w6 E g r xA xL M := ⟨hel6, by omega, (HG.out.since HB6.out).mx, by omega, hn6, fun ad e h0 => by have := HAL.out ad e h0; omega, HSZ.out, by omega⟩
          have HC := Lib.hid (encode_any xc HE6.out V (by omega))
          clear ho6 hb6 y0 hn6 V z1 HE5 HR5 HB5 HNX
          go_wp2_with fail
          refine HC.out.mono ?_
          rintro e w8 ⟨v8, rfl, ho8, he8, hu8⟩
          have hs8 := hu8.size
          have HB8 := Lib.hid (below_upd HB6.out hu8 (by omega) (Nat.le_refl _))
          have hr8 := HR6.out.upd hu8 (by omega) (by omega) (fun i hi => by rcases hi with rfl | rfl | rfl; exact .inr (.inr (.inl (by omega))); exact .inr (.inr (.inl (by omega))); exact .inl rfl)
          have HK8 := Lib.hid (HnAt.upd HK6.out hu8 (fun ad e => by have := (HAT6.out _ ⟨ad, e, rfl⟩).1; omega))
          obtain ⟨Bs, hBs⟩ : ∃ Bs, Bs = (encode (resize sn s) xL).1 := ⟨_, rfl⟩
          obtain ⟨s1, hs1⟩ : ∃ s1, s1 = (encode (resize sn s) xL).2 := ⟨_, rfl⟩
          rw [← hBs] at ho8
          rw [← hs1] at he8
          have hls1 : s1.least ≤ 4096 := by rw [hs1]; exact hls5
          obtain ⟨A8, c8, rfl, hx8, -, hA8⟩ := own_bytes rfl ho8
          have HO8 := Lib.hid ho8
          obtain ⟨y0, y1, hn8⟩ := CW.out w8 HB8.out
          have HRC := rencode_any xc hr8 (by omega) (by omega) (by omega) hn8 (fun ad e h0 => by have := HAL.out ad e h0; omega) HZZ.out (by omega)
          unfold REncodeEnd at HRC
          rw [← hBs, ← hs1] at HRC
          have HRC := Lib.hid HRC
          have HE8 := Lib.hid he8
          have HAT8 := Lib.hid (own_at ho8)
          have HX8 := Lib.hid hx8
          clear HC ho8 he8 hu8 hr8 hx8 hA8 hn8 y0 hBs hs1 HE6 HR6 HK6
          go_wp2_with fail
          refine HRC.out.mono ?_
          rintro e w10 ⟨v10, rfl, ho10, hr10, hu10⟩
          obtain ⟨A10, c10, rfl, hx10, -, -⟩ := own_bytes rfl ho10
          have hxa := BytesAt.upd HX8.out hu10 (fun ad e => by have := (HAT8.out _ ⟨ad, e, rfl⟩).1; omega)
          have HSB := Lib.hid (Huff.same_any Bs Bs A8 A10 c8 c10 w10 hxa hx10)
          have HB10 := Lib.hid (below_upd HB8.out hu10 (by omega) (Nat.le_refl _))
          have HE10 := Lib.hid (HE8.out.upd hu10 (by omega) (by omega) (by omega))
          have HR10 := Lib.hid hr10
          have hk10 := HnAt.upd HK8.out hu10 (fun ad e => by have := (HAT6.out _ ⟨ad, e, rfl⟩).1; omega)
          obtain ⟨y0, yy1, hn10⟩ := CW.out w10 HB10.out
          have HSH := Lib.hid (fun (W' : World) (hW : Since w10 W') => same_headers xA A6 xc c6 xL (by omega) W' (hn10.below hW) (hk10.below hW))
          have HLS := Lib.hid (fun (W' : World) (hW : Since w10 W') => lsize_any xA xc xL hxl (by omega) W' (hn10.below hW))
          have HRS := Lib.hid (fun (W' : World) (hW : Since w10 W') => rlsize_any xA xc xL hxl (by omega) W' (hn10.below hW))
          have HY := Lib.hid yy1
          clear HRC ho10 hr10 hu10 hx10 hxa hk10 y0 hn10 yy1 y1 HE8 HB8 HK8 HX8 HO8
          go_wp2_with fail
          refine HSB.out.mono ?_
          rintro e w11 ⟨rfl, rfl⟩
          have y1 := HY.out
          rw [show decide True = true from rfl]
          go_wp2_with fail
          refine wp_region_in (Since w10) (Since.drew0 w10) (by kernel_rfl) (by kernel_rfl) ?_
          repeat (first
            | go_big_quiet_skip
            | (go_big_quiet_want; go_big_quiet_op; go_big_quiet_on)
            | (go_big_quiet_want; apply in_val; (· intro W hW; have d0 := hW.cell y1; go_simp; first | done | rfl); simp only [Act.put, List.setIfInBounds_toArray, List.set_cons_zero, List.set_cons_succ]; go_big_quiet_on)
            | (go_big_quiet_want; apply in_q; (· intro W hW; go_simp; first | (go_at_call 42; with_reducible exact hW.call (HSH.out W hW)) | (go_at_call 36; with_reducible exact hW.call (HLS.out W hW)) | (go_at_call 51; with_reducible exact hW.call (HRS.out W hW))); simp only [Act.put, List.setIfInBounds_toArray, List.set_cons_zero, List.set_cons_succ]; go_big_quiet_on))
          refine wpQuiet_nil ?_
          intro w12 hW12
          have HEF := Lib.hid (HE10.out.below hW12)
          have HRF := Lib.hid (HR10.out.below hW12)
          have HBF := Lib.hid (HB10.out.trans (Below.mono hW12 HB10.out.size))
          clear hW12 y1 HE10 HR10 HB10 HSH HLS HRS HSB
          go_wp2_with fail
          go_roundw
          case rel => exact ⟨k + 1, s1, by go_num, by omega, HEF.out, HRF.out, hls1, HBF.out⟩
          case measure => simp [intOf]; omega
      · have zn : (sz == -1) = false := by simp; omega
        have HRZ := Lib.hid (encresize_no HE.out sz (by omega) (evOf ad .table) (G5.out.er .table).1 (G5.out.er .table).2.2)
        have hcase : (decide (sz ≥ 0) = false) ∨ (decide (sz ≥ 0) = true ∧ decide (sz ≤ 4096) = false) := by
          by_cases h : sz < 0
          · exact .inl (decide_eq_false (by omega))
          · exact .inr ⟨decide_eq_true (by omega), decide_eq_false (by omega)⟩
        unfold evOf at HRZ
        rcases hcase with z0 | ⟨z0, z9⟩
        · go_wp2_with fail
          refine HRZ.out.mono ?_
          rintro e w5 ⟨rfl, rfl⟩
          clear HRZ p0 p1 zn z0
          by_cases h3 : k % 3 = 2
          · have hm3 : (Int.tmod (k : Int) 3 == 2) = true := by have : Int.tmod (k : Int) 3 = ((k % 3 : Nat) : Int) := rfl; rw [this, h3]; rfl
            go_wp2_with fail
            go_roundw
            case rel => exact ⟨k + 1, s, by go_num, by omega, HE.out, HR.out, hls, HB.out⟩
            case measure => simp [intOf]; omega
          · have hm3 : (Int.tmod (k : Int) 3 == 2) = false := by have : Int.tmod (k : Int) 3 = ((k % 3 : Nat) : Int) := rfl; rw [this]; simp; omega
            obtain ⟨z0, z1, hnx⟩ := CW.out wr HB.out
            have HNX := Lib.hid hnx
            clear hnx z0
            go_wp2_with fail
            refine (Tab.hdrs_any xA xc xL (by omega) wr HNX.out).mono ?_
            rintro e w6 ⟨A6, c6, rfl, ho6, hb6⟩
            have HB6 := Lib.hid (HB.out.trans (hb6.mono HB.out.size))
            have HE6 := Lib.hid (HE.out.below hb6)
            have HR6 := Lib.hid (HR.out.below hb6)
            have HK6 := Lib.hid (HnAt.own ho6)
            have HAT6 := Lib.hid (own_at ho6)
            have hel6 := HE6.out.lt
            have hrl6 := HR6.out.lt
            have hlw := HE.out.lt
            have hrlw := HR.out.lt
            have hs6 := hb6.size
            obtain ⟨y0, y1, hn6⟩ := CW.out w6 HB6.out
            have V : EncEnv w6 E g r xA xL M := ⟨hel6, by omega, (HG.out.since HB6.out).mx, by omega, hn6, fun ad e h0 => by have := HAL.out ad e h0; omega, HSZ.out, by omega⟩
            have HC := Lib.hid (encode_any xc HE6.out V (by omega))
            clear ho6 hb6 y0 hn6 V z1 HE HR HB HNX
            go_wp2_with fail
            refine HC.out.mono ?_
            rintro e w8 ⟨v8, rfl, ho8, he8, hu8⟩
            have hs8 := hu8.size
            have HB8 := Lib.hid (below_upd HB6.out hu8 (by omega) (Nat.le_refl _))
            have hr8 := HR6.out.upd hu8 (by omega) (by omega) (fun i hi => by rcases hi with rfl | rfl | rfl; exact .inr (.inr (.inl (by omega))); exact .inr (.inr (.inl (by omega))); exact .inl rfl)
            have HK8 := Lib.hid (HnAt.upd HK6.out hu8 (fun ad e => by have := (HAT6.out _ ⟨ad, e, rfl⟩).1; omega))
            obtain ⟨Bs, hBs⟩ : ∃ Bs, Bs = (encode s xL).1 := ⟨_, rfl⟩
            obtain ⟨s1, hs1⟩ : ∃ s1, s1 = (encode s xL).2 := ⟨_, rfl⟩
            rw [← hBs] at ho8
            rw [← hs1] at he8
            have hls1 : s1.least ≤ 4096 := by rw [hs1]; exact hls
            obtain ⟨A8, c8, rfl, hx8, -, hA8⟩ := own_bytes rfl ho8
            have HO8 := Lib.hid ho8
            obtain ⟨y0, y1, hn8⟩ := CW.out w8 HB8.out
            have HRC := rencode_any xc hr8 (by omega) (by omega) (by omega) hn8 (fun ad e h0 => by have := HAL.out ad e h0; omega) HZZ.out (by omega)
            unfold REncodeEnd at HRC
            rw [← hBs, ← hs1] at HRC
            have HRC := Lib.hid HRC
            have HE8 := Lib.hid he8
            have HAT8 := Lib.hid (own_at ho8)
            have HX8 := Lib.hid hx8
            clear HC ho8 he8 hu8 hr8 hx8 hA8 hn8 y0 hBs hs1 HE6 HR6 HK6
            go_wp2_with fail
            refine HRC.out.mono ?_
            rintro e w10 ⟨v10, rfl, ho10, hr10, hu10⟩
            obtain ⟨A10, c10, rfl, hx10, -, -⟩ := own_bytes rfl ho10
            have hxa := BytesAt.upd HX8.out hu10 (fun ad e => by have := (HAT8.out _ ⟨ad, e, rfl⟩).1; omega)
            have HSB := Lib.hid (Huff.same_any Bs Bs A8 A10 c8 c10 w10 hxa hx10)
            have HB10 := Lib.hid (below_upd HB8.out hu10 (by omega) (Nat.le_refl _))
            have HE10 := Lib.hid (HE8.out.upd hu10 (by omega) (by omega) (by omega))
            have HR10 := Lib.hid hr10
            have hk10 := HnAt.upd HK8.out hu10 (fun ad e => by have := (HAT6.out _ ⟨ad, e, rfl⟩).1; omega)
            obtain ⟨y0, yy1, hn10⟩ := CW.out w10 HB10.out
            have HSH := Lib.hid (fun (W' : World) (hW : Since w10 W') => same_headers xA A6 xc c6 xL (by omega) W' (hn10.below hW) (hk10.below hW))
            have HLS := Lib.hid (fun (W' : World) (hW : Since w10 W') => lsize_any xA xc xL hxl (by omega) W' (hn10.below hW))
            have HRS := Lib.hid (fun (W' : World) (hW : Since w10 W') => rlsize_any xA xc xL hxl (by omega) W' (hn10.below hW))
            have HY := Lib.hid yy1
            clear HRC ho10 hr10 hu10 hx10 hxa hk10 y0 hn10 yy1 y1 HE8 HB8 HK8 HX8 HO8
            go_wp2_with fail
            refine HSB.out.mono ?_
            rintro e w11 ⟨rfl, rfl⟩
            have y1 := HY.out
            rw [show decide True = true from rfl]
            go_wp2_with fail
            refine wp_region_in (Since w10) (Since.drew0 w10) (by kernel_rfl) (by kernel_rfl) ?_
            repeat (first
              | go_big_quiet_skip
              | (go_big_quiet_want; go_big_quiet_op; go_big_quiet_on)
              | (go_big_quiet_want; apply in_val; (· intro W hW; have d0 := hW.cell y1; go_simp; first | done | rfl); simp only [Act.put, List.setIfInBounds_toArray, List.set_cons_zero, List.set_cons_succ]; go_big_quiet_on)
              | (go_big_quiet_want; apply in_q; (· intro W hW; go_simp; first | (go_at_call 42; with_reducible exact hW.call (HSH.out W hW)) | (go_at_call 36; with_reducible exact hW.call (HLS.out W hW)) | (go_at_call 51; with_reducible exact hW.call (HRS.out W hW))); simp only [Act.put, List.setIfInBounds_toArray, List.set_cons_zero, List.set_cons_succ]; go_big_quiet_on))
            refine wpQuiet_nil ?_
            intro w12 hW12
            have HEF := Lib.hid (HE10.out.below hW12)
            have HRF := Lib.hid (HR10.out.below hW12)
            have HBF := Lib.hid (HB10.out.trans (Below.mono hW12 HB10.out.size))
            clear hW12 y1 HE10 HR10 HB10 HSH HLS HRS HSB
            go_wp2_with fail
            go_roundw
            case rel => exact ⟨k + 1, s1, by go_num, by omega, HEF.out, HRF.out, hls1, HBF.out⟩
            case measure => simp [intOf]; omega
        · go_wp2_with fail
          refine HRZ.out.mono ?_
          rintro e w5 ⟨rfl, rfl⟩
          clear HRZ p0 p1 zn z0 z9
          by_cases h3 : k % 3 = 2
          · have hm3 : (Int.tmod (k : Int) 3 == 2) = true := by have : Int.tmod (k : Int) 3 = ((k % 3 : Nat) : Int) := rfl; rw [this, h3]; rfl
            go_wp2_with fail
            go_roundw
            case rel => exact ⟨k + 1, s, by go_num, by omega, HE.out, HR.out, hls, HB.out⟩
            case measure => simp [intOf]; omega
          · have hm3 : (Int.tmod (k : Int) 3 == 2) = false := by have : Int.tmod (k : Int) 3 = ((k % 3 : Nat) : Int) := rfl; rw [this]; simp; omega
            obtain ⟨z0, z1, hnx⟩ := CW.out wr HB.out
            have HNX := Lib.hid hnx
            clear hnx z0
            go_wp2_with fail
            refine (Tab.hdrs_any xA xc xL (by omega) wr HNX.out).mono ?_
            rintro e w6 ⟨A6, c6, rfl, ho6, hb6⟩
            have HB6 := Lib.hid (HB.out.trans (hb6.mono HB.out.size))
            have HE6 := Lib.hid (HE.out.below hb6)
            have HR6 := Lib.hid (HR.out.below hb6)
            have HK6 := Lib.hid (HnAt.own ho6)
            have HAT6 := Lib.hid (own_at ho6)
            have hel6 := HE6.out.lt
            have hrl6 := HR6.out.lt
            have hlw := HE.out.lt
            have hrlw := HR.out.lt
            have hs6 := hb6.size
            obtain ⟨y0, y1, hn6⟩ := CW.out w6 HB6.out
            have V : EncEnv w6 E g r xA xL M := ⟨hel6, by omega, (HG.out.since HB6.out).mx, by omega, hn6, fun ad e h0 => by have := HAL.out ad e h0; omega, HSZ.out, by omega⟩
            have HC := Lib.hid (encode_any xc HE6.out V (by omega))
            clear ho6 hb6 y0 hn6 V z1 HE HR HB HNX
            go_wp2_with fail
            refine HC.out.mono ?_
            rintro e w8 ⟨v8, rfl, ho8, he8, hu8⟩
            have hs8 := hu8.size
            have HB8 := Lib.hid (below_upd HB6.out hu8 (by omega) (Nat.le_refl _))
            have hr8 := HR6.out.upd hu8 (by omega) (by omega) (fun i hi => by rcases hi with rfl | rfl | rfl; exact .inr (.inr (.inl (by omega))); exact .inr (.inr (.inl (by omega))); exact .inl rfl)
            have HK8 := Lib.hid (HnAt.upd HK6.out hu8 (fun ad e => by have := (HAT6.out _ ⟨ad, e, rfl⟩).1; omega))
            obtain ⟨Bs, hBs⟩ : ∃ Bs, Bs = (encode s xL).1 := ⟨_, rfl⟩
            obtain ⟨s1, hs1⟩ : ∃ s1, s1 = (encode s xL).2 := ⟨_, rfl⟩
            rw [← hBs] at ho8
            rw [← hs1] at he8
            have hls1 : s1.least ≤ 4096 := by rw [hs1]; exact hls
            obtain ⟨A8, c8, rfl, hx8, -, hA8⟩ := own_bytes rfl ho8
            have HO8 := Lib.hid ho8
            obtain ⟨y0, y1, hn8⟩ := CW.out w8 HB8.out
            have HRC := rencode_any xc hr8 (by omega) (by omega) (by omega) hn8 (fun ad e h0 => by have := HAL.out ad e h0; omega) HZZ.out (by omega)
            unfold REncodeEnd at HRC
            rw [← hBs, ← hs1] at HRC
            have HRC := Lib.hid HRC
            have HE8 := Lib.hid he8
            have HAT8 := Lib.hid (own_at ho8)
            have HX8 := Lib.hid hx8
            clear HC ho8 he8 hu8 hr8 hx8 hA8 hn8 y0 hBs hs1 HE6 HR6 HK6
            go_wp2_with fail
            refine HRC.out.mono ?_
            rintro e w10 ⟨v10, rfl, ho10, hr10, hu10⟩
            obtain ⟨A10, c10, rfl, hx10, -, -⟩ := own_bytes rfl ho10
            have hxa := BytesAt.upd HX8.out hu10 (fun ad e => by have := (HAT8.out _ ⟨ad, e, rfl⟩).1; omega)
            have HSB := Lib.hid (Huff.same_any Bs Bs A8 A10 c8 c10 w10 hxa hx10)
            have HB10 := Lib.hid (below_upd HB8.out hu10 (by omega) (Nat.le_refl _))
            have HE10 := Lib.hid (HE8.out.upd hu10 (by omega) (by omega) (by omega))
            have HR10 := Lib.hid hr10
            have hk10 := HnAt.upd HK8.out hu10 (fun ad e => by have := (HAT6.out _ ⟨ad, e, rfl⟩).1; omega)
            obtain ⟨y0, yy1, hn10⟩ := CW.out w10 HB10.out
            have HSH := Lib.hid (fun (W' : World) (hW : Since w10 W') => same_headers xA A6 xc c6 xL (by omega) W' (hn10.below hW) (hk10.below hW))
            have HLS := Lib.hid (fun (W' : World) (hW : Since w10 W') => lsize_any xA xc xL hxl (by omega) W' (hn10.below hW))
            have HRS := Lib.hid (fun (W' : World) (hW : Since w10 W') => rlsize_any xA xc xL hxl (by omega) W' (hn10.below hW))
            have HY := Lib.hid yy1
            clear HRC ho10 hr10 hu10 hx10 hxa hk10 y0 hn10 yy1 y1 HE8 HB8 HK8 HX8 HO8
            go_wp2_with fail
            refine HSB.out.mono ?_
            rintro e w11 ⟨rfl, rfl⟩
            have y1 := HY.out
            rw [show decide True = true from rfl]
            go_wp2_with fail
            refine wp_region_in (Since w10) (Since.drew0 w10) (by kernel_rfl) (by kernel_rfl) ?_
            repeat (first
              | go_big_quiet_skip
              | (go_big_quiet_want; go_big_quiet_op; go_big_quiet_on)
              | (go_big_quiet_want; apply in_val; (· intro W hW; have d0 := hW.cell y1; go_simp; first | done | rfl); simp only [Act.put, List.setIfInBounds_toArray, List.set_cons_zero, List.set_cons_succ]; go_big_quiet_on)
              | (go_big_quiet_want; apply in_q; (· intro W hW; go_simp; first | (go_at_call 42; with_reducible exact hW.call (HSH.out W hW)) | (go_at_call 36; with_reducible exact hW.call (HLS.out W hW)) | (go_at_call 51; with_reducible exact hW.call (HRS.out W hW))); simp only [Act.put, List.setIfInBounds_toArray, List.set_cons_zero, List.set_cons_succ]; go_big_quiet_on))
            refine wpQuiet_nil ?_
            intro w12 hW12
            have HEF := Lib.hid (HE10.out.below hW12)
            have HRF := Lib.hid (HR10.out.below hW12)
            have HBF := Lib.hid (HB10.out.trans (Below.mono hW12 HB10.out.size))
            clear hW12 y1 HE10 HR10 HB10 HSH HLS HRS HSB
            go_wp2_with fail
            go_roundw
            case rel => exact ⟨k + 1, s1, by go_num, by omega, HEF.out, HRF.out, hls1, HBF.out⟩
            case measure => simp [intOf]; omega
    · have hdk : decide ((k : Int) < (l.length : Int)) = false := decide_eq_false (by omega)
      go_wp2_with fail
      go_ret
      exact ⟨rfl, HB.out⟩
end Go.Proofs.YtflmgjidnclegaaDoor.Hpk
