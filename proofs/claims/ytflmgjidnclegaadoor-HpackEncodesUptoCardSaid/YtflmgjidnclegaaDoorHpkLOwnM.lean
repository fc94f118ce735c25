/-
  The walk of the law HpackOwn.
-/
import Derived.Test.YtflmgjidnclegaaDoorHpkLNeverM
namespace Go.Proofs.YtflmgjidnclegaaDoor.Hpk
open Go.RowKit
open Huff (bytesV BytesAt)
open Tab (Hd hsz tot Hn Tbl HnAt hncs findR)
theorem one_len (m : Nat) (Q : List Hd) (hQ : tot Q ≤ 4096) (h : Hn) (hz : hsz (h.1, h.2.1) ≤ 2147483647) : (one m Q h).1.length ≤ hsz (h.1, h.2.1) + 18 := by
  obtain ⟨n, v, nv⟩ := h
  have hql := Tab.tot_len Q
  have hi := findR_le n v Q
  unfold hsz at hz ⊢
  simp only at hz ⊢
  have h1 := putText_len n (by omega)
  have h2 := putText_len v (by omega)
  have ht : ((if (findR n v Q).1 = 0 then putText n else []) ++ putText v).length ≤ n.size + v.size + 12 := by
    rw [List.length_append]
    split
    · omega
    · simp only [List.length_nil]; omega
  have hp : ∀ f b, (putInt f b (findR n v Q).1).length ≤ 6 := fun f b => putInt_len f b _ (by omega)
  by_cases c2 : nv = true
  · subst c2
    have := hp 16 4
    rw [one_nev, List.length_append]
    omega
  · obtain rfl : nv = false := by simpa using c2
    by_cases c1 : (findR n v Q).2 = true
    · have := hp 128 7
      rw [one_hit c1]
      simp only
      omega
    · by_cases c3 : m < hsz (n, v)
      · have := hp 0 4
        rw [one_big c1 c3, List.length_append]
        omega
      · have := hp 64 6
        rw [one_new c1 c3, List.length_append]
        omega
theorem many_len {m : Nat} (hm : m ≤ 4096) : ∀ (L : List Hn) (Q : List Hd), tot Q ≤ 4096 → tots L ≤ 2147483647 → (many m Q L).1.length ≤ tots L + 18 * L.length
  | [], Q, _, _ => Nat.zero_le _
  | h :: L, Q, hQ, hz => by
    have hz' : hsz (h.1, h.2.1) + tots L ≤ 2147483647 := hz
    have h1 := one_len m Q hQ h (by omega)
    have h2 := many_len hm L (one m Q h).2 (one_tot hm hQ h) (by omega)
    show ((one m Q h).1 ++ (many m (one m Q h).2 L).1).length ≤ hsz (h.1, h.2.1) + tots L + 18 * (L.length + 1)
    rw [List.length_append]
    omega
theorem encode_len {s : ES} (hm : s.m ≤ 4096) (hQ : tot s.Q ≤ 4096) (hl : s.least ≤ 2147483647) (L : List Hn) (hz : tots L ≤ 2147483647) : (encode s L).1.length ≤ 12 + tots L + 18 * L.length := by
  have h1 := many_len hm L s.Q hQ hz
  have h2 : (sizes s).length ≤ 12 := by
    have a1 := putInt_len 32 5 s.least hl
    have a2 := putInt_len 32 5 s.m (by omega)
    unfold sizes
    split
    · split
      · rw [List.length_append]; omega
      · rw [List.nil_append]; omega
    · simp
  unfold encode
  simp only
  rw [List.length_append]
  omega
/-- where a slice's array lies -/
def At (A : Option Addr) (i : Nat) : Prop := ∃ ad, A = some ad ∧ ad.block = i
theorem own_at {w : World} {base n c size : Nat} {A : Option Addr} {e : TypeId} {xs : List Value} (h : w.ownsRow base e size (.slice A n c) n xs) : ∀ i, At A i → base ≤ i ∧ i < w.heap.size := by
  rintro i ⟨ad, rfl, rfl⟩
  exact h.lt _ rfl
set_option maxRecDepth 100000 in
set_option maxHeartbeats 8000000 in
theorem lown_any (A : Option Addr) (cap : Nat) (L : List Hn) (hl : L.length ≤ 1048576) (hz : ∀ h ∈ L, hsz (h.1, h.2.1) ≤ 1048608) (ad : Er → Addr) (M : Int) (W : World) (G : Glob W (evOf ad) M) (hA : HnAt W A L) (hAb : ∀ i, At A i → 0 < L.length → i < W.heap.size) :
    Calls Tryd.prog 10 #[.slice A L.length cap] W fun e w' => e = .returned (.bool true) ∧ Below W.heap.size W w' := by
  have HG := Lib.hid G
  have HA := Lib.hid hA
  have HAB := Lib.hid hAb
  have hs0 := G.hs
  have hts := tots_small L 1048608 1048576 hl hz
  clear G hA hz hAb
  go_enter Tryd.func10, Tryd.ntmps10
  go_wp2_with fail
  refine (first_any W HG.out).mono ?_
  rintro e w1 ⟨rfl, hb1⟩
  have HB1 := Lib.hid hb1
  have HA1 := Lib.hid (HA.out.below hb1)
  clear hb1
  go_wp2_with fail
  refine (light_any A cap L (by omega) w1 HA1.out).mono ?_
  rintro e w2 ⟨b, rfl, hb2, hlen⟩
  have HB2 := Lib.hid (HB1.out.trans (hb2.mono HB1.out.size))
  have HA2 := Lib.hid (HA1.out.below hb2)
  clear hb2 HB1 HA1
  cases b with
  | false =>
    go_wp2_with fail
    go_ret
    exact ⟨rfl, HB2.out⟩
  | true =>
  have hlen := hlen rfl
  go_wp2_with fail
  refine (lsize_any A cap L hl (by omega) w2 HA2.out).mono ?_
  rintro e w3 ⟨rfl, hb3⟩
  have HB3 := Lib.hid (HB2.out.trans (hb3.mono HB2.out.size))
  have HA3 := Lib.hid (HA2.out.below hb3)
  clear hb3 HB2 HA2
  by_cases hbig : 16384 < tots L
  · have hd : decide ((tots L : Int) > 16384) = true := decide_eq_true (by omega)
    go_wp2_with fail
    go_ret
    exact ⟨rfl, HB3.out⟩
  have hd : decide ((tots L : Int) > 16384) = false := decide_eq_false (by omega)
  go_wp2_with fail
  refine (Tab.hdrs_any A cap L (by omega) w3 HA3.out).mono ?_
  rintro e w4 ⟨A4, c4, rfl, ho4, hb4⟩
  have hs3 := HB3.out.size
  have hs4 := hb4.size
  have HB4 := Lib.hid (HB3.out.trans (hb4.mono HB3.out.size))
  have HA4 := Lib.hid (HA3.out.below hb4)
  have HK4 := Lib.hid (HnAt.own ho4)
  have HAT4 := Lib.hid (own_at ho4)
  clear hb4 ho4 HB3 HA3 hd
  go_wp2_with fail
  refine (newenc_yes 4096 (by omega) w4).mono ?_
  rintro e w5 ⟨E, rfl, hE, hb5, he5⟩
  have hE5 := he5.ke.lt
  have hs5 := hb5.size
  have HB5 := Lib.hid hb5
  have HE5 := Lib.hid he5
  clear hb5 he5
  go_wp2_with fail
  refine (newdec_yes 4096 (by omega) w5).mono ?_
  rintro e w6 ⟨D, rfl, hD, hb6, kd6, o6, ht6⟩
  have hD6 := kd6.lt
  have hs6 := hb6.size
  have HB6 := Lib.hid (HB5.out.trans (hb6.mono HB5.out.size))
  have HE6 := Lib.hid (HE5.out.below hb6)
  have HD6 := Lib.hid (⟨kd6, o6, ht6⟩ : Dec w6 D (w5.heap.size + 1) w5.heap.size 4096 [] 4096 false)
  clear hb6 kd6 ht6 HB5 HE5
  obtain ⟨g, hg⟩ : ∃ g, g = w4.heap.size + 1 := ⟨_, rfl⟩
  obtain ⟨r, hr⟩ : ∃ r, r = w4.heap.size := ⟨_, rfl⟩
  obtain ⟨g', hg'⟩ : ∃ g, g = w5.heap.size + 1 := ⟨_, rfl⟩
  obtain ⟨r', hr'⟩ : ∃ r, r = w5.heap.size := ⟨_, rfl⟩
  rw [← hg, ← hr] at HE6
  rw [← hg', ← hr'] at HD6
  go_wp2_with fail
  go_loopw [9] (fun i wr => ∃ (q : Nat) (Q : List Hd), i = .int .i64 (q : Int) ∧ q ≤ 3 ∧ tot Q ≤ 4096 ∧ Enc wr E g r ⟨Q, 4096, 0, false⟩ ∧ Dec wr D g' r' 4096 Q 4096 false ∧ Below w4.heap.size w4 wr) (fun i _ => 3 - (intOf i).toNat)
  case atStart => exact ⟨0, [], rfl, by omega, by simp [tot], HE6.out, HD6.out, HB6.out⟩
  case round =>
    clear HE6 HD6 HB6
    obtain ⟨q, Q, rfl, hq, hQ, he, hd, hb⟩ := hrel
    have HB := Lib.hid hb
    by_cases hq3 : q < 3
    · have hdq : decide ((q : Int) < 3) = true := decide_eq_true (by omega)
      have hw : Below W.heap.size W wr := HB4.out.trans (hb.mono HB4.out.size)
      have hws := hw.size
      have hwb := hb.size
      have G7 := HG.out.since hw
      have hel := he.lt
      have hdl := hd.lt
      have V : EncEnv wr E g r A L M := ⟨hel, by omega, G7.mx, by omega, HA4.out.below hb, fun ad e h0 => by have := HAB.out ad.block ⟨ad, e, rfl⟩ h0; omega, sz_of_tots (z := 16384) (by omega) (by omega), by omega⟩
      have hBl := encode_len (s := ⟨Q, 4096, 0, false⟩) (Nat.le_refl _) hQ (Nat.zero_le _) L (by omega)
      obtain ⟨hrun, hsync1⟩ := run_encode (limit := 4096) (s := ⟨Q, 4096, 0, false⟩) (Q := Q) (m := 4096) ⟨hQ, Nat.le_refl _, Nat.le_refl _, fun _ => ⟨rfl, rfl⟩, fun e => by cases e⟩ L (by omega)
      obtain ⟨Bs, hBs⟩ : ∃ Bs, Bs = (encode ⟨Q, 4096, 0, false⟩ L).1 := ⟨_, rfl⟩
      obtain ⟨Q1, hQ1⟩ : ∃ Q1, Q1 = (many 4096 Q L).2 := ⟨_, rfl⟩
      have he2 : (encode ⟨Q, 4096, 0, false⟩ L).2 = ⟨Q1, 4096, 0, false⟩ := by rw [hQ1]; rfl
      rw [he2] at hrun hsync1
      rw [← hBs] at hrun hBl
      have hQ1t : tot Q1 ≤ 4096 := hsync1.1
      have HC := Lib.hid (encode_any cap he V (Nat.zero_le _))
      have HRUN := Lib.hid hrun
      have HE2 := Lib.hid he2
      have HBS := Lib.hid hBs
      have HD := Lib.hid hd
      clear he hd hb hw G7 V hrun hsync1 he2 hBs hQ1
      go_wp2_with fail
      refine HC.out.mono ?_
      rintro e w8 ⟨v8, rfl, ho8, he8, hu8⟩
      rw [HE2.out] at he8
      rw [← HBS.out] at ho8
      have hb8 := below_upd HB.out hu8 (by omega) (Nat.le_refl _)
      have HD8 := Lib.hid (HD.out.upd hu8 (by omega) (by omega) (by omega))
      obtain ⟨A8, c8, rfl, hx8, -, -⟩ := own_bytes rfl ho8
      have HO8 := Lib.hid ho8
      have HAT8 := Lib.hid (own_at ho8)
      have hs8 := hu8.size
      have HE8 := Lib.hid he8
      have HB8 := Lib.hid hb8
      have HX8 := Lib.hid hx8
      clear HC ho8 he8 hu8 hb8 hx8 HD HB
      go_wp2_with fail
      refine (bytes_any A8 c8 Bs (by omega) w8 HX8.out).mono ?_
      rintro e w9 ⟨v9, rfl, ho9, hb9⟩
      have hb9' := HB8.out.trans (hb9.mono HB8.out.size)
      obtain ⟨A9, c9, rfl, -, -⟩ := Tab.own_slice ho9
      have hs9 := hb9.size
      have DC := decode_own (ev := evOf ad) (M := M) Bs (HD8.out.below hb9) (HG.out.since (HB4.out.trans (hb9'.mono HB4.out.size))) (by omega) (by omega) (by omega) (by omega) rfl ho9
      rw [HRUN.out] at DC
      have HDC := Lib.hid DC
      have HO9 := Lib.hid (own_in HO8.out hb9)
      have HE9 := Lib.hid (HE8.out.below hb9)
      have HB9 := Lib.hid hb9'
      clear DC ho9 hb9 hb9' HO8 HE8 HB8 HD8 HX8
      go_wp2_with fail
      refine HDC.out.mono ?_
      rintro e w10 ⟨ov, rfl, ho10, hd10, hu10⟩
      simp only at ho10 hd10
      have hb10 := below_upd HB9.out hu10 (by omega) (Nat.le_refl _)
      obtain ⟨A11, c11, rfl, -, -⟩ := Tab.own_slice ho10
      have HSH := Lib.hid (same_headers A11 A4 c11 c4 L (by omega) w10 (HnAt.own ho10) (HK4.out.below hb10))
      have HO10 := Lib.hid (hu10.own HO9.out (fun b hb hi => by have := (HO9.out.lt b hb).1; omega))
      have HE10 := Lib.hid (HE9.out.upd hu10 (by omega) (by omega) (by omega))
      have HB10 := Lib.hid hb10
      have HD10 := Lib.hid hd10
      have HP10 := Lib.hid ho10
      clear HDC ho10 hd10 hu10 hb10 HO9 HE9 HB9
      go_wp2_with fail
      refine HSH.out.mono ?_
      rintro e wb ⟨rfl, hbb⟩
      have HOB := Lib.hid (own_in HO10.out hbb)
      have HEB := Lib.hid (HE10.out.below hbb)
      have HDB := Lib.hid (HD10.out.below hbb)
      have HPB := Lib.hid (own_in HP10.out hbb)
      have HBB := Lib.hid (HB10.out.trans (hbb.mono HB10.out.size))
      have HAT11 := Lib.hid (own_at HP10.out)
      clear HSH hbb HO10 HE10 HD10 HP10 HB10
      go_wp2_with fail
      go_loopw [13] (fun i wc => ∃ (k : Nat) (xs : List Value), i = .int .i64 (k : Int) ∧ k ≤ Bs.length ∧ wc.ownsRow wr.heap.size 5 1 (.slice A8 Bs.length c8) Bs.length xs ∧ Upd3 wb wc (At A8)) (fun i _ => Bs.length - (intOf i).toNat)
      case atStart => exact ⟨0, _, rfl, Nat.zero_le _, HOB.out, Upd3.refl _ _⟩
      case round =>
        clear HOB
        obtain ⟨k, xs, rfl, hk, ho, hu⟩ := hrel
        by_cases hlt : k < Bs.length
        · have hdk : decide ((k : Int) < (Bs.length : Int)) = true := decide_eq_true (by omega)
          obtain ⟨gb, cb, e⟩ := ownsRow_forms' ho (by omega)
          injection e with e1 _ e3
          subst e1 e3
          have f := ho.frozenAt k
          have c := ho.cellAt k (by omega)
          obtain ⟨u, hu1⟩ : ∃ u, xs[k]? = some u := ⟨_, List.getElem?_eq_getElem (by have := ho.1; omega)⟩
          rw [hu1] at c
          have HO := Lib.hid (ho.stored k (.int .u8 238)).1
          have HU := Lib.hid (hu.setCell (p := ⟨gb, k, none⟩) (Or.inl ⟨_, rfl, rfl⟩) (.int .u8 238))
          clear ho hu hu1
          go_wp2_with fail
          go_roundw
          case rel => exact ⟨k + 1, _, by go_num, by omega, HO.out, HU.out⟩
          case measure => simp [intOf]; omega
        · have hdk : decide ((k : Int) < (Bs.length : Int)) = false := decide_eq_false (by omega)
          have HU := Lib.hid hu
          clear ho hu
          go_wp2_with fail
          have HPC := Lib.hid (HU.out.own HPB.out (fun b hb hF => by have h1 := (HPB.out.lt b hb).1; have h2 := (HAT8.out b hF).2; omega))
          have HEC := Lib.hid (HEB.out.upd HU.out (fun h => by have := (HAT8.out _ h).1; omega) (fun h => by have := (HAT8.out _ h).1; omega) (fun h => by have := (HAT8.out _ h).1; omega))
          have HDC := Lib.hid (HDB.out.upd HU.out (fun h => by have := (HAT8.out _ h).1; omega) (fun h => by have := (HAT8.out _ h).1; omega) (fun h => by have := (HAT8.out _ h).1; omega))
          have HBC := Lib.hid (below_upd HBB.out HU.out (fun i h => by have := (HAT8.out _ h).1; omega) (Nat.le_refl _))
          clear HU HPB HEB HDB HBB
          go_loopw [14] (fun i wd => ∃ (j : Nat) (xs : List Value), i = .int .i64 (j : Int) ∧ j ≤ L.length ∧ wd.ownsRow w9.heap.size 23 3 (.slice A11 L.length c11) L.length xs ∧ Upd3 wr wd (At A11)) (fun i _ => L.length - (intOf i).toNat)
          case atStart => exact ⟨0, _, rfl, Nat.zero_le _, HPC.out, Upd3.refl _ _⟩
          case round =>
            clear HPC
            obtain ⟨j, xs, rfl, hj, ho, hu⟩ := hrel
            by_cases hlt2 : j < L.length
            · have hdj : decide ((j : Int) < (L.length : Int)) = true := decide_eq_true (by omega)
              obtain ⟨gb, cb, e⟩ := ownsRow_forms' ho (by omega)
              injection e with e1 _ e3
              subst e1 e3
              have hxl := ho.1
              have f0 := ho.frozenAt (j * 3)
              have c0 := ho.cellAt (j * 3) (by omega)
              obtain ⟨u, hu1⟩ : ∃ u, xs[j * 3]? = some u := ⟨_, List.getElem?_eq_getElem (by omega)⟩
              rw [hu1] at c0
              have ho2 := (ho.stored (j * 3) (.string ⟨#[115, 112, 111, 105, 108, 116]⟩)).1
              have f1 := ho2.frozenAt (j * 3 + 1)
              have c1 := ho2.cellAt (j * 3 + 1) (by omega)
              obtain ⟨u', hu2⟩ : ∃ u, (xs.set (j * 3) (.string ⟨#[115, 112, 111, 105, 108, 116]⟩))[j * 3 + 1]? = some u := ⟨_, List.getElem?_eq_getElem (by rw [List.length_set]; omega)⟩
              rw [hu2] at c1
              have HO := Lib.hid (ho2.stored (j * 3 + 1) (.string ⟨#[115, 112, 111, 105, 108, 116]⟩)).1
              have HU := Lib.hid ((hu.setCell (p := ⟨gb, j * 3, none⟩) (Or.inl ⟨_, rfl, rfl⟩) (.string ⟨#[115, 112, 111, 105, 108, 116]⟩)).setCell (p := ⟨gb, j * 3 + 1, none⟩) (Or.inl ⟨_, rfl, rfl⟩) (.string ⟨#[115, 112, 111, 105, 108, 116]⟩))
              clear ho ho2 hu hu1 hu2 hxl
              go_wp2_with fail
              go_roundw
              case rel => exact ⟨j + 1, _, by go_num, by omega, HO.out, HU.out⟩
              case measure => simp [intOf]; omega
            · have hdj : decide ((j : Int) < (L.length : Int)) = false := decide_eq_false (by omega)
              have HU := Lib.hid hu
              clear ho hu
              go_wp2_with fail
              go_roundw
              case rel => exact ⟨q + 1, Q1, by go_num, by omega, hQ1t, HEC.out.upd HU.out (fun h => by have := (HAT11.out _ h).1; omega) (fun h => by have := (HAT11.out _ h).1; omega) (fun h => by have := (HAT11.out _ h).1; omega), HDC.out.upd HU.out (fun h => by have := (HAT11.out _ h).1; omega) (fun h => by have := (HAT11.out _ h).1; omega) (fun h => by have := (HAT11.out _ h).1; omega), below_upd HBC.out HU.out (fun i h => by have := (HAT11.out _ h).1; omega) (Nat.le_refl _)⟩
              case measure => simp [intOf]; omega
    · have hdq : decide ((q : Int) < 3) = false := decide_eq_false (by omega)
      have HSH := Lib.hid (same_headers A A4 cap c4 L (by omega) wr (HA4.out.below hb) (HK4.out.below hb))
      go_wp2_with fail
      refine HSH.out.mono ?_
      rintro e wa ⟨rfl, hba⟩
      have HBA := Lib.hid (HB4.out.trans ((HB.out.trans (hba.mono HB.out.size)).mono HB4.out.size))
      go_wp2_with fail
      go_ret
      exact ⟨rfl, HBA.out⟩
end Go.Proofs.YtflmgjidnclegaaDoor.Hpk
