/-
  The walk of the law HpackNever.
-/
import Derived.Test.YtflmgjidnclegaaDoorHpkLightM
namespace Go.Proofs.YtflmgjidnclegaaDoor.Hpk
open Go.RowKit
open Huff (bytesV BytesAt)
open Tab (Hd hsz tot Hn Tbl HnAt hncs)
theorem ownsRow_forms' {w : World} {base size n c : Nat} {A : Option Addr} {e : TypeId} {xs : List Value} (h : w.ownsRow base e size (.slice A n c) n xs) (hn : 0 < n) : ∃ g cap, Value.slice A n c = .slice (some ⟨g, 0, none⟩) n cap := by
  rcases h.2 with ⟨_, h0⟩ | ⟨g, cap, cur, hv, _⟩
  · omega
  · exact ⟨g, cap, hv⟩
theorem hncs_flag (L : List Hn) (k : Nat) (h : k < L.length) : (hncs L)[k * 3 + 2]? = some (.bool (L[k]'h).2.2) := (Tab.hncs_at L k _ (List.getElem?_eq_getElem h)).2.2
theorem Enc.lt {w : World} {E g r : Nat} {s : ES} (h : Enc w E g r s) : E < w.heap.size ∧ g < w.heap.size ∧ r < w.heap.size := by
  obtain ⟨o, ht⟩ := h.kt
  obtain ⟨cs, hr, _⟩ := ht.kr
  exact ⟨h.ke.lt, ht.kg.lt, hr.lt⟩
theorem Dec.lt {w : World} {D g r lim m : Nat} {Q : List Hd} {b : Bool} (h : Dec w D g r lim Q m b) : g < w.heap.size ∧ r < w.heap.size ∧ D < w.heap.size := by
  obtain ⟨o, ht⟩ := h.kt
  obtain ⟨cs, hr, _⟩ := ht.kr
  exact ⟨ht.kg.lt, hr.lt, h.kd.lt⟩
theorem sz_of_tots {L : List Hn} {z : Nat} (h : tots L ≤ z) (hz : z ≤ 2147483647) : ∀ x ∈ L, x.1.size ≤ 2147483647 ∧ x.2.1.size ≤ 2147483647 := by
  intro x hx
  have := hsz_le_tots L x hx
  unfold Tab.hsz at this
  simp only at this
  omega
theorem enc_never (L : List Hn) (h : ∀ x ∈ L, x.2.2 = true) : (encode (es0 4096) L).2 = es0 4096 := by
  unfold encode es0
  simp only
  rw [many_never 4096 [] L h]
theorem run_never (L : List Hn) (h : ∀ x ∈ L, x.2.2 = true) (hL : tots L ≤ 16384) : run 4096 (encode (es0 4096) L).1.length ⟨(encode (es0 4096) L).1, [], 0, [], 4096⟩ = .ok ⟨[], L, tots L, [], 4096⟩ := by
  have h1 := (run_encode (limit := 4096) (s := es0 4096) (Q := []) (m := 4096) ⟨by decide, by decide, by decide, fun _ => ⟨rfl, rfl⟩, fun e => by cases e⟩ L hL).1
  rw [enc_never L h] at h1
  exact h1
set_option maxRecDepth 100000 in
set_option maxHeartbeats 4000000 in
theorem lnever_any (A : Option Addr) (cap : Nat) (L : List Hn) (hl : L.length ≤ 1048576) (hz : ∀ h ∈ L, hsz (h.1, h.2.1) ≤ 1048608) (ad : Er → Addr) (M : Int) (W : World) (G : Glob W (evOf ad) M) (hA : HnAt W A L) :
    Calls Tryd.prog 8 #[.slice A L.length cap] W fun e w' => e = .returned (.bool true) ∧ Below W.heap.size W w' := by
  have HG := Lib.hid G
  have HA := Lib.hid hA
  have hs0 := G.hs
  have hts := tots_small L 1048608 1048576 hl hz
  have HZ := Lib.hid hz
  clear G hA hz
  go_enter Tryd.func8, Tryd.ntmps8
  go_wp2_with fail
  refine (first_any W HG.out).mono ?_
  rintro e w1 ⟨rfl, hb1⟩
  have HB1 := Lib.hid hb1
  have HA1 := Lib.hid (HA.out.below hb1)
  clear hb1
  go_wp2_with fail
  refine (light_any A cap L (by omega) w1 HA1.out).mono ?_
  rintro e w2 ⟨b, rfl, hb2, hlen⟩
  have HB2 := Lib.hid (HB1.out.trans (hb2.mono HB1.out.size))
  have HA2 := Lib.hid (HA1.out.below hb2)
  clear hb2 HB1 HA1
  cases b with
  | false =>
    go_wp2_with fail
    go_ret
    exact ⟨rfl, HB2.out⟩
  | true =>
  have hlen := hlen rfl
  go_wp2_with fail
  refine (lsize_any A cap L hl (by omega) w2 HA2.out).mono ?_
  rintro e w3 ⟨rfl, hb3⟩
  have HB3 := Lib.hid (HB2.out.trans (hb3.mono HB2.out.size))
  have HA3 := Lib.hid (HA2.out.below hb3)
  clear hb3 HB2 HA2
  by_cases hbig : 16384 < tots L
  · have hd : decide ((tots L : Int) > 16384) = true := decide_eq_true (by omega)
    go_wp2_with fail
    go_ret
    exact ⟨rfl, HB3.out⟩
  have hd : decide ((tots L : Int) > 16384) = false := decide_eq_false (by omega)
  go_wp2_with fail
  refine (newenc_yes 4096 (by omega) w3).mono ?_
  rintro e w4 ⟨E, rfl, hE, hb4, he4⟩
  have hE4 := he4.ke.lt
  have hs3 := HB3.out.size
  have hs4 := hb4.size
  have HB4 := Lib.hid (HB3.out.trans (hb4.mono HB3.out.size))
  have HA4 := Lib.hid (HA3.out.below hb4)
  have HE4 := Lib.hid he4
  clear hb4 he4 HB3 HA3 hd
  go_wp2_with fail
  refine (newdec_yes 4096 (by omega) w4).mono ?_
  rintro e w5 ⟨D, rfl, hD, hb5, kd5, o5, ht5⟩
  have hD5 := kd5.lt
  have hs5 := hb5.size
  have HB5 := Lib.hid (HB4.out.trans (hb5.mono HB4.out.size))
  have HA5 := Lib.hid (HA4.out.below hb5)
  have HE5 := Lib.hid (HE4.out.below hb5)
  have HD5 := Lib.hid (⟨kd5, o5, ht5⟩ : Dec w5 D (w4.heap.size + 1) w4.heap.size 4096 [] 4096 false)
  clear hb5 kd5 ht5 HB4 HA4 HE4
  go_wp2_with fail
  refine (Tab.hdrs_any A cap L (by omega) w5 HA5.out).mono ?_
  rintro e w6 ⟨A6, c6, rfl, ho6, hb6⟩
  obtain ⟨g, hg⟩ : ∃ g, g = w3.heap.size + 1 := ⟨_, rfl⟩
  obtain ⟨r, hr⟩ : ∃ r, r = w3.heap.size := ⟨_, rfl⟩
  obtain ⟨g', hg'⟩ : ∃ g, g = w4.heap.size + 1 := ⟨_, rfl⟩
  obtain ⟨r', hr'⟩ : ∃ r, r = w4.heap.size := ⟨_, rfl⟩
  rw [← hg, ← hr] at HE5
  rw [← hg', ← hr'] at HD5
  obtain ⟨n, hn⟩ : ∃ n, n = L.length := ⟨_, rfl⟩
  have hA6 : Hid (∀ ad, A6 = some ad → w5.heap.size ≤ ad.block) := Lib.hid (fun ad e => by subst e; exact (ho6.lt _ rfl).1)
  have HO6 := Lib.hid ho6
  have HB6 := Lib.hid hb6
  have HN := Lib.hid hn
  rw [← hn] at HO6 hl ⊢
  clear ho6 hb6 hn HA5
  go_wp2_with fail
  go_loopw [9] (fun i wr => ∃ k : Nat, i = .int .i64 (k : Int) ∧ k ≤ n ∧ wr.ownsRow w5.heap.size 23 3 (.slice A6 n c6) n (hncs (nevTo k L)) ∧ Below w5.heap.size w5 wr) (fun i _ => n - (intOf i).toNat)
  case atStart => exact ⟨0, rfl, Nat.zero_le _, HO6.out, HB6.out⟩
  case round =>
    clear HO6 HB6
    obtain ⟨k, rfl, hk, ho, hb⟩ := hrel
    have HB := Lib.hid hb
    by_cases hlt : k < n
    · have hdk : decide ((k : Int) < (n : Int)) = true := decide_eq_true (by omega)
      obtain ⟨gb, cb, e⟩ := ownsRow_forms' ho (by omega)
      injection e with e1 _ e3
      subst e1 e3
      have hgb := (ho.lt gb rfl).1
      have f := ho.frozenAt (k * 3 + 2)
      have c := ho.cellAt (k * 3 + 2) (by omega)
      rw [hncs_flag (nevTo k L) k (by rw [nevTo_len, ← HN.out]; exact hlt)] at c
      have ho2 := ho.stored (k * 3 + 2) (.bool true)
      rw [nevTo_set k L (by rw [← HN.out]; exact hlt)] at ho2
      have HO := Lib.hid ho2
      have hb2 := hb.setCell (p := ⟨gb, k * 3 + 2, none⟩) hgb (.bool true)
      have HB2 := Lib.hid hb2
      clear ho ho2 hb hb2 HB
      go_wp2_with fail
      go_roundw
      case rel => exact ⟨k + 1, by go_num, by omega, HO.out.1, HB2.out⟩
      case measure => simp [intOf]; omega
    · have hdk : decide ((k : Int) < (n : Int)) = false := decide_eq_false (by omega)
      have hkn : k = L.length := by have := HN.out; omega
      rw [hkn] at ho
      obtain ⟨Ln, hLn⟩ : ∃ Ln, Ln = nevTo L.length L := ⟨_, rfl⟩
      rw [← hLn] at ho
      have hlen2 : Ln.length = n := by rw [hLn, nevTo_len, HN.out]
      have hall : ∀ x ∈ Ln, x.2.2 = true := by rw [hLn]; exact nevTo_all L
      have htt : tots Ln ≤ 16384 := by rw [hLn, nevTo_tots]; omega
      have hszs := sz_of_tots htt (by omega)
      have henc := enc_never Ln hall
      have hrun := run_never Ln hall htt
      obtain ⟨Bs, hBs⟩ : ∃ Bs, Bs = (encode (es0 4096) Ln).1 := ⟨_, rfl⟩
      rw [← hBs] at hrun
      have HBs := Lib.hid hBs
      have HENC := Lib.hid henc
      have HRUN := Lib.hid hrun
      have HSZ := Lib.hid hszs
      have HLN := Lib.hid hlen2
      have HE7 := Lib.hid (HE5.out.below hb)
      have HD7 := Lib.hid (HD5.out.below hb)
      have HN7 := Lib.hid (HnAt.own ho)
      have HB7 := Lib.hid (HB5.out.trans (hb.mono HB5.out.size))
      clear hkn ho hb HB HE5 HD5 HB5 hLn hall htt hszs henc hrun hBs hlen2
      go_wp2_with fail
      go_loopw [10] (fun i wr2 => ∃ k : Nat, i = .int .i64 (k : Int) ∧ k ≤ 2 ∧ Enc wr2 E g r (es0 4096) ∧ Dec wr2 D g' r' 4096 [] 4096 false ∧ HnAt wr2 A6 Ln ∧ Below W.heap.size W wr2) (fun i _ => 2 - (intOf i).toNat)
      case atStart => exact ⟨0, rfl, by omega, HE7.out, HD7.out, HN7.out, HB7.out⟩
      case round =>
        clear HE7 HD7 HN7 HB7
        obtain ⟨q, rfl, hq, he, hd, hna, hb⟩ := hrel
        have HB := Lib.hid hb
        by_cases hq2 : q < 2
        · have hdq : decide ((q : Int) < 2) = true := decide_eq_true (by omega)
          have G7 := HG.out.since hb
          have hel := he.lt
          have hdl := hd.lt
          have hA6' := hA6.out
          have V : EncEnv wr E g r A6 Ln M := ⟨hel, by omega, G7.mx, by omega, hna, fun ad e _ => by have := hA6' ad e; omega, HSZ.out, by rw [HLN.out, HN.out]; omega⟩
          have HC := encode_any c6 he V (Nat.zero_le _)
          rw [HLN.out] at HC
          have HC := Lib.hid HC
          have HD := Lib.hid hd
          have HNA := Lib.hid hna
          clear he hd hna hb G7 V
          go_wp2_with fail
          refine HC.out.mono ?_
          rintro e w8 ⟨v8, rfl, ho8, he8, hu8⟩
          rw [HENC.out] at he8
          rw [← HBs.out] at ho8
          have hb8 := below_upd HB.out hu8 (by omega) (Nat.le_refl _)
          have hd8 := HD.out.upd hu8 (by omega) (by omega) (by omega)
          have HN8 := Lib.hid (HnAt.upd HNA.out hu8 (fun ad e => by have := hA6' ad e; omega))
          obtain ⟨A8, c8, rfl, -, -⟩ := Tab.own_slice ho8
          have DC := decode_own (ev := evOf ad) (M := M) Bs hd8 (HG.out.since hb8) (by omega) (by omega) (by omega) (by omega) rfl ho8
          rw [HRUN.out] at DC
          have HDC := Lib.hid DC
          have HE8 := Lib.hid he8
          have HB8 := Lib.hid hb8
          have hs8 := hu8.size
          clear HC DC ho8 he8 hu8 hb8 hd8 HD HNA
          go_wp2_with fail
          refine HDC.out.mono ?_
          rintro e w9 ⟨ov, rfl, ho9, hd9, hu9⟩
          simp only at ho9 hd9
          rw [HLN.out] at ho9
          have hb9 := below_upd HB8.out hu9 (by omega) (Nat.le_refl _)
          have HE9 := Lib.hid (HE8.out.upd hu9 (by omega) (by omega) (by omega))
          have hn9 := HnAt.upd HN8.out hu9 (fun ad e => by have := hA6' ad e; omega)
          obtain ⟨A9, c9, rfl, -, -⟩ := Tab.own_slice ho9
          have SH := same_headers A9 A6 c9 c6 Ln (by rw [HLN.out]; omega) w9 (HnAt.own ho9) hn9
          rw [HLN.out] at SH
          have HSH := Lib.hid SH
          have HB9 := Lib.hid hb9
          have HD9 := Lib.hid hd9
          have HN9 := Lib.hid hn9
          clear HDC SH ho9 hd9 hu9 hb9 hn9 HE8 HN8 HB8
          go_wp2_with fail
          refine HSH.out.mono ?_
          rintro e wa ⟨rfl, hba⟩
          have hda := HD9.out.below hba
          obtain ⟨oa, hta⟩ := hda.kt
          have HL := Lib.hid (declen_any hda.kd hta)
          have HEA := Lib.hid (HE9.out.below hba)
          have HDA := Lib.hid hda
          have HNA := Lib.hid (HN9.out.below hba)
          have HBA := Lib.hid (HB9.out.trans (hba.mono HB9.out.size))
          clear HSH hba hda hta HE9 HD9 HN9 HB9
          go_wp2_with fail
          refine HL.out.mono ?_
          rintro e wb ⟨rfl, rfl⟩
          go_wp2_with fail
          go_roundw
          case rel => exact ⟨q + 1, by go_num, by omega, HEA.out, HDA.out, HNA.out, HBA.out⟩
          case measure => simp [intOf]; omega
        · have hdq : decide ((q : Int) < 2) = false := decide_eq_false (by omega)
          go_wp2_with fail
          go_ret
          exact ⟨rfl, HB.out⟩
end Go.Proofs.YtflmgjidnclegaaDoor.Hpk
