/-
  The walk of the law PolicyThrottle: it answers true.
-/
import Derived.Test.YtnmcjdiihebagaaDoorPolThr3
namespace Go.Proofs.YtnmcjdiihebagaaDoor.Pol
open Go.RowKit
/-- bools that lie below the heap's end -/
def BoolsAt (w : World) (B : Option Addr) (m : Nat) : Prop :=
  ∀ i, i < m → ∃ b off q, B = some ⟨b, off, none⟩ ∧ b < w.heap.size ∧ w.cell? ⟨b, off + i, none⟩ = some (.bool q)
theorem and_15 (x : Int) : ∃ j : Nat, j ≤ 15 ∧ bits .and .i64 x 15 = (j : Int) := by
  refine ⟨(BitVec.ofInt 64 x).toNat &&& 15, Nat.and_le_right, ?_⟩
  have h : (BitVec.ofInt 64 x).toNat &&& 15 ≤ 15 := Nat.and_le_right
  show IntKind.i64.wrap ((BitVec.ofInt 64 x &&& BitVec.ofInt 64 15).toNat : Int) = _
  rw [BitVec.toNat_and, show (BitVec.ofInt 64 15).toNat = 15 by decide, IntKind.wrap_i64]
  omega
theorem ok_thr (j : Nat) (hj : j ≤ 15) : polOk ((5 : Nat) : Int) ((1 : Nat) : Int) ((1 : Nat) : Int) ((10 : Nat) : Int) [(j : Int) + 1] = true := by
  have h1 : numsOk ((5 : Nat) : Int) ((1 : Nat) : Int) ((1 : Nat) : Int) ((10 : Nat) : Int) = true := by decide
  have h2 : codeOk ((j : Int) + 1) = true := decide_eq_true (by omega)
  show (numsOk _ _ _ _ && [(j : Int) + 1].all codeOk) = true
  rw [h1]
  simp [h2]
set_option maxRecDepth 100000 in
set_option maxHeartbeats 4000000 in
theorem lthr_any (m0 ratio : Int) (B : Option Addr) (m mc : Nat) (code : Int) (hm : m ≤ 9223372036854775807) (v : Value) (hie : IsErr v) (w : World) (hd : BoolsAt w B m) (hv : w.cell? ⟨0, 0, none⟩ = some v) (hg : 0 < w.heap.size) :
    Calls Tryd.prog 5 #[.int .i64 m0, .int .i64 ratio, .slice B m mc, .int .i64 code] w fun e w' => e = .returned (.bool true) ∧ Below w.heap.size w w' := by
  go_enter Tryd.func5, Tryd.ntmps5
  go_wp2_with fail
  refine (first_any v w hv hg).mono ?_
  rintro e w1 ⟨rfl, hb1⟩
  by_cases h3 : 3000 < m
  · go_wp2_with fail
    go_ret
    exact ⟨rfl, hb1⟩
  by_cases hfit : (1 ≤ m0 ∧ m0 ≤ 1000) ∧ (1 ≤ ratio ∧ ratio ≤ 1000000)
  · obtain ⟨⟨f1, f2⟩, r1, r2⟩ := hfit
    have N := newthr_ok m0.toNat ratio.toNat w1 (by omega) (by omega)
    rw [show ((m0.toNat : Nat) : Int) = m0 by omega, show ((ratio.toNat : Nat) : Int) = ratio by omega] at N
    obtain ⟨mo, hmo⟩ : ∃ mo : Int, mo = m0 * 1000 := ⟨_, rfl⟩
    rw [← hmo] at N
    have hmo1 : 1000 ≤ mo ∧ mo ≤ 1000000 := by omega
    have hmw : IntKind.i64.wrap (1000 * m0) = mo := by rw [IntKind.wrap_i64]; omega
    have HN := Lib.hid N
    have HMW := Lib.hid hmw
    have HB1 := Lib.hid hb1
    clear N hmw hmo hb1
    go_wp2_with fail
    refine HN.out.mono ?_
    rintro e w2 ⟨rfl, hw2⟩
    have kt : Blk w2 w1.heap.size 83 (thrC mo mo ratio) := by rw [hw2]; exact Blk.new _ _ _
    have hB2 : Below w.heap.size w w2 := by rw [hw2]; exact HB1.out.alloc HB1.out.size _
    have hgt : w.heap.size ≤ w1.heap.size := HB1.out.size
    generalize w1.heap.size = gt at *
    have HKT := Lib.hid kt
    have HB2 := Lib.hid hB2
    have HD := Lib.hid hd
    have HV := Lib.hid hv
    clear HN HB1 hw2 kt hB2 hd hv
    obtain ⟨j, hj, hand⟩ := and_15 code
    have HAN := Lib.hid hand
    clear hand
    go_wp2_with fail
    go_loopw [12] (fun i wr => ∃ (k : Nat) (tok : Int), k ≤ m ∧ i = .int .i64 (k : Int) ∧ 0 ≤ tok ∧ tok ≤ mo ∧ Blk wr gt 83 (thrC tok mo ratio) ∧ Below w.heap.size w wr) (fun i _ => m - (intOf i).toNat)
    case atStart => exact ⟨0, mo, Nat.zero_le _, rfl, by omega, by omega, HKT.out, HB2.out⟩
    case round =>
      obtain ⟨k, tok, hk, rfl, htk1, htk2, kt, hB⟩ := hrel
      clear HKT HB2
      by_cases hlt : k < m
      · obtain ⟨b, off, q, rfl, hbl, e0⟩ := HD.out k hlt
        have c0 := (hB.cell (p := ⟨b, off + k, none⟩) hbl).trans e0
        have HKT := Lib.hid kt
        have HB := Lib.hid hB
        have HBL := Lib.hid hbl
        have HE0 := Lib.hid e0
        clear kt hB e0 hbl
        go_wp2_with fail
        refine (tokens_any gt tok mo ratio wr HKT.out).mono ?_
        rintro e w5 ⟨rfl, rfl⟩
        cases q with
        | true =>
          go_wp2_with fail
          refine (good_any gt tok mo ratio wr (by omega) (by omega) HKT.out).mono ?_
          rintro e w6 ⟨rfl, kt6, hg6⟩
          obtain ⟨n', hn'⟩ : ∃ n' : Int, n' = min mo (tok + ratio) := ⟨_, rfl⟩
          rw [← hn'] at kt6
          have hn1 : 0 ≤ n' := by omega
          have hn2 : n' ≤ mo := by omega
          have hn3 : tok ≤ n' := by omega
          have hB6 : Below w.heap.size w w6 := HB.out.grown hg6 HB.out.size (fun x e => by injection e; omega)
          have c6 := (hB6.cell (p := ⟨b, off + k, none⟩) HBL.out).trans HE0.out
          clear hg6 hn' c0
          go_wp2_with fail
          refine (tokens_any gt n' mo ratio w6 kt6).mono ?_
          rintro e w7 ⟨rfl, rfl⟩
          have HK6 := Lib.hid kt6
          have HB6 := Lib.hid hB6
          clear kt6 hB6 HKT HB
          obtain ⟨q2, hq2⟩ : ∃ q2 : Bool, decide (mo < 2 * n') = q2 := ⟨_, rfl⟩
          have HO := Lib.hid (open_any gt n' mo ratio)
          have hO : ∀ W : World, Blk W gt 83 (thrC n' mo ratio) → Hid (Calls Tryd.prog 21 #[.pointer (some ⟨gt, 0, none⟩)] W fun e w' => e = .returned (.bool q2) ∧ ∃ n, w' = W.drewN n) := by
            intro W hk
            rw [← hq2]
            exact Lib.hid (HO.out W (by omega) hk)
          have HO2 := Lib.hid hO
          have d1 : decide (n' < 0) = false := decide_eq_false (by omega)
          have d2 : decide (mo < n') = false := decide_eq_false (by omega)
          have d3 : decide (n' < tok) = false := decide_eq_false (by omega)
          have hw1 := HMW.out
          have hw2 : IntKind.i64.wrap (2 * n') = 2 * n' := by rw [IntKind.wrap_i64]; omega
          clear HO hO
          cases q2 with
          | true =>
            go_wp2_with fail
            refine (HO2.out w6 HK6.out).out.mono ?_
            rintro e w7 ⟨rfl, nq, rfl⟩
            go_wp2_with fail
            clear hw1 hw2 hq2 HO2 d1 d2 d3
            go_roundw
            case rel => exact ⟨k + 1, n', by omega, by go_num, by omega, by omega, HK6.out.drewN _, below_drewN HB6.out _⟩
            case measure => simp [intOf]; omega
          | false =>
            go_wp2_with fail
            refine (HO2.out w6 HK6.out).out.mono ?_
            rintro e w7 ⟨rfl, nq, rfl⟩
            go_wp2_with fail
            clear hw1 hw2 hq2 HO2 d1 d2 d3
            go_roundw
            case rel => exact ⟨k + 1, n', by omega, by go_num, by omega, by omega, HK6.out.drewN _, below_drewN HB6.out _⟩
            case measure => simp [intOf]; omega
        | false =>
          go_wp2_with fail
          refine (fail_any gt tok mo ratio wr (by omega) HKT.out).mono ?_
          rintro e w6 ⟨rfl, hw6⟩
          obtain ⟨n', hn'⟩ : ∃ n' : Int, n' = max 0 (tok - 1000) := ⟨_, rfl⟩
          rw [← hn'] at hw6
          have kt6 : Blk w6 gt 83 (thrC n' mo ratio) := by rw [hw6]; exact HKT.out.set_ 0 _
          have hn1 : 0 ≤ n' := by omega
          have hn2 : n' ≤ mo := by omega
          have hn3 : n' ≤ tok := by omega
          have hB6 : Below w.heap.size w w6 := by rw [hw6]; exact HB.out.setCell (p := ⟨gt, 0, none⟩) (by show w.heap.size ≤ gt; omega) _
          have c6 := (hB6.cell (p := ⟨b, off + k, none⟩) HBL.out).trans HE0.out
          clear hw6 hn' c0
          go_wp2_with fail
          refine (tokens_any gt n' mo ratio w6 kt6).mono ?_
          rintro e w7 ⟨rfl, rfl⟩
          have HK6 := Lib.hid kt6
          have HB6 := Lib.hid hB6
          clear kt6 hB6 HKT HB
          obtain ⟨q2, hq2⟩ : ∃ q2 : Bool, decide (mo < 2 * n') = q2 := ⟨_, rfl⟩
          have HO := Lib.hid (open_any gt n' mo ratio)
          have hO : ∀ W : World, Blk W gt 83 (thrC n' mo ratio) → Hid (Calls Tryd.prog 21 #[.pointer (some ⟨gt, 0, none⟩)] W fun e w' => e = .returned (.bool q2) ∧ ∃ n, w' = W.drewN n) := by
            intro W hk
            rw [← hq2]
            exact Lib.hid (HO.out W (by omega) hk)
          have HO2 := Lib.hid hO
          have d1 : decide (n' < 0) = false := decide_eq_false (by omega)
          have d2 : decide (mo < n') = false := decide_eq_false (by omega)
          have d3 : decide (tok < n') = false := decide_eq_false (by omega)
          have hw1 := HMW.out
          have hw2 : IntKind.i64.wrap (2 * n') = 2 * n' := by rw [IntKind.wrap_i64]; omega
          clear HO hO
          cases q2 with
          | true =>
            go_wp2_with fail
            refine (HO2.out w6 HK6.out).out.mono ?_
            rintro e w7 ⟨rfl, nq, rfl⟩
            go_wp2_with fail
            clear hw1 hw2 hq2 HO2 d1 d2 d3
            go_roundw
            case rel => exact ⟨k + 1, n', by omega, by go_num, by omega, by omega, HK6.out.drewN _, below_drewN HB6.out _⟩
            case measure => simp [intOf]; omega
          | false =>
            go_wp2_with fail
            refine (HO2.out w6 HK6.out).out.mono ?_
            rintro e w7 ⟨rfl, nq, rfl⟩
            go_wp2_with fail
            clear hw1 hw2 hq2 HO2 d1 d2 d3
            go_roundw
            case rel => exact ⟨k + 1, n', by omega, by go_num, by omega, by omega, HK6.out.drewN _, below_drewN HB6.out _⟩
            case measure => simp [intOf]; omega
      · clear HD
        have hand := HAN.out
        go_wp2_with fail
        clear hand HAN
        have hBa : Below w.heap.size w ((wr.alloc (.cells #[.int .i64 (↑j + 1)] 3)).alloc (.cells #[.int .i64 5, .int .i64 1, .int .i64 1, .int .i64 10, .slice (some ⟨wr.heap.size, 0, none⟩) 1 1] 29)) := (hB.alloc hB.size _).alloc (by simp; exact Nat.le_succ_of_le hB.size) _
        have kp : Blk ((wr.alloc (.cells #[.int .i64 (↑j + 1)] 3)).alloc (.cells #[.int .i64 5, .int .i64 1, .int .i64 1, .int .i64 10, .slice (some ⟨wr.heap.size, 0, none⟩) 1 1] 29)) (wr.heap.size + 1) 29 #[.int .i64 5, .int .i64 1, .int .i64 1, .int .i64 10, .slice (some ⟨wr.heap.size, 0, none⟩) 1 1] := by
          have := Blk.new (wr.alloc (.cells #[.int .i64 (↑j + 1)] 3)) 29 #[.int .i64 5, .int .i64 1, .int .i64 1, .int .i64 10, .slice (some ⟨wr.heap.size, 0, none⟩) 1 1]
          simpa using this
        have kx : Blk ((wr.alloc (.cells #[.int .i64 (↑j + 1)] 3)).alloc (.cells #[.int .i64 5, .int .i64 1, .int .i64 1, .int .i64 10, .slice (some ⟨wr.heap.size, 0, none⟩) 1 1] 29)) wr.heap.size 3 #[.int .i64 (↑j + 1)] := (Blk.new _ _ _).alloc _
        have kta := (kt.alloc (.cells #[.int .i64 (↑j + 1)] 3)).alloc (.cells #[.int .i64 5, .int .i64 1, .int .i64 1, .int .i64 10, .slice (some ⟨wr.heap.size, 0, none⟩) 1 1] 29)
        have hgtr := kt.lt
        have hwr : w.heap.size ≤ wr.heap.size := hB.size
        generalize (wr.alloc (.cells #[.int .i64 (↑j + 1)] 3)).alloc (.cells #[.int .i64 5, .int .i64 1, .int .i64 1, .int .i64 10, .slice (some ⟨wr.heap.size, 0, none⟩) 1 1] 29) = wa at *
        generalize wr.heap.size = hp at *
        have hxa : IntsAt wa (some ⟨hp, 0, none⟩) [(j : Int) + 1] := by
          intro i hi
          have h0 : i = 0 := by simp at hi; omega
          subst h0
          exact ⟨_, 0, rfl, kx.lt, kx.cell 0⟩
        have N := newcall_ok ((5 : Nat) : Int) ((1 : Nat) : Int) ((1 : Nat) : Int) ((10 : Nat) : Int) [(j : Int) + 1] (some ⟨hp, 0, none⟩) 1 1 rfl (by omega) (fun e => by cases e) (some ⟨gt, 0, none⟩) v wa hxa (ok_thr j hj) ((hBa.cell hg).trans HV.out) (Nat.lt_of_lt_of_le hg hBa.size)
        have HN := Lib.hid N
        have HKP := Lib.hid kp
        have HKX := Lib.hid kx
        have HKT := Lib.hid kta
        have HBA := Lib.hid hBa
        have hla := kp.lt
        have hlx := kta.lt
        clear N hxa kx kp kta hBa kt hB
        refine HN.out.mono ?_
        rintro e w2 ⟨g, A', c', rfl, hgg, kg, hx2, hA', hb2⟩
        have hB2 := HBA.out.trans (hb2.mono HBA.out.size)
        have hne1 : hp + 1 ≠ g := by omega
        have hne2 : hp ≠ g := by omega
        have hne3 : gt ≠ g := by omega
        have hne4 : hp + 1 ≠ gt := by omega
        have hne5 : hp ≠ gt := by omega
        have kt2 := HKT.out.below hb2 hlx
        have kp2 := HKP.out.below hb2 hla
        have kx2 := HKX.out.below hb2 (by omega)
        have hgw : w.heap.size ≤ g := by have := HBA.out.size; omega
        obtain ⟨q, hq⟩ : ∃ q : Bool, q = decide (mo < 2 * max 0 (tok - 1000)) := ⟨_, rfl⟩
        obtain ⟨tk, htk⟩ : ∃ tk : Int, tk = max 0 (tok - 1000) := ⟨_, rfl⟩
        have hmem : decide ((j : Int) + 1 ∈ [(j : Int) + 1]) = true := by simp
        have HQ := Lib.hid hq
        have HTK := Lib.hid htk
        clear hq htk
        cases q with
        | true =>
          have hop : (!decide (mo < 2 * max 0 (tok - 1000))) = false := by rw [← HQ.out]; rfl
          have FL := failedt_yes g gt 5 1 1 10 tok mo ratio [(j : Int) + 1] A' 1 c' 1 0 false false false ((j : Int) + 1) (-1) 1000 false w2 (by omega) (by omega) (by omega) (by omega) (by omega) rfl (by omega) hx2 kt2 (by omega) kg rfl rfl rfl hmem (by decide) (by decide) hop
          have HF := Lib.hid FL
          have HB2 := Lib.hid hB2
          have HP2 := Lib.hid kp2
          have HX2 := Lib.hid kx2
          clear FL hop hB2 kp2 kx2 kt2 HN HKP HKX HKT HBA kg hx2 hA' hb2 hmem
          go_wp2_with fail
          refine HF.out.mono ?_
          rintro e w3 ⟨rfl, u3⟩
          have kp3 := u3.grown HP2.out hne1 hne4
          have kx3 := u3.grown HX2.out hne2 hne5
          have hB3 := u3.to_below HB2.out hgw hgt HB2.out.size
          have OP := open_any gt (max 0 (tok - 1000)) mo ratio w3 (by omega) u3.kt
          rw [← HQ.out] at OP
          have HOP := Lib.hid OP
          have HP3 := Lib.hid kp3
          have HX3 := Lib.hid kx3
          have HB3 := Lib.hid hB3
          have HT3 := Lib.hid u3.kt
          clear OP kp3 kx3 hB3 u3 HF HP2 HX2 HB2 HQ
          go_wp2_with fail
          refine HOP.out.mono ?_
          rintro e w4 ⟨rfl, nq, rfl⟩
          have kp4 := HP3.out.drewN nq
          have kx4 := HX3.out.drewN nq
          have kt4 := HT3.out.drewN nq
          have hB4 := below_drewN HB3.out nq
          clear HOP HP3 HX3 HT3 HB3
          generalize w3.drewN nq = w5 at *
          have hxa : IntsAt w5 (some ⟨hp, 0, none⟩) [(j : Int) + 1] := by
            intro i hi
            have h0 : i = 0 := by simp at hi; omega
            subst h0
            exact ⟨_, 0, rfl, kx4.lt, kx4.cell 0⟩
          have N := newcall_ok ((5 : Nat) : Int) ((1 : Nat) : Int) ((1 : Nat) : Int) ((10 : Nat) : Int) [(j : Int) + 1] (some ⟨hp, 0, none⟩) 1 1 rfl (by omega) (fun e => by cases e) (some ⟨gt, 0, none⟩) v w5 hxa (ok_thr j hj) ((hB4.cell hg).trans HV.out) (Nat.lt_of_lt_of_le hg hB4.size)
          have HN := Lib.hid N
          have p0 : w5.cell? ⟨hp + 1, 0, none⟩ = some (.int .i64 5) := kp4.cell 0
          have p1 : w5.cell? ⟨hp + 1, 1, none⟩ = some (.int .i64 1) := kp4.cell 1
          have p2 : w5.cell? ⟨hp + 1, 2, none⟩ = some (.int .i64 1) := kp4.cell 2
          have p3 : w5.cell? ⟨hp + 1, 3, none⟩ = some (.int .i64 10) := kp4.cell 3
          have p4 : w5.cell? ⟨hp + 1, 4, none⟩ = some (.slice (some ⟨hp, 0, none⟩) 1 1) := kp4.cell 4
          have HB4 := Lib.hid hB4
          have HT4 := Lib.hid kt4
          clear N hxa kx4 kp4 kt4 hB4
          go_wp2_with fail
          refine HN.out.mono ?_
          rintro e w6 ⟨g2, A2, c2, rfl, hgg2, kg2, hx6, hA2, hb6⟩
          have hB6 := HB4.out.trans (hb6.mono HB4.out.size)
          have kt6 := HT4.out.below hb6 HT4.out.lt
          have FR := failedt_ref g2 gt 5 1 1 10 (max 0 (tok - 1000)) mo ratio [(j : Int) + 1] A2 1 c2 1 0 false false false ((j : Int) + 1) (-1) 1000 true w6 rfl (by omega) hx6 kt6 kg2 rfl rfl rfl
          have HFR := Lib.hid FR
          have HB6 := Lib.hid hB6
          have hgw2 : w.heap.size ≤ g2 := by have := HB4.out.size; omega
          clear FR hB6 kt6 HN HB4 HT4 p0 p1 p2 p3 p4 kg2 hx6 hA2 hb6
          go_wp2_with fail
          refine HFR.out.mono ?_
          rintro e w7 ⟨rfl, u7⟩
          have hB7 := u7.to_below HB6.out hgw2 hgt HB6.out.size
          have HB7 := Lib.hid hB7
          clear hB7 u7 HFR HB6
          go_wp2_with fail
          go_ret
          exact ⟨rfl, HB7.out⟩
        | false =>
          have hop : (!decide (mo < 2 * max 0 (tok - 1000))) = true := by rw [← HQ.out]; rfl
          have FL := failedt_no g gt 5 1 1 10 tok mo ratio [(j : Int) + 1] A' 1 c' 1 0 false false false ((j : Int) + 1) (-1) 1000 false w2 rfl (by omega) hx2 kt2 (by omega) kg rfl rfl rfl hmem (by decide) (by decide) hop
          have HF := Lib.hid FL
          have HB2 := Lib.hid hB2
          have HP2 := Lib.hid kp2
          have HX2 := Lib.hid kx2
          clear FL hop hB2 kp2 kx2 kt2 HN HKP HKX HKT HBA kg hx2 hA' hb2 hmem
          go_wp2_with fail
          refine HF.out.mono ?_
          rintro e w3 ⟨rfl, u3⟩
          have kp3 := u3.grown HP2.out hne1 hne4
          have kx3 := u3.grown HX2.out hne2 hne5
          have hB3 := u3.to_below HB2.out hgw hgt HB2.out.size
          have OP := open_any gt (max 0 (tok - 1000)) mo ratio w3 (by omega) u3.kt
          rw [← HQ.out] at OP
          have HOP := Lib.hid OP
          have HP3 := Lib.hid kp3
          have HX3 := Lib.hid kx3
          have HB3 := Lib.hid hB3
          have HT3 := Lib.hid u3.kt
          clear OP kp3 kx3 hB3 u3 HF HP2 HX2 HB2 HQ
          go_wp2_with fail
          refine HOP.out.mono ?_
          rintro e w4 ⟨rfl, nq, rfl⟩
          have kp4 := HP3.out.drewN nq
          have kx4 := HX3.out.drewN nq
          have kt4 := HT3.out.drewN nq
          have hB4 := below_drewN HB3.out nq
          clear HOP HP3 HX3 HT3 HB3
          generalize w3.drewN nq = w5 at *
          have hxa : IntsAt w5 (some ⟨hp, 0, none⟩) [(j : Int) + 1] := by
            intro i hi
            have h0 : i = 0 := by simp at hi; omega
            subst h0
            exact ⟨_, 0, rfl, kx4.lt, kx4.cell 0⟩
          have N := newcall_ok ((5 : Nat) : Int) ((1 : Nat) : Int) ((1 : Nat) : Int) ((10 : Nat) : Int) [(j : Int) + 1] (some ⟨hp, 0, none⟩) 1 1 rfl (by omega) (fun e => by cases e) (some ⟨gt, 0, none⟩) v w5 hxa (ok_thr j hj) ((hB4.cell hg).trans HV.out) (Nat.lt_of_lt_of_le hg hB4.size)
          have HN := Lib.hid N
          have p0 : w5.cell? ⟨hp + 1, 0, none⟩ = some (.int .i64 5) := kp4.cell 0
          have p1 : w5.cell? ⟨hp + 1, 1, none⟩ = some (.int .i64 1) := kp4.cell 1
          have p2 : w5.cell? ⟨hp + 1, 2, none⟩ = some (.int .i64 1) := kp4.cell 2
          have p3 : w5.cell? ⟨hp + 1, 3, none⟩ = some (.int .i64 10) := kp4.cell 3
          have p4 : w5.cell? ⟨hp + 1, 4, none⟩ = some (.slice (some ⟨hp, 0, none⟩) 1 1) := kp4.cell 4
          have HB4 := Lib.hid hB4
          have HT4 := Lib.hid kt4
          clear N hxa kx4 kp4 kt4 hB4
          go_wp2_with fail
          refine HN.out.mono ?_
          rintro e w6 ⟨g2, A2, c2, rfl, hgg2, kg2, hx6, hA2, hb6⟩
          have hB6 := HB4.out.trans (hb6.mono HB4.out.size)
          have kt6 := HT4.out.below hb6 HT4.out.lt
          have FR := failedt_ref g2 gt 5 1 1 10 (max 0 (tok - 1000)) mo ratio [(j : Int) + 1] A2 1 c2 1 0 false false false ((j : Int) + 1) (-1) 1000 true w6 rfl (by omega) hx6 kt6 kg2 rfl rfl rfl
          have HFR := Lib.hid FR
          have HB6 := Lib.hid hB6
          have hgw2 : w.heap.size ≤ g2 := by have := HB4.out.size; omega
          clear FR hB6 kt6 HN HB4 HT4 p0 p1 p2 p3 p4 kg2 hx6 hA2 hb6
          go_wp2_with fail
          refine HFR.out.mono ?_
          rintro e w7 ⟨rfl, u7⟩
          have hB7 := u7.to_below HB6.out hgw2 hgt HB6.out.size
          have HB7 := Lib.hid hB7
          clear hB7 u7 HFR HB6
          go_wp2_with fail
          go_ret
          exact ⟨rfl, HB7.out⟩
  · have N := newthr_no m0 ratio v w1 (by omega) ((hb1.cell hg).trans hv)
    have HN := Lib.hid N
    clear N hfit
    obtain ⟨t, u, rfl⟩ := hie
    go_wp2_with fail
    refine HN.out.mono ?_
    rintro e w2 ⟨rfl, nq, rfl⟩
    go_wp2_with fail
    go_ret
    exact ⟨rfl, below_drewN hb1 nq⟩
end Go.Proofs.YtnmcjdiihebagaaDoor.Pol
