/-
  The walks of the document's Get and Find.
-/
import Derived.Test.YtflmgjidnclegaaDoorTabRef3
import Derived.Test.YtflmgjidnclegaaDoorTabFind
namespace Go.Proofs.YtflmgjidnclegaaDoor.Tab
open Go.RowKit
set_option maxRecDepth 100000 in
set_option maxHeartbeats 1000000 in
theorem rget_any {w : World} {B x r m : Nat} {Q : List Hd} (h : RTbl w B x r Q m) (i : Int) (hi : i ≤ 9223372036854775807) :
    Calls Tryd.prog 61 #[.pointer (some ⟨x, 0, none⟩), .int .i64 i] w fun e w' => e = .returned (hdR (getAt Q i)) ∧ Below w.heap.size w w' := by
  have hB0 := (Below.refl w.heap.size w).alloc (Nat.le_refl _) (.cells #[.string ⟨#[]⟩, .string ⟨#[]⟩, .bool false] 23)
  have hk0 := Blk.new w 23 #[.string ⟨#[]⟩, .string ⟨#[]⟩, .bool false]
  have hT := h.below hB0
  obtain ⟨A, c, k1, k2, _⟩ := hT.kx
  have x0 : (w.alloc (.cells #[.string ⟨#[]⟩, .string ⟨#[]⟩, .bool false] 23)).cell? ⟨x, 0, none⟩ = some (.slice A Q.length c) := k1.cell 0
  by_cases hin : 62 ≤ i ∧ i - 62 < (Q.length : Int)
  · obtain ⟨j, rfl⟩ : ∃ j : Nat, i = (j : Int) + 62 := ⟨(i - 62).toNat, by omega⟩
    have hj : j < Q.length := by omega
    obtain ⟨y, hy⟩ : ∃ y, Q.reverse[j]? = some y := ⟨_, List.getElem?_eq_getElem (by simpa using hj)⟩
    have HE := Lib.hid (show getAt Q ((j : Int) + 62) = some y by rw [Int.add_comm, getAt_new]; exact hy)
    have hd1 : decide ((j : Int) + 62 ≥ 62) = true := decide_eq_true (by omega)
    have hw : IntKind.i64.wrap (j : Int) = (j : Int) := IntWalk.i64_in _ (by omega)
    obtain ⟨b, off, rfl, _, c0, c1, c2⟩ := (HnAt.of_own k2 (hq Q).length) j (y.1, y.2, false) (by rw [List.take_of_length_le (Nat.le_refl _)]; exact hq_at Q j y hy)
    have f0 := hk0.frozen 0
    have f1 := hk0.frozen 1
    have f2 := hk0.frozen 2
    have b0 : (w.alloc (.cells #[.string ⟨#[]⟩, .string ⟨#[]⟩, .bool false] 23)).cell? ⟨w.heap.size, 0, none⟩ = some (.string ⟨#[]⟩) := hk0.cell 0
    have b1 : (w.alloc (.cells #[.string ⟨#[]⟩, .string ⟨#[]⟩, .bool false] 23)).cell? ⟨w.heap.size, 1, none⟩ = some (.string ⟨#[]⟩) := hk0.cell 1
    have b2 : (w.alloc (.cells #[.string ⟨#[]⟩, .string ⟨#[]⟩, .bool false] 23)).cell? ⟨w.heap.size, 2, none⟩ = some (.bool false) := hk0.cell 2
    clear h hT k1 k2 hy hin hi
    rw [HE.out]
    generalize hW : w.alloc (.cells #[.string ⟨#[]⟩, .string ⟨#[]⟩, .bool false] 23) = W0 at *
    have HW := Lib.hid hW
    clear hW
    go_enter Tryd.func61, Tryd.ntmps61
    have hW2 := HW.out
    go_wp2_with fail
    have hk2 := ((hk0.set_ 0 (.string y.1)).set_ 1 (.string y.2)).set_ 2 (.bool false)
    have hB2 := ((hB0.setCell (p := ⟨w.heap.size, 0, none⟩) (Nat.le_refl _) (.string y.1)).setCell (p := ⟨w.heap.size, 1, none⟩) (Nat.le_refl _) (.string y.2)).setCell (p := ⟨w.heap.size, 2, none⟩) (Nat.le_refl _) (.bool false)
    exact hdr_ret rfl rfl rfl rfl hk2 ⟨rfl, hB2⟩
  · have HE := Lib.hid (show getAt Q i = statAt i by
      unfold getAt statAt
      split
      · by_cases h61 : i.toNat - 1 < 61
        · rw [List.getElem?_append_left (by rw [stat_len]; exact h61)]
        · rw [List.getElem?_eq_none (by rw [List.length_append, stat_len, List.length_reverse]; omega), List.getElem?_eq_none (by rw [stat_len]; omega)]
      · rfl)
    have hs0 := rstatic_any i (w.alloc (.cells #[.string ⟨#[]⟩, .string ⟨#[]⟩, .bool false] 23))
    rw [HE.out]
    unfold hdR at hs0 ⊢
    generalize hdN (statAt i) = xn at *
    generalize hdV (statAt i) = xv at *
    generalize (statAt i).isSome = xb at *
    have HS := Lib.hid hs0
    have HB0 := Lib.hid hB0
    have HK0 := Lib.hid hk0
    clear HE hs0 h hT k1 k2 hB0 hk0
    by_cases h62 : 62 ≤ i
    · have hd1 : decide (i ≥ 62) = true := decide_eq_true h62
      have hw : IntKind.i64.wrap (i - 62) = i - 62 := IntWalk.i64_in _ (by omega)
      have hd2 : decide (i - 62 < (Q.length : Int)) = false := decide_eq_false (by omega)
      have hd3 : ¬ i - 62 < (Q.length : Int) := by omega
      clear hin
      go_enter Tryd.func61, Tryd.ntmps61
      go_wp2_with fail
      refine HS.out.mono ?_
      rintro e w' ⟨rfl, hb⟩
      have hk1 := HK0.out.below hb HK0.out.lt
      have hB1 := HB0.out.trans (hb.mono HB0.out.size)
      clear hb HS HK0 HB0 x0
      have f0 := hk1.frozen 0
      have f1 := hk1.frozen 1
      have f2 := hk1.frozen 2
      have b0 : w'.cell? ⟨w.heap.size, 0, none⟩ = some (.string ⟨#[]⟩) := hk1.cell 0
      have b1 : w'.cell? ⟨w.heap.size, 1, none⟩ = some (.string ⟨#[]⟩) := hk1.cell 1
      have b2 : w'.cell? ⟨w.heap.size, 2, none⟩ = some (.bool false) := hk1.cell 2
      go_wp2_with fail
      have hk2 := ((hk1.set_ 0 (.string xn)).set_ 1 (.string xv)).set_ 2 (.bool false)
      have hB2 := ((hB1.setCell (p := ⟨w.heap.size, 0, none⟩) (Nat.le_refl _) (.string xn)).setCell (p := ⟨w.heap.size, 1, none⟩) (Nat.le_refl _) (.string xv)).setCell (p := ⟨w.heap.size, 2, none⟩) (Nat.le_refl _) (.bool false)
      exact hdr_ret rfl rfl rfl rfl hk2 ⟨rfl, hB2⟩
    · have hd1 : decide (i ≥ 62) = false := decide_eq_false h62
      clear hin
      go_enter Tryd.func61, Tryd.ntmps61
      go_wp2_with fail
      refine HS.out.mono ?_
      rintro e w' ⟨rfl, hb⟩
      have hk1 := HK0.out.below hb HK0.out.lt
      have hB1 := HB0.out.trans (hb.mono HB0.out.size)
      clear hb HS HK0 HB0 x0
      have f0 := hk1.frozen 0
      have f1 := hk1.frozen 1
      have f2 := hk1.frozen 2
      have b0 : w'.cell? ⟨w.heap.size, 0, none⟩ = some (.string ⟨#[]⟩) := hk1.cell 0
      have b1 : w'.cell? ⟨w.heap.size, 1, none⟩ = some (.string ⟨#[]⟩) := hk1.cell 1
      have b2 : w'.cell? ⟨w.heap.size, 2, none⟩ = some (.bool false) := hk1.cell 2
      go_wp2_with fail
      have hk2 := ((hk1.set_ 0 (.string xn)).set_ 1 (.string xv)).set_ 2 (.bool false)
      have hB2 := ((hB1.setCell (p := ⟨w.heap.size, 0, none⟩) (Nat.le_refl _) (.string xn)).setCell (p := ⟨w.heap.size, 1, none⟩) (Nat.le_refl _) (.string xv)).setCell (p := ⟨w.heap.size, 2, none⟩) (Nat.le_refl _) (.bool false)
      exact hdr_ret rfl rfl rfl rfl hk2 ⟨rfl, hB2⟩
theorem findIn_name {n v : ByteArray} {h : Hd} {t : List Hd} {i named : Nat} (h1 : h.1 = n) (h2 : h.2 ≠ v) : findIn n v (h :: t) i named = findIn n v t (i + 1) (if named = 0 then i else named) := by rw [findIn, if_pos h1, if_neg h2]
theorem findIn_append (n v : ByteArray) : ∀ (a b : List Hd) (i named : Nat), findIn n v (a ++ b) i named = if (findIn n v a i named).2 then findIn n v a i named else findIn n v b (i + a.length) (findIn n v a i named).1
  | [], b, i, named => by simp [findIn]
  | h :: t, b, i, named => by
    rw [List.cons_append]
    by_cases h1 : h.1 = n
    · by_cases h2 : h.2 = v
      · rw [findIn_hit h1 h2, findIn_hit h1 h2]; rfl
      · rw [findIn_name h1 h2, findIn_name h1 h2, findIn_append n v t b, List.length_cons, show i + 1 + t.length = i + (t.length + 1) by omega]
    · rw [findIn_no h1, findIn_no h1, findIn_append n v t b, List.length_cons, show i + 1 + t.length = i + (t.length + 1) by omega]
set_option maxRecDepth 100000 in
set_option maxHeartbeats 1000000 in
theorem rfind_any {w : World} {B x r m : Nat} {Q : List Hd} (h : RTbl w B x r Q m) (n v : ByteArray) :
    Calls Tryd.prog 31 #[.pointer (some ⟨x, 0, none⟩), .string n, .string v] w fun e w' => FindEnd w n v Q e w' := by
  have hl := h.len
  have hb1 := (Below.refl w.heap.size w).alloc (Nat.le_refl _) (.cells namesV 9)
  have hb2 := hb1.alloc hb1.size (.cells valuesV 9)
  have hT := h.below hb2
  have hn := (Blk.new w 9 namesV).alloc (.cells valuesV 9)
  have hv := Blk.new (w.alloc (.cells namesV 9)) 9 valuesV
  have HN := Lib.hid (fun (k : Nat) (y : Hd) (hy : stat[k]? = some y) => (hn.cell (k + 1)).trans (names_at k y hy).1)
  have HV := Lib.hid (fun (k : Nat) (y : Hd) (hy : stat[k]? = some y) => (hv.cell (k + 1)).trans (names_at k y hy).2)
  obtain ⟨A, c, k1, k2, _⟩ := hT.kx
  have HA := Lib.hid (HnAt.of_own k2 (hq Q).length)
  have HX := Lib.hid k1
  have HB := Lib.hid hb2
  have hz : (w.alloc (.cells namesV 9)).heap.size = w.heap.size + 1 := by simp
  rw [hz] at HV
  have HNA := Lib.hid (names_any w)
  have HVA := Lib.hid (values_any (w.alloc (.cells namesV 9)))
  rw [hz] at HVA
  clear h hb1 hb2 hT hn hv k1 k2 hz
  generalize (w.alloc (.cells namesV 9)).alloc (.cells valuesV 9) = W2 at *
  generalize w.alloc (.cells namesV 9) = W1 at *
  generalize hz : w.heap.size = z at *
  have HZ := Lib.hid hz
  clear hz
  go_enter Tryd.func31, Tryd.ntmps31
  go_wp2_with fail
  refine HNA.out.mono ?_
  rintro e w1 ⟨rfl, rfl⟩
  go_wp2_with fail
  refine HVA.out.mono ?_
  rintro e w2 ⟨rfl, rfl⟩
  go_wp2_with fail
  have H0 := Lib.hid (⟨0, 0, rfl, rfl, by omega, by omega, rfl⟩ : ∃ k named : Nat, Value.int .i64 1 = .int .i64 ((k : Int) + 1) ∧ Value.int .i64 0 = .int .i64 (named : Int) ∧ k ≤ 61 ∧ named ≤ k ∧ findIn n v (stat.drop k) (k + 1) named = findIn n v stat 1 0)
  go_loop [10, 11] (fun f i => ∃ k named : Nat, i = .int .i64 ((k : Int) + 1) ∧ f = .int .i64 (named : Int) ∧ k ≤ 61 ∧ named ≤ k ∧ findIn n v (stat.drop k) (k + 1) named = findIn n v stat 1 0) (fun _ i => 63 - (intOf i).toNat)
  case atStart => exact H0.out
  case round =>
    clear H0 HNA HVA
    obtain ⟨k, named, rfl, rfl, hk, hnk, hf⟩ := hrel
    by_cases hlt : k < 61
    · obtain ⟨y, hy⟩ : ∃ y, stat[k]? = some y := ⟨_, List.getElem?_eq_getElem (by rw [stat_len]; omega)⟩
      have c0 := HN.out k y hy
      have c1 := HV.out k y hy
      have hdr : stat.drop k = y :: stat.drop (k + 1) := by
        obtain ⟨hk', rfl⟩ := List.getElem?_eq_some_iff.1 hy
        exact List.drop_eq_getElem_cons hk'
      rw [hdr] at hf
      have HF := Lib.hid hf
      have hd1 : decide ((k : Int) + 1 < 62) = true := decide_eq_true (by omega)
      have hfr : findR n v Q = if (findIn n v stat 1 0).2 then findIn n v stat 1 0 else findIn n v Q.reverse (1 + stat.length) (findIn n v stat 1 0).1 := findIn_append n v stat Q.reverse 1 0
      have HFR := Lib.hid hfr
      clear hy hdr hf hfr
      go_wp2_with fail
      · have h1 := str_ne (by assumption : (!y.1.toList == n.toList) = true)
        go_round
        case rel => exact ⟨k + 1, named, by go_num, rfl, by omega, by omega, (findIn_no h1).symm.trans HF.out⟩
        case measure => simp [intOf]; omega
      · have h1 := str_eq (by assumption : (!y.1.toList == n.toList) = false)
        have h2 := str_eq' (by assumption : (y.2.toList == v.toList) = true)
        have hR : findIn n v stat 1 0 = (k + 1, true) := HF.out.symm.trans (findIn_hit h1 h2)
        go_ret2
        refine ⟨?_, by rw [HZ.out]; exact HB.out⟩
        rw [HFR.out, hR]
        rfl
      · have h1 := str_eq (by assumption : (!y.1.toList == n.toList) = false)
        have h2 := str_ne' (by assumption : (y.2.toList == v.toList) = false)
        have h3 : named = 0 := by have h0 : ((named : Int) == 0) = true := by assumption
                                  simpa using h0
        go_round
        case rel => exact ⟨k + 1, k + 1, by go_num, by go_num, by omega, by omega, by subst h3; exact (findIn_new h1 h2).symm.trans HF.out⟩
        case measure => simp [intOf]; omega
      · have h1 := str_eq (by assumption : (!y.1.toList == n.toList) = false)
        have h2 := str_ne' (by assumption : (y.2.toList == v.toList) = false)
        have h3 : named ≠ 0 := by have h0 : ((named : Int) == 0) = false := by assumption
                                  simpa using h0
        go_round
        case rel => exact ⟨k + 1, named, by go_num, rfl, by omega, by omega, (findIn_old h1 h2 h3).symm.trans HF.out⟩
        case measure => simp [intOf]; omega
    · have hk61 : k = 61 := by omega
      subst hk61
      have hR : findIn n v stat 1 0 = (named, false) := by
        rw [← hf, List.drop_eq_nil_of_le (by rw [stat_len]; omega), findIn]
      have hfr : findR n v Q = findIn n v Q.reverse 62 named := by
        unfold findR
        rw [findIn_append, hR, stat_len]
        rfl
      have HFR := Lib.hid hfr
      have hn61 : named ≤ 61 := hnk
      have x0 : w2.cell? ⟨x, 0, none⟩ = some (.slice A Q.length c) := HX.out.cell 0
      clear hf hR hfr hlt HN HV hnk
      go_wp2_with fail
      go_loop [10, 12] (fun f i => ∃ k nm : Nat, i = .int .i64 (k : Int) ∧ f = .int .i64 (nm : Int) ∧ k ≤ Q.length ∧ nm ≤ 61 + k ∧ findIn n v (Q.reverse.drop k) (62 + k) nm = findR n v Q) (fun _ i => 200 - (intOf i).toNat)
      case atStart => exact ⟨0, named, rfl, rfl, Nat.zero_le _, hn61, HFR.out.symm⟩
      case round =>
        obtain ⟨k, nm, rfl, rfl, hk, hnk, hf⟩ := hrel
        by_cases hlt : k < Q.length
        · obtain ⟨y, hy⟩ : ∃ y, Q.reverse[k]? = some y := ⟨_, List.getElem?_eq_getElem (by simpa using hlt)⟩
          obtain ⟨b, off, rfl, _, c0, c1, _⟩ := HA.out k (y.1, y.2, false) (by rw [List.take_of_length_le (Nat.le_refl _)]; exact hq_at Q k y hy)
          have hdr : Q.reverse.drop k = y :: Q.reverse.drop (k + 1) := by
            obtain ⟨hk', rfl⟩ := List.getElem?_eq_some_iff.1 hy
            exact List.drop_eq_getElem_cons hk'
          rw [hdr] at hf
          have HF := Lib.hid hf
          have hd1 : decide ((k : Int) < (Q.length : Int)) = true := decide_eq_true (by omega)
          clear hy hdr hf
          go_wp2_with fail
          · have h1 := str_ne (by assumption : (!y.1.toList == n.toList) = true)
            go_round
            case rel => exact ⟨k + 1, nm, by go_num, rfl, by omega, by omega, (findIn_no h1).symm.trans HF.out⟩
            case measure => simp [intOf]; omega
          · have h1 := str_eq (by assumption : (!y.1.toList == n.toList) = false)
            have h2 := str_eq' (by assumption : (y.2.toList == v.toList) = true)
            have hR : findR n v Q = (62 + k, true) := HF.out.symm.trans (findIn_hit h1 h2)
            go_ret2
            refine ⟨?_, by rw [HZ.out]; exact HB.out⟩
            rw [hR]
            rfl
          · have h1 := str_eq (by assumption : (!y.1.toList == n.toList) = false)
            have h2 := str_ne' (by assumption : (y.2.toList == v.toList) = false)
            have h3 : nm = 0 := by have h0 : ((nm : Int) == 0) = true := by assumption
                                   simpa using h0
            go_round
            case rel => exact ⟨k + 1, 62 + k, by go_num, by go_num, by omega, by omega, by subst h3; exact (findIn_new h1 h2).symm.trans HF.out⟩
            case measure => simp [intOf]; omega
          · have h1 := str_eq (by assumption : (!y.1.toList == n.toList) = false)
            have h2 := str_ne' (by assumption : (y.2.toList == v.toList) = false)
            have h3 : nm ≠ 0 := by have h0 : ((nm : Int) == 0) = false := by assumption
                                   simpa using h0
            go_round
            case rel => exact ⟨k + 1, nm, by go_num, rfl, by omega, by omega, (findIn_old h1 h2 h3).symm.trans HF.out⟩
            case measure => simp [intOf]; omega
        · have hkk : k = Q.length := by omega
          have hR : findR n v Q = (nm, false) := by
            rw [← hf, List.drop_eq_nil_of_le (by rw [List.length_reverse]; omega), findIn]
          have HR := Lib.hid hR
          have hd1 : decide ((k : Int) < (Q.length : Int)) = false := decide_eq_false (by omega)
          clear hf hR hkk
          go_wp2_with fail
          go_ret2
          refine ⟨?_, by rw [HZ.out]; exact HB.out⟩
          rw [HR.out]
          rfl
end Go.Proofs.YtflmgjidnclegaaDoor.Tab
