/-
  The hedge's Failed of a try that runs, its code fine, no throttle.
-/
import Derived.Test.YtnmcjdiihebagaaDoorHdgToldA
namespace Go.Proofs.YtnmcjdiihebagaaDoor.Hdg
open Go.RowKit
open Pol (intsV IntsAt codeOk)
set_option maxRecDepth 100000 in
set_option maxHeartbeats 16000000 in
/-- Failed of a try that runs, its code fine -/
theorem failed_moreB (B g : Nat) (T D : Int) (A : Option Addr) (nf cf : Nat) (fine : List Int) (now started : Int) (nx : Bool) (due : Int) (rv : Value) (run : List Int) (ans : Int) (code : Int) (try_ cd push n : Int) (w : World) (h : Blk w g 91 (hcC T D (.slice A nf cf) (.pointer none) now started (nxV g nx) due rv ans false code))
    (hr : w.ownsRow B 3 1 rv run.length (intsV run)) (hB : B ≤ w.heap.size) (hl : run.length ≤ 400) (hm : try_ ∈ run) (hst : 0 ≤ started ∧ started ≤ 5) (hT : T ≤ 5) (hnx : nx = true → started < T) (hD : 0 ≤ D ∧ D ≤ 1000000) (hnow : 0 ≤ now ∧ now ≤ 1125899906842624) (hn : n ≤ 1125899906842624) (hp : push ≤ 1125899906842624)
    (hfl : fine.length = nf) (hf6 : nf ≤ 1000000) (hfx : IntsAt w A fine) (hfd : ∀ ad, A = some ad → ad.block ≠ g ∧ rv.ownBlock ≠ some ad.block) (hcd : cd ∈ fine) (hat : ans ≠ try_) (hpc : push ≠ -2 ∧ 0 ≤ push) :
    Calls Tryd.prog 25 #[.pointer (some ⟨g, 0, none⟩), .int .i64 try_, .int .i64 cd, .int .i64 push, .int .i64 n] w (ToldPost w B g T D (.slice A nf cf) rv ⟨now, started, nx, due, run, ans, false, code⟩ (max now n)) := by
  have HNX := Lib.hid hnx
  have _ := hp
  have hM := hmid_clock h hr hB n
  have HC := Lib.hid (clock_any g _ _ _ _ now started _ due rv ans false code n w h)
  have HFX := Lib.hid hfx
  have HFD := Lib.hid hfd
  have HM := Lib.hid hM
  clear h hr hM hfx hfd
  go_enter Tryd.func25, Tryd.ntmps25
  go_wp2_with fail
  refine HC.out.mono ?_
  rintro e w1 ⟨rfl, rfl⟩
  generalize w.setCell ⟨g, 4, none⟩ (.int .i64 (max now n)) = w1 at *
  have c10 : w1.cell? ⟨g, 10, none⟩ = some (.bool false) := HM.out.kg.cell 10
  have RY := Lib.hid (runs_yes B g _ _ _ _ _ _ _ _ rv run _ _ _ try_ w1 HM.out.kg HM.out.kr HM.out.hB (by omega) hm)
  clear hm
  go_wp2_with fail
  refine RY.out.mono ?_
  rintro e w2 ⟨k, rv2, rfl, hk, hkx, hM2⟩
  have HM2 := Lib.hid (HM.out.trans hM2)
  have HKX := Lib.hid hkx
  have HK := Lib.hid hk
  have hls : (strike run k).length ≤ 400 := by have := (strike_sub run k).length_le; omega
  clear hM2 hkx hk RY c10 HM HC
  have c9 : w2.cell? ⟨g, 9, none⟩ = some (.int .i64 ans) := HM2.out.kg.cell 9
  have c2 : w2.cell? ⟨g, 2, none⟩ = some (.slice A nf cf) := HM2.out.kg.cell 2
  have c3 : w2.cell? ⟨g, 3, none⟩ = some (.pointer none) := HM2.out.kg.cell 3
  have ht : (ans == try_) = false := beq_eq_false_iff_ne.2 hat
  have HCT := Pol.contains_any fine A nf cf cd hfl (by omega) w2 (hmid_own HM2.out HFX.out HFD.out)
  rw [decide_eq_true hcd] at HCT
  have HCT2 := Lib.hid HCT
  have HLS := Lib.hid hls
  clear hat hcd HCT HFX HFD hfl hf6 hls
  obtain ⟨m, hmx⟩ : ∃ m : Int, max now n = m := ⟨_, rfl⟩
  have hm0 : 0 ≤ m ∧ m ≤ 1125899906842624 := by omega
  rw [hmx] at HM2 ⊢
  have HMX := Lib.hid hmx
  clear hmx hn hnow
  go_wp2_with fail
  refine HCT2.out.mono ?_
  rintro e w3 ⟨rfl, rfl⟩
  obtain ⟨Ar, capr, rfl, _⟩ := Pol.own_ints rfl HM2.out.kr
  obtain ⟨L, hL⟩ : ∃ L : Nat, (strike run k).length = L := ⟨_, rfl⟩
  have c8 : w2.cell? ⟨g, 8, none⟩ = some (.slice Ar L capr) := by rw [← hL]; exact HM2.out.kg.cell 8
  have HL := Lib.hid hL
  clear hL HCT2 c9 c2
  have c7 : w2.cell? ⟨g, 7, none⟩ = some (.int .i64 due) := HM2.out.kg.cell 7
  have c4 : w2.cell? ⟨g, 4, none⟩ = some (.int .i64 m) := HM2.out.kg.cell 4
  have f7 : w2.frozen? ⟨g, 7, none⟩ = false := HM2.out.kg.frozen 7
  have f6 : w2.frozen? ⟨g, 6, none⟩ = false := HM2.out.kg.frozen 6
  have hgl := HM2.out.kg.lt
  obtain ⟨p2, p0⟩ := hpc
  have hp2 : (push == -2) = false := beq_eq_false_iff_ne.2 p2
  clear p2
  have hp0 : decide (0 ≤ push) = true := decide_eq_true (by omega)
  cases nx with
  | true =>
    have c6 : w2.cell? ⟨g, 6, none⟩ = some (.func (.func 53) #[.pointer (some ⟨g, 0, none⟩)] #[]) := HM2.out.kg.cell 6
    have HSM2 := Lib.hid (some_any g _ _ _ _ _ _ _ _ _ _ _ _ w2 HM2.out.kg)
    go_wp2_with fail
    refine HSM2.out.mono ?_
    rintro e w4 ⟨rfl, rfl⟩
    have HM5 := Lib.hid (HM2.out.set 7 (.int .i64 (m + push)))
    go_wp2_with fail
    have SS := starts_any B g T D (.slice A nf cf) m started true (m + push) _ (strike run k) ans false code (w2.setCell ⟨g, 7, none⟩ (.int .i64 (m + push))) HM5.out.kg HM5.out.kr HM5.out.hB (by have := HLS.out; omega) hst hT (by first | exact HNX.out | exact (fun _ => HNX.out trivial) | exact (fun _ => HNX.out) | (intro h; cases h)) hD (by omega)
    have HSS := Lib.hid SS
    clear SS c6 c8 c7 c4 f7 f6 HSM2 HM2 HL c3
    go_wp2_with fail
    refine HSS.out.mono ?_
    rintro e w6 ⟨j, rv6, v6, rfl, hS, he6, hM6⟩
    have hM7 := HM5.out.trans hM6
    obtain ⟨A6, cap6, rfl, -⟩ := Pol.own_ints rfl hM7.kr
    obtain ⟨L6, hL6⟩ : ∃ L : Nat, (strike run k ++ newTries started j).length = L := ⟨_, rfl⟩
    have HM7 := Lib.hid hM7
    have HE6 := Lib.hid (own_base he6 HM5.out.up.size)
    have HS6 := Lib.hid hS
    have hbs6 : w.heap.size ≤ w6.heap.size := hM7.up.size
    obtain ⟨q, hq⟩ : ∃ q, nxAt T started true j = q := ⟨_, rfl⟩
    have d6 : w6.cell? ⟨g, 6, none⟩ = some (nxV g (nxAt T started true j)) := hM7.kg.cell 6
    have d8 : w6.cell? ⟨g, 8, none⟩ = some (.slice A6 L6 cap6) := by rw [← hL6]; exact hM7.kg.cell 8
    have HSM := Lib.hid (some_any g _ _ _ _ _ _ _ _ _ _ _ _ w6 hM7.kg)
    rw [hq] at d6
    unfold nxV at d6
    have HQ := Lib.hid hq
    have HL6 := Lib.hid hL6
    have hjL : j ≤ L6 := by rw [← hL6, List.length_append, newTries_length]; omega
    obtain ⟨vA, vc, rfl⟩ : ∃ vA vc, v6 = .slice vA j vc := by
      rcases he6.2 with ⟨e, e0⟩ | ⟨gg, cap, cur, e, _⟩
      · exact ⟨none, 0, by rw [e, e0]⟩
      · exact ⟨_, _, e⟩
    clear hq hL6 hM7 hM6 he6 hS HSS HM5
    cases q with
    | true =>
      simp only [if_true] at d6
      go_wp2_with fail
      refine HSM.out.mono ?_
      rintro e w7 ⟨rfl, rfl⟩
      by_cases hz : L6 = 0
      · have hzb : ((L6 : Int) == 0) = true := by simp [hz]
        clear hz
        go_wp2_with fail
        go_ret
        try rw [HMX.out]
        exact ⟨_, _, _, _, rfl, .more k true (m + push) j rfl (by simp) HS6.out (by rw [HQ.out]; simp), by rw [newEvs_length]; exact HE6.out, HM7.out⟩
      · have hzb : ((L6 : Int) == 0) = false := by simp [hz]
        clear hz
        go_wp2_with fail
        go_ret
        try rw [HMX.out]
        exact ⟨_, _, _, _, rfl, .more k true (m + push) j rfl (by simp) HS6.out (by rw [HQ.out]; simp), by rw [newEvs_length]; exact HE6.out, HM7.out⟩
    | false =>
      simp only [Bool.false_eq_true, if_false] at d6
      go_wp2_with fail
      refine (none_any g w6).mono ?_
      rintro e w7 ⟨rfl, rfl⟩
      by_cases hz : L6 = 0
      · have hj0 : j = 0 := by omega
        subst hz hj0
        have hnil : strike run k = [] := by
          have := HL6.out
          rw [List.length_append] at this
          exact List.eq_nil_of_length_eq_zero (by omega)
        have hM7 := HM7.out
        have hnl2 : strike run k ++ newTries started 0 = [] := by rw [hnil]; rfl
        rw [hnl2] at hM7
        have EN := Lib.hid (ends_any B g _ _ _ _ _ _ _ _ _ [] _ _ _ try_ cd w6 hM7.kg hM7.kr hM7.hB (by simp))
        have HM7 := Lib.hid hM7
        clear hM7 hnl2 HSM
        go_wp2_with fail
        refine EN.out.mono ?_
        rintro e w8 ⟨rv8, v8, rfl, he8, hM8⟩
        obtain ⟨A8, c8, rfl, _⟩ := evs_of_own (E := [⟨3, try_, cd, m⟩]) he8
        have hl8 := hM8.evs HM7.out.kg HM7.out.kr HE6.out
        have hR8 := Reads.of_own he8
        have HM8 := Lib.hid (HM7.out.trans hM8)
        have HR8 := Lib.hid hR8
        have HL8 := Lib.hid hl8
        have HON := Lib.hid (evV_one [⟨3, try_, cd, m⟩])
        have HNIL := Lib.hid hnil
        have hbs : w.heap.size ≤ w8.heap.size := HM8.out.up.size
        have HBS := Lib.hid hbs
        obtain ⟨i, hi, hi0, hi1, hi2⟩ := info_parts (P := Tryd.prog) (e := 56) (z := .agg #[.int .i64 0, .int .i64 0, .int .i64 0, .int .i64 0]) (size := 4) (bytes := 32) (by kernel_rfl)
        have HI := Lib.hid hi
        clear hi hM8 he8 hR8 EN d6 d8 HM7 hl8 hnil hbs HE6
        go_wp2_with (refine wpList_append_any _ rfl (.tmp 129) (.tmp 133) 51 rfl w.heap.size 56 i (.agg #[.int .i64 0, .int .i64 0, .int .i64 0, .int .i64 0]) 4 32 Tryd.underlying51 HI.out hi0 hi1 hi2 rfl (by decide) _ 0 [] rfl HL8.out w8.heap.size A8 1 c8 (evV [⟨3, try_, cd, m⟩]) rfl HR8.out HON.out (by decide) (by decide) HBS.out ?_; intro v9 w9 ho9 hg9 hat9)
        all_goals
          have h9 := HM8.out.other hg9 (own_blk_ne HL8.out HM8.out.kg (by decide)) (fun b hb => ⟨own_own_ne HL8.out HM8.out.kr (by decide) hb, (HL8.out.lt b hb).1⟩)
          have H9 := Lib.hid h9
          have HO9 := Lib.hid ho9
          clear h9 ho9 hg9 hat9 HM8 HL8 HI HR8
          go_wp2_with fail
          go_ret
          try rw [HMX.out]
          refine ⟨_, _, rv8, v9, rfl, .ends try_ cd (dueAt D m (m + push) 0) (strike run k) rfl (Or.inr ⟨k, HK.out, rfl, HKX.out⟩), ?_, ?_⟩
          · rw [HNIL.out]; exact HO9.out
          · have h := H9.out
            rw [show started + ((0 : Nat) : Int) = started by omega] at h
            show HMid _ _ _ _ _ _ _ ((strike run k).filter _)
            rw [HNIL.out]
            exact h
      · have hzb : ((L6 : Int) == 0) = false := by simp [hz]
        have hne : ¬ (strike run k ++ newTries started j = [] ∧ nxAt T started true j = false) := fun h => hz (by rw [← HL6.out, h.1]; rfl)
        have HNE := Lib.hid hne
        clear hz hne
        go_wp2_with fail
        go_ret
        try rw [HMX.out]
        exact ⟨_, _, _, _, rfl, .more k true (m + push) j rfl (by simp) HS6.out HNE.out, by rw [newEvs_length]; exact HE6.out, HM7.out⟩
  | false =>
    by_cases hz : L = 0
    · subst hz
      have c6 : w2.cell? ⟨g, 6, none⟩ = some (.func (.func 45) #[.pointer (some ⟨g, 0, none⟩)] #[]) := HM2.out.kg.cell 6
      have HSM2 := Lib.hid (some_any g _ _ _ _ _ _ _ _ _ _ _ _ w2 HM2.out.kg)
      go_wp2_with fail
      refine (none_any g w2).mono ?_
      rintro e w4 ⟨rfl, rfl⟩
      go_wp2_with fail
      go_region
      all_goals
        have HM5 := Lib.hid (HM2.out.set 7 (.int .i64 (min due m))).drew
        have SS := starts_any B g T D (.slice A nf cf) m started false (min due m) _ (strike run k) ans false code (w2.setCell ⟨g, 7, none⟩ (.int .i64 (min due m))).drew HM5.out.kg HM5.out.kr HM5.out.hB (by have := HLS.out; omega) hst hT (by first | exact HNX.out | exact (fun _ => HNX.out trivial) | exact (fun _ => HNX.out) | (intro h; cases h)) hD (by omega)
        have HSS := Lib.hid SS
        clear SS c6 c8 c7 c4 f7 f6 HSM2 HM2 HL c3
        go_wp2_with fail
        refine HSS.out.mono ?_
        rintro e w6 ⟨j, rv6, v6, rfl, hS, he6, hM6⟩
        have hM7 := HM5.out.trans hM6
        obtain ⟨A6, cap6, rfl, -⟩ := Pol.own_ints rfl hM7.kr
        obtain ⟨L6, hL6⟩ : ∃ L : Nat, (strike run k ++ newTries started j).length = L := ⟨_, rfl⟩
        have HM7 := Lib.hid hM7
        have HE6 := Lib.hid (own_base he6 HM5.out.up.size)
        have HS6 := Lib.hid hS
        have hbs6 : w.heap.size ≤ w6.heap.size := hM7.up.size
        obtain ⟨q, hq⟩ : ∃ q, nxAt T started false j = q := ⟨_, rfl⟩
        have d6 : w6.cell? ⟨g, 6, none⟩ = some (nxV g (nxAt T started false j)) := hM7.kg.cell 6
        have d8 : w6.cell? ⟨g, 8, none⟩ = some (.slice A6 L6 cap6) := by rw [← hL6]; exact hM7.kg.cell 8
        have HSM := Lib.hid (some_any g _ _ _ _ _ _ _ _ _ _ _ _ w6 hM7.kg)
        rw [hq] at d6
        unfold nxV at d6
        have HQ := Lib.hid hq
        have HL6 := Lib.hid hL6
        have hjL : j ≤ L6 := by rw [← hL6, List.length_append, newTries_length]; omega
        obtain ⟨vA, vc, rfl⟩ : ∃ vA vc, v6 = .slice vA j vc := by
          rcases he6.2 with ⟨e, e0⟩ | ⟨gg, cap, cur, e, _⟩
          · exact ⟨none, 0, by rw [e, e0]⟩
          · exact ⟨_, _, e⟩
        clear hq hL6 hM7 hM6 he6 hS HSS HM5
        cases q with
        | true =>
          simp only [if_true] at d6
          go_wp2_with fail
          refine HSM.out.mono ?_
          rintro e w7 ⟨rfl, rfl⟩
          by_cases hz : L6 = 0
          · have hzb : ((L6 : Int) == 0) = true := by simp [hz]
            clear hz
            go_wp2_with fail
            go_ret
            try rw [HMX.out]
            exact ⟨_, _, _, _, rfl, .more k false (min due m) j rfl (by simp) HS6.out (by rw [HQ.out]; simp), by rw [newEvs_length]; exact HE6.out, HM7.out⟩
          · have hzb : ((L6 : Int) == 0) = false := by simp [hz]
            clear hz
            go_wp2_with fail
            go_ret
            try rw [HMX.out]
            exact ⟨_, _, _, _, rfl, .more k false (min due m) j rfl (by simp) HS6.out (by rw [HQ.out]; simp), by rw [newEvs_length]; exact HE6.out, HM7.out⟩
        | false =>
          simp only [Bool.false_eq_true, if_false] at d6
          go_wp2_with fail
          refine (none_any g w6).mono ?_
          rintro e w7 ⟨rfl, rfl⟩
          by_cases hz : L6 = 0
          · have hj0 : j = 0 := by omega
            subst hz hj0
            have hnil : strike run k = [] := by
              have := HL6.out
              rw [List.length_append] at this
              exact List.eq_nil_of_length_eq_zero (by omega)
            have hM7 := HM7.out
            have hnl2 : strike run k ++ newTries started 0 = [] := by rw [hnil]; rfl
            rw [hnl2] at hM7
            have EN := Lib.hid (ends_any B g _ _ _ _ _ _ _ _ _ [] _ _ _ try_ cd w6 hM7.kg hM7.kr hM7.hB (by simp))
            have HM7 := Lib.hid hM7
            clear hM7 hnl2 HSM
            go_wp2_with fail
            refine EN.out.mono ?_
            rintro e w8 ⟨rv8, v8, rfl, he8, hM8⟩
            obtain ⟨A8, c8, rfl, _⟩ := evs_of_own (E := [⟨3, try_, cd, m⟩]) he8
            have hl8 := hM8.evs HM7.out.kg HM7.out.kr HE6.out
            have hR8 := Reads.of_own he8
            have HM8 := Lib.hid (HM7.out.trans hM8)
            have HR8 := Lib.hid hR8
            have HL8 := Lib.hid hl8
            have HON := Lib.hid (evV_one [⟨3, try_, cd, m⟩])
            have HNIL := Lib.hid hnil
            have hbs : w.heap.size ≤ w8.heap.size := HM8.out.up.size
            have HBS := Lib.hid hbs
            obtain ⟨i, hi, hi0, hi1, hi2⟩ := info_parts (P := Tryd.prog) (e := 56) (z := .agg #[.int .i64 0, .int .i64 0, .int .i64 0, .int .i64 0]) (size := 4) (bytes := 32) (by kernel_rfl)
            have HI := Lib.hid hi
            clear hi hM8 he8 hR8 EN d6 d8 HM7 hl8 hnil hbs HE6
            go_wp2_with (refine wpList_append_any _ rfl (.tmp 129) (.tmp 133) 51 rfl w.heap.size 56 i (.agg #[.int .i64 0, .int .i64 0, .int .i64 0, .int .i64 0]) 4 32 Tryd.underlying51 HI.out hi0 hi1 hi2 rfl (by decide) _ 0 [] rfl HL8.out w8.heap.size A8 1 c8 (evV [⟨3, try_, cd, m⟩]) rfl HR8.out HON.out (by decide) (by decide) HBS.out ?_; intro v9 w9 ho9 hg9 hat9)
            all_goals
              have h9 := HM8.out.other hg9 (own_blk_ne HL8.out HM8.out.kg (by decide)) (fun b hb => ⟨own_own_ne HL8.out HM8.out.kr (by decide) hb, (HL8.out.lt b hb).1⟩)
              have H9 := Lib.hid h9
              have HO9 := Lib.hid ho9
              clear h9 ho9 hg9 hat9 HM8 HL8 HI HR8
              go_wp2_with fail
              go_ret
              try rw [HMX.out]
              refine ⟨_, _, rv8, v9, rfl, .ends try_ cd (dueAt D m (min due m) 0) (strike run k) rfl (Or.inr ⟨k, HK.out, rfl, HKX.out⟩), ?_, ?_⟩
              · rw [HNIL.out]; exact HO9.out
              · have h := H9.out
                rw [show started + ((0 : Nat) : Int) = started by omega] at h
                show HMid _ _ _ _ _ _ _ ((strike run k).filter _)
                rw [HNIL.out]
                exact h
          · have hzb : ((L6 : Int) == 0) = false := by simp [hz]
            have hne : ¬ (strike run k ++ newTries started j = [] ∧ nxAt T started false j = false) := fun h => hz (by rw [← HL6.out, h.1]; rfl)
            have HNE := Lib.hid hne
            clear hz hne
            go_wp2_with fail
            go_ret
            try rw [HMX.out]
            exact ⟨_, _, _, _, rfl, .more k false (min due m) j rfl (by simp) HS6.out HNE.out, by rw [newEvs_length]; exact HE6.out, HM7.out⟩
    · have hzb : ((L : Int) == 0) = false := by simp [hz]
      have c6 : w2.cell? ⟨g, 6, none⟩ = some (.func (.func 45) #[.pointer (some ⟨g, 0, none⟩)] #[]) := HM2.out.kg.cell 6
      have HSM2 := Lib.hid (some_any g _ _ _ _ _ _ _ _ _ _ _ _ w2 HM2.out.kg)
      go_wp2_with fail
      refine (none_any g w2).mono ?_
      rintro e w4 ⟨rfl, rfl⟩
      have HM5 := Lib.hid HM2.out
      go_wp2_with fail
      have SS := starts_any B g T D (.slice A nf cf) m started false due _ (strike run k) ans false code w2 HM5.out.kg HM5.out.kr HM5.out.hB (by have := HLS.out; omega) hst hT (by first | exact HNX.out | exact (fun _ => HNX.out trivial) | exact (fun _ => HNX.out) | (intro h; cases h)) hD (by omega)
      have HSS := Lib.hid SS
      clear SS c6 c8 c7 c4 f7 f6 HSM2 HM2 HL c3
      go_wp2_with fail
      refine HSS.out.mono ?_
      rintro e w6 ⟨j, rv6, v6, rfl, hS, he6, hM6⟩
      have hM7 := HM5.out.trans hM6
      obtain ⟨A6, cap6, rfl, -⟩ := Pol.own_ints rfl hM7.kr
      obtain ⟨L6, hL6⟩ : ∃ L : Nat, (strike run k ++ newTries started j).length = L := ⟨_, rfl⟩
      have HM7 := Lib.hid hM7
      have HE6 := Lib.hid (own_base he6 HM5.out.up.size)
      have HS6 := Lib.hid hS
      have hbs6 : w.heap.size ≤ w6.heap.size := hM7.up.size
      obtain ⟨q, hq⟩ : ∃ q, nxAt T started false j = q := ⟨_, rfl⟩
      have d6 : w6.cell? ⟨g, 6, none⟩ = some (nxV g (nxAt T started false j)) := hM7.kg.cell 6
      have d8 : w6.cell? ⟨g, 8, none⟩ = some (.slice A6 L6 cap6) := by rw [← hL6]; exact hM7.kg.cell 8
      have HSM := Lib.hid (some_any g _ _ _ _ _ _ _ _ _ _ _ _ w6 hM7.kg)
      rw [hq] at d6
      unfold nxV at d6
      have HQ := Lib.hid hq
      have HL6 := Lib.hid hL6
      have hjL : j ≤ L6 := by rw [← hL6, List.length_append, newTries_length]; omega
      obtain ⟨vA, vc, rfl⟩ : ∃ vA vc, v6 = .slice vA j vc := by
        rcases he6.2 with ⟨e, e0⟩ | ⟨gg, cap, cur, e, _⟩
        · exact ⟨none, 0, by rw [e, e0]⟩
        · exact ⟨_, _, e⟩
      clear hq hL6 hM7 hM6 he6 hS HSS HM5
      cases q with
      | true =>
        simp only [if_true] at d6
        go_wp2_with fail
        refine HSM.out.mono ?_
        rintro e w7 ⟨rfl, rfl⟩
        by_cases hz : L6 = 0
        · have hzb : ((L6 : Int) == 0) = true := by simp [hz]
          clear hz
          go_wp2_with fail
          go_ret
          try rw [HMX.out]
          exact ⟨_, _, _, _, rfl, .more k false due j rfl (by simp) HS6.out (by rw [HQ.out]; simp), by rw [newEvs_length]; exact HE6.out, HM7.out⟩
        · have hzb : ((L6 : Int) == 0) = false := by simp [hz]
          clear hz
          go_wp2_with fail
          go_ret
          try rw [HMX.out]
          exact ⟨_, _, _, _, rfl, .more k false due j rfl (by simp) HS6.out (by rw [HQ.out]; simp), by rw [newEvs_length]; exact HE6.out, HM7.out⟩
      | false =>
        simp only [Bool.false_eq_true, if_false] at d6
        go_wp2_with fail
        refine (none_any g w6).mono ?_
        rintro e w7 ⟨rfl, rfl⟩
        by_cases hz : L6 = 0
        · have hj0 : j = 0 := by omega
          subst hz hj0
          have hnil : strike run k = [] := by
            have := HL6.out
            rw [List.length_append] at this
            exact List.eq_nil_of_length_eq_zero (by omega)
          have hM7 := HM7.out
          have hnl2 : strike run k ++ newTries started 0 = [] := by rw [hnil]; rfl
          rw [hnl2] at hM7
          have EN := Lib.hid (ends_any B g _ _ _ _ _ _ _ _ _ [] _ _ _ try_ cd w6 hM7.kg hM7.kr hM7.hB (by simp))
          have HM7 := Lib.hid hM7
          clear hM7 hnl2 HSM
          go_wp2_with fail
          refine EN.out.mono ?_
          rintro e w8 ⟨rv8, v8, rfl, he8, hM8⟩
          obtain ⟨A8, c8, rfl, _⟩ := evs_of_own (E := [⟨3, try_, cd, m⟩]) he8
          have hl8 := hM8.evs HM7.out.kg HM7.out.kr HE6.out
          have hR8 := Reads.of_own he8
          have HM8 := Lib.hid (HM7.out.trans hM8)
          have HR8 := Lib.hid hR8
          have HL8 := Lib.hid hl8
          have HON := Lib.hid (evV_one [⟨3, try_, cd, m⟩])
          have HNIL := Lib.hid hnil
          have hbs : w.heap.size ≤ w8.heap.size := HM8.out.up.size
          have HBS := Lib.hid hbs
          obtain ⟨i, hi, hi0, hi1, hi2⟩ := info_parts (P := Tryd.prog) (e := 56) (z := .agg #[.int .i64 0, .int .i64 0, .int .i64 0, .int .i64 0]) (size := 4) (bytes := 32) (by kernel_rfl)
          have HI := Lib.hid hi
          clear hi hM8 he8 hR8 EN d6 d8 HM7 hl8 hnil hbs HE6
          go_wp2_with (refine wpList_append_any _ rfl (.tmp 129) (.tmp 133) 51 rfl w.heap.size 56 i (.agg #[.int .i64 0, .int .i64 0, .int .i64 0, .int .i64 0]) 4 32 Tryd.underlying51 HI.out hi0 hi1 hi2 rfl (by decide) _ 0 [] rfl HL8.out w8.heap.size A8 1 c8 (evV [⟨3, try_, cd, m⟩]) rfl HR8.out HON.out (by decide) (by decide) HBS.out ?_; intro v9 w9 ho9 hg9 hat9)
          all_goals
            have h9 := HM8.out.other hg9 (own_blk_ne HL8.out HM8.out.kg (by decide)) (fun b hb => ⟨own_own_ne HL8.out HM8.out.kr (by decide) hb, (HL8.out.lt b hb).1⟩)
            have H9 := Lib.hid h9
            have HO9 := Lib.hid ho9
            clear h9 ho9 hg9 hat9 HM8 HL8 HI HR8
            go_wp2_with fail
            go_ret
            try rw [HMX.out]
            refine ⟨_, _, rv8, v9, rfl, .ends try_ cd (dueAt D m due 0) (strike run k) rfl (Or.inr ⟨k, HK.out, rfl, HKX.out⟩), ?_, ?_⟩
            · rw [HNIL.out]; exact HO9.out
            · have h := H9.out
              rw [show started + ((0 : Nat) : Int) = started by omega] at h
              show HMid _ _ _ _ _ _ _ ((strike run k).filter _)
              rw [HNIL.out]
              exact h
        · have hzb : ((L6 : Int) == 0) = false := by simp [hz]
          have hne : ¬ (strike run k ++ newTries started j = [] ∧ nxAt T started false j = false) := fun h => hz (by rw [← HL6.out, h.1]; rfl)
          have HNE := Lib.hid hne
          clear hz hne
          go_wp2_with fail
          go_ret
          try rw [HMX.out]
          exact ⟨_, _, _, _, rfl, .more k false due j rfl (by simp) HS6.out HNE.out, by rw [newEvs_length]; exact HE6.out, HM7.out⟩
end Go.Proofs.YtnmcjdiihebagaaDoor.Hdg
