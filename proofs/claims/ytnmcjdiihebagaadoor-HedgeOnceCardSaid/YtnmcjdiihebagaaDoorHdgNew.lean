/-
  The hedge's Valid and New.
-/
import Derived.Test.YtnmcjdiihebagaaDoorHdgRuns
namespace Go.Proofs.YtnmcjdiihebagaaDoor.Hdg
open Go.RowKit
open Pol (intsV IntsAt codeOk)
/-- may the policy's numbers be -/
def hnums (T D : Int) : Prop := 1 ≤ T ∧ T ≤ 5 ∧ 0 ≤ D ∧ D ≤ 1000000
instance (T D : Int) : Decidable (hnums T D) := by unfold hnums; infer_instance
/-- nil, or the error -/
def hres (b : Bool) (v : Value) : Value := if b then .nilIface else v
def hOk (T D : Int) (xs : List Int) : Bool := decide (hnums T D) && xs.all codeOk
set_option maxRecDepth 100000 in
set_option maxHeartbeats 2000000 in
theorem hvalid_any (T D : Int) (xs : List Int) (A : Option Addr) (n c : Nat) (hn : xs.length = n) (hcap : n ≤ 9223372036854775807) (v : Value) (w : World) (hx : IntsAt w A xs) (hv : w.cell? ⟨0, 0, none⟩ = some v) (hg : 0 < w.heap.size) :
    Calls Tryd.prog 38 #[.agg #[.int .i64 T, .int .i64 D, .slice A n c]] w fun e w' => e = .returned (hres (hOk T D xs) v) ∧ Below w.heap.size w w' := by
  have hbl : Below w.heap.size w (w.alloc (.cells #[.int .i64 T, .int .i64 D, .slice A n c] 49)) := (Below.refl _ _).alloc (Nat.le_refl _) _
  have hv1 := (hbl.cell (p := ⟨0, 0, none⟩) hg).trans hv
  have hx1 := hx.below hbl
  by_cases hnum : hnums T D
  · obtain ⟨t1, t2, d1, d2⟩ := hnum
    obtain ⟨q, hq⟩ : ∃ q : Nat → Bool, q = fun k => (xs.take k).all codeOk := ⟨_, rfl⟩
    have hq0 : q 0 = true := by rw [hq]; simp
    have hqs : ∀ k, k < n → q (k + 1) = (q k && codeOk (xs.getD k 0)) := by
      intro k hk
      rw [hq]
      exact Pol.all_snoc xs k (by omega)
    have hqn : hOk T D xs = q n := by
      unfold hOk
      rw [decide_eq_true (show hnums T D from ⟨t1, t2, d1, d2⟩), Bool.true_and, hq]
      simp only
      rw [List.take_of_length_le (by omega)]
    have HQ0 := Lib.hid hq0
    have HQs := Lib.hid hqs
    have HQn := Lib.hid hqn
    have HV1 := Lib.hid hv1
    clear hq hqs hqn hq0 hx hv hv1
    go_enter Tryd.func38, Tryd.ntmps38
    go_wp2_with fail
    have HX := Lib.hid hx1
    have HBL := Lib.hid hbl
    clear hx1 hbl
    generalize w.alloc (.cells #[.int .i64 T, .int .i64 D, .slice A n c] 49) = w1 at *
    go_loop [3, 27] (fun o i => ∃ k : Nat, k ≤ n ∧ i = .int .i64 (k : Int) ∧ o = .bool (q k)) (fun _ i => n - (intOf i).toNat)
    case atStart => exact ⟨0, Nat.zero_le _, rfl, by rw [HQ0.out]⟩
    case round =>
      obtain ⟨k, hk, rfl, rfl⟩ := hrel
      by_cases hlt : k < n
      · obtain ⟨b, off, rfl, hb, hc⟩ := HX.out k (by omega)
        have hs := HQs.out k hlt
        obtain ⟨x, hx0⟩ : ∃ x, xs.getD k 0 = x := ⟨_, rfl⟩
        rw [hx0] at hc hs
        clear hx0
        cases hqk : q k with
        | true =>
          rw [hqk, Bool.true_and] at hs
          have HS := Lib.hid hs
          clear hs hqk
          by_cases h1 : 1 ≤ x
          · by_cases h2 : x ≤ 16
            · have hcx : codeOk x = true := decide_eq_true ⟨h1, h2⟩
              have HC := Lib.hid hcx
              have hd1 : decide (1 ≤ x) = true := decide_eq_true h1
              have hd2 : decide (x ≤ 16) = true := decide_eq_true h2
              clear hcx
              go_wp2_with fail
              go_round
              case rel => exact ⟨k + 1, by omega, by go_num, by rw [HS.out, HC.out]⟩
              case measure => simp [intOf]; omega
            · have hcx : codeOk x = false := decide_eq_false (fun h => h2 h.2)
              have HC := Lib.hid hcx
              have hd1 : decide (1 ≤ x) = true := decide_eq_true h1
              have hd2 : decide (x ≤ 16) = false := decide_eq_false h2
              clear hcx
              go_wp2_with fail
              go_round
              case rel => exact ⟨k + 1, by omega, by go_num, by rw [HS.out, HC.out]⟩
              case measure => simp [intOf]; omega
          · have hcx : codeOk x = false := decide_eq_false (fun h => h1 h.1)
            have HC := Lib.hid hcx
            have hd1 : decide (1 ≤ x) = false := decide_eq_false h1
            clear hcx
            go_wp2_with fail
            go_round
            case rel => exact ⟨k + 1, by omega, by go_num, by rw [HS.out, HC.out]⟩
            case measure => simp [intOf]; omega
        | false =>
          rw [hqk, Bool.false_and] at hs
          have HS := Lib.hid hs
          clear hs hqk
          go_wp2_with fail
          go_round
          case rel => exact ⟨k + 1, by omega, by go_num, by rw [HS.out]⟩
          case measure => simp [intOf]; omega
      · have e : k = n := by omega
        subst e
        have hv2 := HV1.out
        cases hqk : q k with
        | true =>
          have HK := Lib.hid (HQn.out.trans hqk)
          clear hqk HQn HQs
          go_wp2_with fail
          go_ret
          first | exact ⟨rfl, HBL.out⟩ | exact ⟨by rw [HK.out]; rfl, HBL.out⟩
        | false =>
          have HK := Lib.hid (HQn.out.trans hqk)
          clear hqk HQn HQs
          go_wp2_with fail
          go_ret
          first | exact ⟨rfl, HBL.out⟩ | exact ⟨by rw [HK.out]; rfl, HBL.out⟩
  · have hqn : hOk T D xs = false := by unfold hOk; rw [decide_eq_false hnum, Bool.false_and]
    have HQN := Lib.hid hqn
    have hcs : T < 1 ∨ (1 ≤ T ∧ 5 < T) ∨ (1 ≤ T ∧ T ≤ 5 ∧ D < 0) ∨ (1 ≤ T ∧ T ≤ 5 ∧ 0 ≤ D ∧ 1000000 < D) := by unfold hnums at hnum; omega
    have HX := Lib.hid hx1
    have HBL := Lib.hid hbl
    have HV1 := Lib.hid hv1
    clear hqn hnum hx hv hv1 hx1 hbl
    rcases hcs with h1 | ⟨h1, h2⟩ | ⟨h1, h2, h3⟩ | ⟨h1, h2, h3, h4⟩
    all_goals
      try (have h5 : decide (D ≤ 1000000) = false := decide_eq_false (by omega))
      go_enter Tryd.func38, Tryd.ntmps38
      go_wp2_with fail
      generalize w.alloc (.cells #[.int .i64 T, .int .i64 D, .slice A n c] 49) = w1 at *
      go_loop [3, 27] (fun o i => ∃ k : Nat, k ≤ n ∧ i = .int .i64 (k : Int) ∧ o = .bool false) (fun _ i => n - (intOf i).toNat)
      case atStart => exact ⟨0, Nat.zero_le _, rfl, rfl⟩
      case round =>
        obtain ⟨k, hk, rfl, rfl⟩ := hrel
        by_cases hlt : k < n
        · obtain ⟨b, off, rfl, hb, hc⟩ := HX.out k (by omega)
          go_wp2_with fail
          go_round
          case rel => exact ⟨k + 1, by omega, by go_num, rfl⟩
          case measure => simp [intOf]; omega
        · have e : k = n := by omega
          subst e
          have hv2 := HV1.out
          go_wp2_with fail
          go_ret
          first | exact ⟨rfl, HBL.out⟩ | exact ⟨by rw [HQN.out]; rfl, HBL.out⟩
set_option maxRecDepth 100000 in
set_option maxHeartbeats 4000000 in
theorem hnew_ok (T D : Int) (xs : List Int) (A : Option Addr) (n c : Nat) (hn : xs.length = n) (hcap : n ≤ 1000000) (h0 : A = none → c = 0) (tp : Option Addr) (v : Value) (w : World) (hx : IntsAt w A xs) (hok : hOk T D xs = true) (hv : w.cell? ⟨0, 0, none⟩ = some v) (hg : 0 < w.heap.size) :
    Calls Tryd.prog 23 #[.agg #[.int .i64 T, .int .i64 D, .slice A n c], .pointer tp] w fun e w' => ∃ g A' c' rv b, e = .returned (.tuple #[.pointer (some ⟨g, 0, none⟩), .slice (some ⟨b, 0, none⟩) 1 1, .nilIface]) ∧ w.heap.size ≤ g ∧ IntsAt w' A' xs ∧ (∀ ad, A' = some ad → w.heap.size ≤ ad.block ∧ ad.block ≠ g ∧ rv.ownBlock ≠ some ad.block) ∧
      Blk w' g 91 (hcC T D (.slice A' n c') (.pointer tp) 0 1 (nxV g (decide (1 < T))) D rv (-1) false 0) ∧ w'.ownsRow w.heap.size 3 1 rv [(0 : Int)].length (intsV [0]) ∧ w'.ownsRow w.heap.size 56 4 (.slice (some ⟨b, 0, none⟩) 1 1) 1 (evV [⟨1, 0, 0, 0⟩]) ∧ Below w.heap.size w w' := by
  have hB0 : Below w.heap.size w (w.alloc (.cells #[.int .i64 T, .int .i64 D, .slice A n c] 49)) := (Below.refl _ _).alloc (Nat.le_refl _) _
  have hx1 := hx.below hB0
  have hnum : hnums T D := by
    have h2 : (decide (hnums T D) && xs.all codeOk) = true := hok
    rw [Bool.and_eq_true] at h2
    exact of_decide_eq_true h2.1
  obtain ⟨t1, t2, q1, q2⟩ := hnum
  have hv1 := (hB0.cell (p := ⟨0, 0, none⟩) hg).trans hv
  have hg1 : 0 < (w.alloc (.cells #[.int .i64 T, .int .i64 D, .slice A n c] 49)).heap.size := Nat.lt_of_lt_of_le hg hB0.size
  have HV := Lib.hid (hvalid_any T D xs A n c hn (by omega) v _ hx1 hv1 hg1)
  rw [hok, show hres true v = .nilIface from rfl] at HV
  go_enter Tryd.func23, Tryd.ntmps23
  go_wp2_with fail
  refine HV.out.mono ?_
  rintro e w2 ⟨rfl, hb2⟩
  have hP2 : Blk w2 w.heap.size 49 #[.int .i64 T, .int .i64 D, .slice A n c] := (Blk.new w 49 #[.int .i64 T, .int .i64 D, .slice A n c]).below hb2 (by simp)
  have hB2 : Below w.heap.size w w2 := hB0.trans (hb2.mono hB0.size)
  have hx2 := hx1.below hb2
  have hc2 : w2.cell? ⟨w.heap.size, 2, none⟩ = some (.slice A n c) := hP2.cell 2
  clear hx1 hv1 hg1 HV
  go_wp2_with fail
  refine (Pol.clone_any xs A n c hn hcap w2 hx2 h0).mono ?_
  rintro e w3 ⟨v2, rfl, ho, hb3⟩
  have hlt2 : w.heap.size < w2.heap.size := hP2.lt
  have hP3 := hP2.below hb3 hlt2
  have hB3 : Below w.heap.size w w3 := hB2.trans (hb3.mono hB2.size)
  obtain ⟨A', c', rfl, hx3⟩ := Pol.own_ints hn ho
  have d0 : w3.cell? ⟨w.heap.size, 0, none⟩ = some (.int .i64 T) := hP3.cell 0
  have d1 : w3.cell? ⟨w.heap.size, 1, none⟩ = some (.int .i64 D) := hP3.cell 1
  have d2 : w3.cell? ⟨w.heap.size, 2, none⟩ = some (.slice A n c) := hP3.cell 2
  have f2 : w3.frozen? ⟨w.heap.size, 2, none⟩ = false := hP3.frozen 2
  have HP3 := Lib.hid hP3
  clear hP2 hc2 hx2 hb2 hb3 hP3
  go_wp2_with fail
  have hge : ∀ ad, A' = some ad → w2.heap.size ≤ ad.block := by
    rintro ad rfl
    exact Pol.own_ge ho _ rfl
  have hlt3 : ∀ ad, A' = some ad → ad.block < w3.heap.size := by
    rintro ad rfl
    exact Pol.own_lt ho _ rfl
  have hs3 : (w3.setCell ⟨w.heap.size, 2, none⟩ (.slice A' n c')).heap.size = w3.heap.size := by simp
  have hB4 := (hB3.setCell (p := ⟨w.heap.size, 2, none⟩) (Nat.le_refl _) (.slice A' n c')).alloc (by rw [hs3]; exact hB3.size) (.cells (hcC T D (.slice A' n c') (.pointer tp) 0 0 .nilFunc 0 (.slice none 0 0) (-1) false 0) 91)
  have hx4 := hx3.setCell (p := ⟨w.heap.size, 2, none⟩) (fun ad e => by have := hge ad e; show ad.block ≠ w.heap.size; omega) (.slice A' n c')
  have hx5 := hx4.below ((Below.refl _ _).alloc (Nat.le_refl _) (.cells (hcC T D (.slice A' n c') (.pointer tp) 0 0 .nilFunc 0 (.slice none 0 0) (-1) false 0) 91))
  have hK : Blk ((w3.setCell ⟨w.heap.size, 2, none⟩ (.slice A' n c')).alloc (.cells (hcC T D (.slice A' n c') (.pointer tp) 0 0 .nilFunc 0 (.slice none 0 0) (-1) false 0) 91)) w3.heap.size 91 (hcC T D (.slice A' n c') (.pointer tp) 0 0 .nilFunc 0 (.slice none 0 0) (-1) false 0) := Pol.blk_set_new w3 _ _ _ _
  have hsz : w3.heap.size < ((w3.setCell ⟨w.heap.size, 2, none⟩ (.slice A' n c')).alloc (.cells (hcC T D (.slice A' n c') (.pointer tp) 0 0 .nilFunc 0 (.slice none 0 0) (-1) false 0) 91)).heap.size := hK.lt
  have ST := start_any w.heap.size w3.heap.size T D (.slice A' n c') (.pointer tp) 0 0 .nilFunc 0 (.slice none 0 0) [] (-1) false 0 _ hK (World.ownsRow_nil _ _ _ _) hB4.size (by simp) (by omega) (by omega) (by omega)
  have HST := Lib.hid ST
  have HB4 := Lib.hid hB4
  have HX5 := Lib.hid hx5
  have HGE := Lib.hid hge
  have HLT := Lib.hid hlt3
  have hw3 := hB3.size
  unfold hcC at HST HB4 HX5 hsz
  clear ST hB4 hx4 hx5 hK hge hlt3 hs3 ho hx3 hB3 hB2 hB0 d0 d1 d2 f2 HP3
  generalize (w3.setCell ⟨w.heap.size, 2, none⟩ (.slice A' n c')).alloc (.cells #[.int .i64 T, .int .i64 D, .slice A' n c', .pointer tp, .int .i64 0, .int .i64 0, .nilFunc, .int .i64 0, .slice none 0 0, .int .i64 (-1), .bool false, .int .i64 0] 91) = w5 at *
  refine HST.out.mono ?_
  rintro e w6 ⟨rv', b, rfl, hb, he6, hM6⟩
  have hx6 := hmid_own hM6 HX5.out (fun ad e => ⟨by have := HLT.out ad e; omega, fun h => by cases h⟩)
  have hne6 : ∀ ad, A' = some ad → w.heap.size ≤ ad.block ∧ ad.block ≠ w3.heap.size ∧ rv'.ownBlock ≠ some ad.block := fun ad e => by
    have h1 := HLT.out ad e
    have h2 := HGE.out ad e
    refine ⟨by omega, by omega, fun h => ?_⟩
    rcases hM6.fresh _ h with h3 | h3
    · cases h3
    · omega
  have hB6 := hM6.up.below (B := w.heap.size) (fun i hi => by rcases hi with h | h; omega; cases h) HB4.out.size
  have HR := Lib.hid hM6.kr
  have HK := Lib.hid hM6.kg
  have HX6 := Lib.hid hx6
  have HNE := Lib.hid hne6
  have HE6 := Lib.hid (own_base he6 HB4.out.size)
  have HB6 := Lib.hid (HB4.out.trans hB6)
  clear hM6 he6 hx6 hne6 hB6 HST HB4 HX5 HGE HLT
  go_wp2_with fail
  go_ret3
  refine ⟨_, A', c', rv', b, rfl, by omega, HX6.out, HNE.out, ?_, HR.out, HE6.out, HB6.out⟩
  have h := HK.out
  rw [show (0 : Int) + 1 = 1 from rfl, show (0 : Int) + D = D by omega] at h
  exact h
end Go.Proofs.YtnmcjdiihebagaaDoor.Hdg
