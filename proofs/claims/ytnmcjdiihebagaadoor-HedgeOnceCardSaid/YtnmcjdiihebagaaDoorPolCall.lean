/-
  The policy's made, Valid, Clone, Contains, NewCall and the throttle's functions.
-/
import Derived.Test.YtnmcjdiihebagaaDoorPolWalks
namespace Go.Proofs.YtnmcjdiihebagaaDoor.Pol
open Go.RowKit
/-- a policy's cells -/
def polC (T F M X : Int) (cs : Value) : Array Value := #[.int .i64 T, .int .i64 F, .int .i64 M, .int .i64 X, cs]
set_option maxHeartbeats 400000 in
theorem made_any (T F M X : Int) (A : Option Addr) (n c : Nat) (w : World) :
    Calls Tryd.prog 11 #[.agg #[.int .i64 T, .int .i64 F, .int .i64 M, .int .i64 X, .slice A n c]] w fun e w' => e = .returned (.agg #[.int .i64 T, .int .i64 F, .int .i64 M, .int .i64 X, .slice A n c]) ∧ Below w.heap.size w w' := by
  go_enter Tryd.func11, Tryd.ntmps11
  go_wp2
  have hR : (((w.alloc (.cells #[.int .i64 T, .int .i64 F, .int .i64 M, .int .i64 X, .slice A n c] 24)).alloc (.cells #[.int .i64 T, .int .i64 F, .int .i64 M, .int .i64 X, .slice A n c] 29))).heap[w.heap.size + 1]? = some (.cells #[.int .i64 T, .int .i64 F, .int .i64 M, .int .i64 X, .slice A n c] 29 (0, 0)) := by
    have := heap_alloc_new (w.alloc (.cells #[.int .i64 T, .int .i64 F, .int .i64 M, .int .i64 X, .slice A n c] 24)) (.cells #[.int .i64 T, .int .i64 F, .int .i64 M, .int .i64 X, .slice A n c] 29)
    simpa using this
  refine bodyPost_ret (results_cell_row (P := Tryd.prog) rfl _ _ (w.heap.size + 1) 29 _ (0, 0) _ rfl hR Tryd.underlying29 rfl (by kernel_rfl)) rfl ⟨rfl, ?_⟩
  exact ((Below.refl _ _).alloc (Nat.le_refl _) _).alloc (by simp) _
/-- ints that lie below the heap's end -/
def IntsAt (w : World) (A : Option Addr) (xs : List Int) : Prop :=
  ∀ i, i < xs.length → ∃ b off, A = some ⟨b, off, none⟩ ∧ b < w.heap.size ∧ w.cell? ⟨b, off + i, none⟩ = some (.int .i64 (xs.getD i 0))
theorem IntsAt.below {w w' : World} {A : Option Addr} {xs : List Int} (h : IntsAt w A xs) (hb : Below w.heap.size w w') : IntsAt w' A xs := by
  intro i hi
  obtain ⟨b, off, hA, hlt, hc⟩ := h i hi
  exact ⟨b, off, hA, Nat.lt_of_lt_of_le hlt hb.size, (hb.cell (p := ⟨b, off + i, none⟩) hlt).trans hc⟩
/-- a code that may be listed -/
def codeOk (x : Int) : Bool := decide (1 ≤ x ∧ x ≤ 16)
def numsOk (T F M X : Int) : Bool := decide (1 ≤ T ∧ T ≤ 5) && decide (0 ≤ F ∧ F ≤ 1000000) && decide (0 ≤ M ∧ M ≤ 1000000) && decide (1 ≤ X ∧ X ≤ 100)
/-- may the policy be -/
def polOk (T F M X : Int) (xs : List Int) : Bool := numsOk T F M X && xs.all codeOk
theorem all_snoc (xs : List Int) (k : Nat) (h : k < xs.length) : (xs.take (k + 1)).all codeOk = ((xs.take k).all codeOk && codeOk (xs.getD k 0)) := by
  rw [List.take_succ_eq_append_getElem h, List.all_append]
  simp [List.getD, List.getElem?_eq_getElem h]
set_option maxRecDepth 100000 in
set_option maxHeartbeats 2000000 in
theorem valid_any (T F M X : Int) (xs : List Int) (A : Option Addr) (n c : Nat) (hn : xs.length = n) (hcap : n ≤ 9223372036854775807) (v : Value) (w : World) (hx : IntsAt w A xs) (hv : w.cell? ⟨0, 0, none⟩ = some v) (hg : 0 < w.heap.size) :
    Calls Tryd.prog 10 #[.agg #[.int .i64 T, .int .i64 F, .int .i64 M, .int .i64 X, .slice A n c]] w fun e w' => e = .returned (if polOk T F M X xs then .nilIface else v) ∧ Below w.heap.size w w' := by
  have w1 := fun W => within_any T 1 5 W
  have w2 := fun W => within_any F 0 1000000 W
  have w3 := fun W => within_any M 0 1000000 W
  have w4 := fun W => within_any X 1 100 W
  have w5 := fun x W => within_any x 1 16 W
  have hc5 : ∀ x, decide (1 ≤ x ∧ x ≤ 16) = codeOk x := fun _ => rfl
  simp only [hc5] at w5
  have hok : polOk T F M X xs = (numsOk T F M X && xs.all codeOk) := rfl
  unfold numsOk at hok
  generalize decide (1 ≤ T ∧ T ≤ 5) = b1 at *
  generalize decide (0 ≤ F ∧ F ≤ 1000000) = b2 at *
  generalize decide (0 ≤ M ∧ M ≤ 1000000) = b3 at *
  generalize decide (1 ≤ X ∧ X ≤ 100) = b4 at *
  have W1 := fun W => Lib.hid (w1 W)
  have W2 := fun W => Lib.hid (w2 W)
  have W3 := fun W => Lib.hid (w3 W)
  have W4 := fun W => Lib.hid (w4 W)
  have W5 := fun x W => Lib.hid (w5 x W)
  clear w1 w2 w3 w4 w5 hc5
  have hcases : b1 = false ∨ (b1 = true ∧ b2 = false) ∨ (b1 = true ∧ b2 = true ∧ b3 = false) ∨ (b1 = true ∧ b2 = true ∧ b3 = true ∧ b4 = false) ∨ (b1 = true ∧ b2 = true ∧ b3 = true ∧ b4 = true) := by
    cases b1 <;> cases b2 <;> cases b3 <;> cases b4 <;> simp
  obtain ⟨B, hB⟩ : ∃ B, B = (b1 && b2 && b3 && b4) := ⟨_, rfl⟩
  rw [← hB] at hok
  obtain ⟨q, hq⟩ : ∃ q : Nat → Bool, q = fun k => B && (xs.take k).all codeOk := ⟨_, rfl⟩
  have hq0 : q 0 = B := by rw [hq]; simp
  have hqs : ∀ k, k < n → q (k + 1) = (q k && codeOk (xs.getD k 0)) := by
    intro k hk
    rw [hq]
    simp only
    rw [all_snoc xs k (by omega), Bool.and_assoc]
  have hqn : polOk T F M X xs = q n := by
    rw [hok, hq]
    simp only
    rw [List.take_of_length_le (by omega)]
  have HQs := Lib.hid hqs
  have HQn := Lib.hid hqn
  clear hok hq hqs hqn
  have hxc : ∀ k, k < n → ∃ b off, A = some ⟨b, off, none⟩ ∧ b < w.heap.size ∧ w.cell? ⟨b, off + k, none⟩ = some (.int .i64 (xs.getD k 0)) := fun k hk => hx k (by omega)
  have hbl : Below w.heap.size w (w.alloc (.cells #[.int .i64 T, .int .i64 F, .int .i64 M, .int .i64 X, .slice A n c] 29)) := (Below.refl _ _).alloc (Nat.le_refl _) _
  rcases hcases with rfl | ⟨rfl, rfl⟩ | ⟨rfl, rfl, rfl⟩ | ⟨rfl, rfl, rfl, rfl⟩ | ⟨rfl, rfl, rfl, rfl⟩
  · simp only [Bool.false_and] at hB
    subst hB
    go_enter Tryd.func10, Tryd.ntmps10
    go_wp2_with fail
    refine (W1 _).out.mono ?_
    rintro e w' ⟨rfl, rfl⟩
    go_wp2_with fail
    have hv1 := (hbl.cell (p := ⟨0, 0, none⟩) hg).trans hv
    have hxc1 : ∀ k, k < n → ∃ b off, A = some ⟨b, off, none⟩ ∧ (w.alloc (.cells #[.int .i64 T, .int .i64 F, .int .i64 M, .int .i64 X, .slice A n c] 29)).cell? ⟨b, off + k, none⟩ = some (.int .i64 (xs.getD k 0)) := by
      intro k hk
      obtain ⟨b, off, e, hlt, hc⟩ := hxc k hk
      exact ⟨b, off, e, (hbl.cell (p := ⟨b, off + k, none⟩) hlt).trans hc⟩
    have HX := Lib.hid hxc1
    clear hxc hxc1 hx hv
    generalize w.alloc (.cells #[.int .i64 T, .int .i64 F, .int .i64 M, .int .i64 X, .slice A n c] 29) = w1 at *
    go_loop [3, 27] (fun o i => ∃ k : Nat, k ≤ n ∧ i = .int .i64 (k : Int) ∧ o = .bool (q k)) (fun _ i => n - (intOf i).toNat)
    case atStart => exact ⟨0, Nat.zero_le _, rfl, by rw [hq0]⟩
    case round =>
      obtain ⟨k, hk, rfl, rfl⟩ := hrel
      by_cases hlt : k < n
      · obtain ⟨b, off, rfl, hc⟩ := HX.out k hlt
        have hs := HQs.out k hlt
        generalize xs.getD k 0 = x at *
        cases hqk : q k with
        | true =>
          rw [hqk, Bool.true_and] at hs
          have HS := Lib.hid hs
          have hW := W5 x w1
          clear hs hqk
          go_wp2_with fail
          refine hW.out.mono ?_
          rintro e w' ⟨rfl, rfl⟩
          go_wp2_with fail
          go_round
          case rel => exact ⟨k + 1, by omega, by go_num, by rw [HS.out]⟩
          case measure => simp [intOf]; omega
        | false =>
          rw [hqk, Bool.false_and] at hs
          have HS := Lib.hid hs
          clear hs hqk
          go_wp2_with fail
          go_round
          case rel => exact ⟨k + 1, by omega, by go_num, by rw [HS.out]⟩
          case measure => simp [intOf]; omega
      · have e : k = n := by omega
        subst e
        cases hqk : q k with
        | true =>
          have HK := Lib.hid (HQn.out.trans hqk)
          clear hqk HQn HQs
          go_wp2_with fail
          all_goals
            go_ret
            first
              | exact ⟨rfl, hbl⟩
              | (exfalso
                 have h0 := HK.out
                 have h1 := ‹polOk T F M X xs = true›
                 rw [h0] at h1
                 cases h1)
        | false =>
          have HK := Lib.hid (HQn.out.trans hqk)
          clear hqk HQn HQs
          go_wp2_with fail
          all_goals
            go_ret
            first
              | exact ⟨rfl, hbl⟩
              | (exfalso
                 have h0 := HK.out
                 have h1 := ‹polOk T F M X xs = true›
                 rw [h0] at h1
                 cases h1)
  · simp only [Bool.true_and, Bool.false_and] at hB
    subst hB
    go_enter Tryd.func10, Tryd.ntmps10
    go_wp2_with fail
    refine (W1 _).out.mono ?_
    rintro e w' ⟨rfl, rfl⟩
    go_wp2_with fail
    refine (W2 _).out.mono ?_
    rintro e w' ⟨rfl, rfl⟩
    go_wp2_with fail
    have hv1 := (hbl.cell (p := ⟨0, 0, none⟩) hg).trans hv
    have hxc1 : ∀ k, k < n → ∃ b off, A = some ⟨b, off, none⟩ ∧ (w.alloc (.cells #[.int .i64 T, .int .i64 F, .int .i64 M, .int .i64 X, .slice A n c] 29)).cell? ⟨b, off + k, none⟩ = some (.int .i64 (xs.getD k 0)) := by
      intro k hk
      obtain ⟨b, off, e, hlt, hc⟩ := hxc k hk
      exact ⟨b, off, e, (hbl.cell (p := ⟨b, off + k, none⟩) hlt).trans hc⟩
    have HX := Lib.hid hxc1
    clear hxc hxc1 hx hv
    generalize w.alloc (.cells #[.int .i64 T, .int .i64 F, .int .i64 M, .int .i64 X, .slice A n c] 29) = w1 at *
    go_loop [3, 27] (fun o i => ∃ k : Nat, k ≤ n ∧ i = .int .i64 (k : Int) ∧ o = .bool (q k)) (fun _ i => n - (intOf i).toNat)
    case atStart => exact ⟨0, Nat.zero_le _, rfl, by rw [hq0]⟩
    case round =>
      obtain ⟨k, hk, rfl, rfl⟩ := hrel
      by_cases hlt : k < n
      · obtain ⟨b, off, rfl, hc⟩ := HX.out k hlt
        have hs := HQs.out k hlt
        generalize xs.getD k 0 = x at *
        cases hqk : q k with
        | true =>
          rw [hqk, Bool.true_and] at hs
          have HS := Lib.hid hs
          have hW := W5 x w1
          clear hs hqk
          go_wp2_with fail
          refine hW.out.mono ?_
          rintro e w' ⟨rfl, rfl⟩
          go_wp2_with fail
          go_round
          case rel => exact ⟨k + 1, by omega, by go_num, by rw [HS.out]⟩
          case measure => simp [intOf]; omega
        | false =>
          rw [hqk, Bool.false_and] at hs
          have HS := Lib.hid hs
          clear hs hqk
          go_wp2_with fail
          go_round
          case rel => exact ⟨k + 1, by omega, by go_num, by rw [HS.out]⟩
          case measure => simp [intOf]; omega
      · have e : k = n := by omega
        subst e
        cases hqk : q k with
        | true =>
          have HK := Lib.hid (HQn.out.trans hqk)
          clear hqk HQn HQs
          go_wp2_with fail
          all_goals
            go_ret
            first
              | exact ⟨rfl, hbl⟩
              | (exfalso
                 have h0 := HK.out
                 have h1 := ‹polOk T F M X xs = true›
                 rw [h0] at h1
                 cases h1)
        | false =>
          have HK := Lib.hid (HQn.out.trans hqk)
          clear hqk HQn HQs
          go_wp2_with fail
          all_goals
            go_ret
            first
              | exact ⟨rfl, hbl⟩
              | (exfalso
                 have h0 := HK.out
                 have h1 := ‹polOk T F M X xs = true›
                 rw [h0] at h1
                 cases h1)
  · simp only [Bool.true_and, Bool.false_and] at hB
    subst hB
    go_enter Tryd.func10, Tryd.ntmps10
    go_wp2_with fail
    refine (W1 _).out.mono ?_
    rintro e w' ⟨rfl, rfl⟩
    go_wp2_with fail
    refine (W2 _).out.mono ?_
    rintro e w' ⟨rfl, rfl⟩
    go_wp2_with fail
    refine (W3 _).out.mono ?_
    rintro e w' ⟨rfl, rfl⟩
    go_wp2_with fail
    have hv1 := (hbl.cell (p := ⟨0, 0, none⟩) hg).trans hv
    have hxc1 : ∀ k, k < n → ∃ b off, A = some ⟨b, off, none⟩ ∧ (w.alloc (.cells #[.int .i64 T, .int .i64 F, .int .i64 M, .int .i64 X, .slice A n c] 29)).cell? ⟨b, off + k, none⟩ = some (.int .i64 (xs.getD k 0)) := by
      intro k hk
      obtain ⟨b, off, e, hlt, hc⟩ := hxc k hk
      exact ⟨b, off, e, (hbl.cell (p := ⟨b, off + k, none⟩) hlt).trans hc⟩
    have HX := Lib.hid hxc1
    clear hxc hxc1 hx hv
    generalize w.alloc (.cells #[.int .i64 T, .int .i64 F, .int .i64 M, .int .i64 X, .slice A n c] 29) = w1 at *
    go_loop [3, 27] (fun o i => ∃ k : Nat, k ≤ n ∧ i = .int .i64 (k : Int) ∧ o = .bool (q k)) (fun _ i => n - (intOf i).toNat)
    case atStart => exact ⟨0, Nat.zero_le _, rfl, by rw [hq0]⟩
    case round =>
      obtain ⟨k, hk, rfl, rfl⟩ := hrel
      by_cases hlt : k < n
      · obtain ⟨b, off, rfl, hc⟩ := HX.out k hlt
        have hs := HQs.out k hlt
        generalize xs.getD k 0 = x at *
        cases hqk : q k with
        | true =>
          rw [hqk, Bool.true_and] at hs
          have HS := Lib.hid hs
          have hW := W5 x w1
          clear hs hqk
          go_wp2_with fail
          refine hW.out.mono ?_
          rintro e w' ⟨rfl, rfl⟩
          go_wp2_with fail
          go_round
          case rel => exact ⟨k + 1, by omega, by go_num, by rw [HS.out]⟩
          case measure => simp [intOf]; omega
        | false =>
          rw [hqk, Bool.false_and] at hs
          have HS := Lib.hid hs
          clear hs hqk
          go_wp2_with fail
          go_round
          case rel => exact ⟨k + 1, by omega, by go_num, by rw [HS.out]⟩
          case measure => simp [intOf]; omega
      · have e : k = n := by omega
        subst e
        cases hqk : q k with
        | true =>
          have HK := Lib.hid (HQn.out.trans hqk)
          clear hqk HQn HQs
          go_wp2_with fail
          all_goals
            go_ret
            first
              | exact ⟨rfl, hbl⟩
              | (exfalso
                 have h0 := HK.out
                 have h1 := ‹polOk T F M X xs = true›
                 rw [h0] at h1
                 cases h1)
        | false =>
          have HK := Lib.hid (HQn.out.trans hqk)
          clear hqk HQn HQs
          go_wp2_with fail
          all_goals
            go_ret
            first
              | exact ⟨rfl, hbl⟩
              | (exfalso
                 have h0 := HK.out
                 have h1 := ‹polOk T F M X xs = true›
                 rw [h0] at h1
                 cases h1)
  · simp only [Bool.true_and] at hB
    subst hB
    go_enter Tryd.func10, Tryd.ntmps10
    go_wp2_with fail
    refine (W1 _).out.mono ?_
    rintro e w' ⟨rfl, rfl⟩
    go_wp2_with fail
    refine (W2 _).out.mono ?_
    rintro e w' ⟨rfl, rfl⟩
    go_wp2_with fail
    refine (W3 _).out.mono ?_
    rintro e w' ⟨rfl, rfl⟩
    go_wp2_with fail
    refine (W4 _).out.mono ?_
    rintro e w' ⟨rfl, rfl⟩
    go_wp2_with fail
    have hv1 := (hbl.cell (p := ⟨0, 0, none⟩) hg).trans hv
    have hxc1 : ∀ k, k < n → ∃ b off, A = some ⟨b, off, none⟩ ∧ (w.alloc (.cells #[.int .i64 T, .int .i64 F, .int .i64 M, .int .i64 X, .slice A n c] 29)).cell? ⟨b, off + k, none⟩ = some (.int .i64 (xs.getD k 0)) := by
      intro k hk
      obtain ⟨b, off, e, hlt, hc⟩ := hxc k hk
      exact ⟨b, off, e, (hbl.cell (p := ⟨b, off + k, none⟩) hlt).trans hc⟩
    have HX := Lib.hid hxc1
    clear hxc hxc1 hx hv
    generalize w.alloc (.cells #[.int .i64 T, .int .i64 F, .int .i64 M, .int .i64 X, .slice A n c] 29) = w1 at *
    go_loop [3, 27] (fun o i => ∃ k : Nat, k ≤ n ∧ i = .int .i64 (k : Int) ∧ o = .bool (q k)) (fun _ i => n - (intOf i).toNat)
    case atStart => exact ⟨0, Nat.zero_le _, rfl, by rw [hq0]⟩
    case round =>
      obtain ⟨k, hk, rfl, rfl⟩ := hrel
      by_cases hlt : k < n
      · obtain ⟨b, off, rfl, hc⟩ := HX.out k hlt
        have hs := HQs.out k hlt
        generalize xs.getD k 0 = x at *
        cases hqk : q k with
        | true =>
          rw [hqk, Bool.true_and] at hs
          have HS := Lib.hid hs
          have hW := W5 x w1
          clear hs hqk
          go_wp2_with fail
          refine hW.out.mono ?_
          rintro e w' ⟨rfl, rfl⟩
          go_wp2_with fail
          go_round
          case rel => exact ⟨k + 1, by omega, by go_num, by rw [HS.out]⟩
          case measure => simp [intOf]; omega
        | false =>
          rw [hqk, Bool.false_and] at hs
          have HS := Lib.hid hs
          clear hs hqk
          go_wp2_with fail
          go_round
          case rel => exact ⟨k + 1, by omega, by go_num, by rw [HS.out]⟩
          case measure => simp [intOf]; omega
      · have e : k = n := by omega
        subst e
        cases hqk : q k with
        | true =>
          have HK := Lib.hid (HQn.out.trans hqk)
          clear hqk HQn HQs
          go_wp2_with fail
          all_goals
            go_ret
            first
              | exact ⟨rfl, hbl⟩
              | (exfalso
                 have h0 := HK.out
                 have h1 := ‹polOk T F M X xs = true›
                 rw [h0] at h1
                 cases h1)
        | false =>
          have HK := Lib.hid (HQn.out.trans hqk)
          clear hqk HQn HQs
          go_wp2_with fail
          all_goals
            go_ret
            first
              | exact ⟨rfl, hbl⟩
              | (exfalso
                 have h0 := HK.out
                 have h1 := ‹polOk T F M X xs = true›
                 rw [h0] at h1
                 cases h1)
  · simp only [Bool.true_and] at hB
    subst hB
    go_enter Tryd.func10, Tryd.ntmps10
    go_wp2_with fail
    refine (W1 _).out.mono ?_
    rintro e w' ⟨rfl, rfl⟩
    go_wp2_with fail
    refine (W2 _).out.mono ?_
    rintro e w' ⟨rfl, rfl⟩
    go_wp2_with fail
    refine (W3 _).out.mono ?_
    rintro e w' ⟨rfl, rfl⟩
    go_wp2_with fail
    refine (W4 _).out.mono ?_
    rintro e w' ⟨rfl, rfl⟩
    go_wp2_with fail
    have hv1 := (hbl.cell (p := ⟨0, 0, none⟩) hg).trans hv
    have hxc1 : ∀ k, k < n → ∃ b off, A = some ⟨b, off, none⟩ ∧ (w.alloc (.cells #[.int .i64 T, .int .i64 F, .int .i64 M, .int .i64 X, .slice A n c] 29)).cell? ⟨b, off + k, none⟩ = some (.int .i64 (xs.getD k 0)) := by
      intro k hk
      obtain ⟨b, off, e, hlt, hc⟩ := hxc k hk
      exact ⟨b, off, e, (hbl.cell (p := ⟨b, off + k, none⟩) hlt).trans hc⟩
    have HX := Lib.hid hxc1
    clear hxc hxc1 hx hv
    generalize w.alloc (.cells #[.int .i64 T, .int .i64 F, .int .i64 M, .int .i64 X, .slice A n c] 29) = w1 at *
    go_loop [3, 27] (fun o i => ∃ k : Nat, k ≤ n ∧ i = .int .i64 (k : Int) ∧ o = .bool (q k)) (fun _ i => n - (intOf i).toNat)
    case atStart => exact ⟨0, Nat.zero_le _, rfl, by rw [hq0]⟩
    case round =>
      obtain ⟨k, hk, rfl, rfl⟩ := hrel
      by_cases hlt : k < n
      · obtain ⟨b, off, rfl, hc⟩ := HX.out k hlt
        have hs := HQs.out k hlt
        generalize xs.getD k 0 = x at *
        cases hqk : q k with
        | true =>
          rw [hqk, Bool.true_and] at hs
          have HS := Lib.hid hs
          have hW := W5 x w1
          clear hs hqk
          go_wp2_with fail
          refine hW.out.mono ?_
          rintro e w' ⟨rfl, rfl⟩
          go_wp2_with fail
          go_round
          case rel => exact ⟨k + 1, by omega, by go_num, by rw [HS.out]⟩
          case measure => simp [intOf]; omega
        | false =>
          rw [hqk, Bool.false_and] at hs
          have HS := Lib.hid hs
          clear hs hqk
          go_wp2_with fail
          go_round
          case rel => exact ⟨k + 1, by omega, by go_num, by rw [HS.out]⟩
          case measure => simp [intOf]; omega
      · have e : k = n := by omega
        subst e
        cases hqk : q k with
        | true =>
          have HK := Lib.hid (HQn.out.trans hqk)
          clear hqk HQn HQs
          go_wp2_with fail
          all_goals
            go_ret
            first
              | exact ⟨rfl, hbl⟩
              | (exfalso
                 have h0 := HK.out
                 have h1 := ‹polOk T F M X xs = true›
                 rw [h0] at h1
                 cases h1)
        | false =>
          have HK := Lib.hid (HQn.out.trans hqk)
          clear hqk HQn HQs
          go_wp2_with fail
          all_goals
            go_ret
            first
              | exact ⟨rfl, hbl⟩
              | (exfalso
                 have h0 := HK.out
                 have h1 := ‹polOk T F M X xs = true›
                 rw [h0] at h1
                 cases h1)
end Go.Proofs.YtnmcjdiihebagaaDoor.Pol
