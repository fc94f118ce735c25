/-
  The walks of package flow: what each function does to the world.
-/
import Derived.Test.YtlaldjbdpgbhkaaDoorKit
namespace Go.Proofs.YtlaldjbdpgbhkaaDoor
open Go.RowKit
set_option maxHeartbeats 400000 in
theorem new_yes (n : Int) (w : World) (h0 : 0 ≤ n) (h1 : n ≤ 2147483647) :
    Calls Tryd.prog 6 #[.int .i64 n] w fun e w' => e = .returned (.tuple #[.pointer (some ⟨w.heap.size, 0, none⟩), .nilIface]) ∧ w.alloc (.cells #[.int .i64 n] 39) = w' := by
  go_enter Tryd.func6, Tryd.ntmps6
  go_wp2
  go_ret2
  exact ⟨rfl, rfl⟩
set_option maxHeartbeats 400000 in
theorem new_no (n : Int) (w : World) (v : Value) (hg : w.cell? ⟨0, 0, none⟩ = some v) (h1 : n < 0 ∨ 2147483647 < n) :
    Calls Tryd.prog 6 #[.int .i64 n] w fun e w' => e = .returned (.tuple #[.pointer none, v]) ∧ Below w.heap.size w w' := by
  go_enter Tryd.func6, Tryd.ntmps6
  rcases h1 with h1 | h1
  · go_wp2
    go_quiet (fail)
    go_wp2
    go_ret2
    exact ⟨rfl, ⟨rfl, rfl, rfl, Nat.le_refl _, fun _ _ => rfl⟩⟩
  · have h2 : 0 ≤ n := by omega
    go_wp2
    go_quiet (fail)
    go_wp2
    go_ret2
    exact ⟨rfl, ⟨rfl, rfl, rfl, Nat.le_refl _, fun _ _ => rfl⟩⟩
set_option maxHeartbeats 400000 in
theorem left_any (a : Addr) (l : Int) (w : World) (hc : w.cell? a = some (.int .i64 l)) :
    Calls Tryd.prog 10 #[.pointer (some a)] w fun e w' => e = .returned (.int .i64 l) ∧ w = w' := by
  go_enter Tryd.func10, Tryd.ntmps10
  go_wp2
  go_ret
  exact ⟨rfl, rfl⟩
/-- what 'may' says. -/
def mayOf (n l : Int) : Nat := if n < 0 then 1 else if 0 < n ∧ l < n then 2 else 0
def pick (k : Nat) (v1 v2 : Value) : Value := match k with | 0 => .nilIface | 1 => v1 | _ => v2
set_option maxHeartbeats 400000 in
theorem may_any (a : Addr) (n l : Int) (w : World) (v1 v2 : Value) (hg1 : w.cell? ⟨0, 0, none⟩ = some v1) (hg2 : w.cell? ⟨1, 0, none⟩ = some v2) (hc : w.cell? a = some (.int .i64 l)) :
    Calls Tryd.prog 15 #[.pointer (some a), .int .i64 n] w fun e w' => e = .returned (pick (mayOf n l) v1 v2) ∧ w = w' := by
  rcases Int.lt_or_le n 0 with h | h
  · have e : mayOf n l = 1 := by simp [mayOf, h]
    rw [e]; clear e
    go_enter Tryd.func15, Tryd.ntmps15
    go_wp2
    go_ret
    exact ⟨rfl, rfl⟩
  · by_cases h2 : 0 < n ∧ l < n
    · have e : mayOf n l = 2 := by simp only [mayOf]; rw [if_neg (by omega), if_pos h2]
      rw [e]; clear e
      obtain ⟨h3, h4⟩ := h2
      go_enter Tryd.func15, Tryd.ntmps15
      go_wp2
      go_ret
      exact ⟨rfl, rfl⟩
    · have e : mayOf n l = 0 := by simp only [mayOf]; rw [if_neg (by omega), if_neg h2]
      rw [e]; clear e
      by_cases h3 : 0 < n
      · have h4 : n ≤ l := by omega
        clear h2
        go_enter Tryd.func15, Tryd.ntmps15
        go_wp2
        go_ret
        exact ⟨rfl, rfl⟩
      · clear h2
        go_enter Tryd.func15, Tryd.ntmps15
        go_wp2
        go_ret
        exact ⟨rfl, rfl⟩
set_option maxHeartbeats 400000 in
theorem take_yes (a : Addr) (n l : Int) (w : World) (v1 v2 : Value) (hg1 : w.cell? ⟨0, 0, none⟩ = some v1) (hg2 : w.cell? ⟨1, 0, none⟩ = some v2) (hc : w.cell? a = some (.int .i64 l)) (hf : w.frozen? a = false) (hm : mayOf n l = 0)
    (hb : -2147483647 ≤ l) (hb' : l ≤ 2147483647) :
    Calls Tryd.prog 7 #[.pointer (some a), .int .i64 n] w fun e w' => e = .returned .nilIface ∧ w.setCell a (.int .i64 (l - n)) = w' := by
  have h1 := may_any a n l w v1 v2 hg1 hg2 hc
  have hn : 0 ≤ n ∧ (0 < n → n ≤ l) := by
    simp only [mayOf] at hm
    split at hm
    · cases hm
    · split at hm
      · cases hm
      · omega
  have hn' : n ≤ 2147483647 := by omega
  rw [hm] at h1
  have H := Lib.hid h1
  clear h1 hm
  obtain ⟨hn1, hn2⟩ := hn
  go_enter Tryd.func7, Tryd.ntmps7
  go_wp2_with (go_at_call 15; refine H.out.mono ?_; rintro e w' ⟨rfl, rfl⟩; simp only [pick])
  go_ret
  exact ⟨rfl, rfl⟩
set_option maxHeartbeats 400000 in
theorem take_no (a : Addr) (n l : Int) (w : World) (v1 v2 : Value) (e1 : IsErr v1) (e2 : IsErr v2) (hg1 : w.cell? ⟨0, 0, none⟩ = some v1) (hg2 : w.cell? ⟨1, 0, none⟩ = some v2) (hc : w.cell? a = some (.int .i64 l)) (hm : mayOf n l ≠ 0) :
    Calls Tryd.prog 7 #[.pointer (some a), .int .i64 n] w fun e w' => e = .returned (pick (mayOf n l) v1 v2) ∧ w = w' := by
  have h1 := may_any a n l w v1 v2 hg1 hg2 hc
  obtain ⟨t, u, he⟩ : IsErr (pick (mayOf n l) v1 v2) := by
    unfold pick
    split
    · exact absurd (by assumption) hm
    · exact e1
    · exact e2
  rw [he] at h1 ⊢
  have H := Lib.hid h1
  clear h1 hm he e1 e2 hg1 hg2
  go_enter Tryd.func7, Tryd.ntmps7
  go_wp2_with (go_at_call 15; refine H.out.mono ?_; rintro e w' ⟨rfl, rfl⟩)
  go_ret
  exact ⟨rfl, rfl⟩

set_option maxHeartbeats 400000 in
theorem shift_yes (a : Addr) (by' l : Int) (w : World) (hc : w.cell? a = some (.int .i64 l)) (hf : w.frozen? a = false) (h0 : -2147483647 ≤ by') (h1 : by' ≤ 2147483647) (_hl0 : -2147483647 ≤ l) (_hl1 : l ≤ 2147483647) (hs0 : -2147483647 ≤ l + by') (hs1 : l + by' ≤ 2147483647) :
    Calls Tryd.prog 9 #[.pointer (some a), .int .i64 by'] w fun e w' => e = .returned .nilIface ∧ w.setCell a (.int .i64 (l + by')) = w' := by
  go_enter Tryd.func9, Tryd.ntmps9
  go_wp2
  go_ret
  exact ⟨rfl, rfl⟩
set_option maxHeartbeats 400000 in
theorem shift_no (a : Addr) (by' l : Int) (w : World) (v1 v2 : Value) (e1 : IsErr v1) (e2 : IsErr v2) (hg1 : w.cell? ⟨0, 0, none⟩ = some v1) (hg2 : w.cell? ⟨1, 0, none⟩ = some v2)  (hc : w.cell? a = some (.int .i64 l)) (hl0 : -2147483647 ≤ l) (hl1 : l ≤ 2147483647)
    (h : ¬ (-2147483647 ≤ by' ∧ by' ≤ 2147483647 ∧ -2147483647 ≤ l + by' ∧ l + by' ≤ 2147483647)) :
    Calls Tryd.prog 9 #[.pointer (some a), .int .i64 by'] w fun e w' => (∃ v, IsErr v ∧ e = .returned v) ∧ w = w' := by
  by_cases h0 : -2147483647 ≤ by'
  · by_cases h1 : by' ≤ 2147483647
    · by_cases h2 : l + by' ≤ 2147483647
      · have h3 : l + by' < -2147483647 := by omega
        clear h
        go_enter Tryd.func9, Tryd.ntmps9
        go_wp2
        go_ret
        exact ⟨⟨_, e2, rfl⟩, rfl⟩
      · clear h
        go_enter Tryd.func9, Tryd.ntmps9
        go_wp2
        go_ret
        exact ⟨⟨_, e2, rfl⟩, rfl⟩
    · clear h
      go_enter Tryd.func9, Tryd.ntmps9
      go_wp2
      go_ret
      exact ⟨⟨_, e1, rfl⟩, rfl⟩
  · clear h
    go_enter Tryd.func9, Tryd.ntmps9
    go_wp2
    go_ret
    exact ⟨⟨_, e1, rfl⟩, rfl⟩
set_option maxHeartbeats 400000 in
theorem give_yes (a : Addr) (by' l : Int) (w : World) (hc : w.cell? a = some (.int .i64 l)) (hf : w.frozen? a = false) (h0 : 1 ≤ by') (h1 : by' ≤ 2147483647) (hl0 : -2147483647 ≤ l) (hl1 : l ≤ 2147483647) (hs1 : l + by' ≤ 2147483647) :
    Calls Tryd.prog 8 #[.pointer (some a), .int .i64 by'] w fun e w' => e = .returned .nilIface ∧ w.setCell a (.int .i64 (l + by')) = w' := by
  go_enter Tryd.func8, Tryd.ntmps8
  go_wp2_with (go_at_call 9; refine (shift_yes a by' l w hc hf (by omega) h1 hl0 hl1 (by omega) hs1).mono ?_; rintro e w' ⟨rfl, rfl⟩)
  go_ret
  exact ⟨rfl, rfl⟩
set_option maxHeartbeats 400000 in
theorem give_no (a : Addr) (by' l : Int) (w : World) (v1 v2 : Value) (e1 : IsErr v1) (e2 : IsErr v2) (hg1 : w.cell? ⟨0, 0, none⟩ = some v1) (hg2 : w.cell? ⟨1, 0, none⟩ = some v2)  (hc : w.cell? a = some (.int .i64 l)) (hl0 : -2147483647 ≤ l) (hl1 : l ≤ 2147483647)
    (h : ¬ (1 ≤ by' ∧ by' ≤ 2147483647 ∧ l + by' ≤ 2147483647)) :
    Calls Tryd.prog 8 #[.pointer (some a), .int .i64 by'] w fun e w' => (∃ v, IsErr v ∧ e = .returned v) ∧ w = w' := by
  by_cases h0 : 1 ≤ by'
  · go_enter Tryd.func8, Tryd.ntmps8
    go_wp2_with (go_at_call 9; refine (shift_no a by' l w v1 v2 e1 e2 hg1 hg2 hc hl0 hl1 (by omega)).mono ?_; rintro e w' ⟨⟨v, ev, rfl⟩, rfl⟩)
    go_ret
    exact ⟨⟨_, ev, rfl⟩, rfl⟩
  · clear h
    go_enter Tryd.func8, Tryd.ntmps8
    go_wp2
    go_ret
    exact ⟨⟨_, e1, rfl⟩, rfl⟩
set_option maxHeartbeats 400000 in
theorem room_any (a : Addr) (n l : Int) (w : World) (hc : w.cell? a = some (.int .i64 l)) :
    Calls Tryd.prog 14 #[.pointer (some a), .int .i64 n] w fun e w' => e = .returned (.int .i64 (max 0 (min n l))) ∧ w = w' := by
  go_enter Tryd.func14, Tryd.ntmps14
  go_wp2
  all_goals go_ret
  all_goals exact ⟨ret_int (by omega), rfl⟩
set_option maxHeartbeats 400000 in
theorem both_two (i j : Nat) (w : World) (ca cb : Array Value) (h : i ≠ j) (ha : Blk w i 39 ca) (hb : Blk w j 39 cb) :
    Calls Tryd.prog 11 #[.pointer (some ⟨i, 0, none⟩), .pointer (some ⟨j, 0, none⟩)] w fun e w' => e = .returned (.pointer (some ⟨w.heap.size + 1, 0, none⟩)) ∧ (w.alloc (.cells #[.pointer (some ⟨i, 0, none⟩), .pointer (some ⟨j, 0, none⟩)] 24)).alloc (.cells #[.slice (some ⟨w.heap.size, 0, none⟩) 2 2] 42) = w' := by
  obtain ⟨k, hk, hk0⟩ : ∃ j, Tryd.prog.info? 39 = some j ∧ j.size = 1 := by
    have : (Tryd.prog.info? 39).map (·.size) = some 1 := by kernel_rfl
    simpa [Option.map_eq_some_iff] using this
  have he := run_eql_ptr_other (P := Tryd.prog) w (a := ⟨i, 0, none⟩) (b := ⟨j, 0, none⟩) Tryd.underlying24 hk (by omega) (fun e => h (congrArg Addr.block e)) ha hb
  clear hk hk0
  go_enter Tryd.func11, Tryd.ntmps11
  go_wp2
  go_ret
  exact ⟨rfl, rfl⟩
set_option maxHeartbeats 400000 in
theorem both_one (i : Nat) (w : World) :
    Calls Tryd.prog 11 #[.pointer (some ⟨i, 0, none⟩), .pointer (some ⟨i, 0, none⟩)] w fun e w' => e = .returned (.pointer (some ⟨w.heap.size + 1, 0, none⟩)) ∧ (w.alloc (.cells #[.pointer (some ⟨i, 0, none⟩)] 24)).alloc (.cells #[.slice (some ⟨w.heap.size, 0, none⟩) 1 1] 42) = w' := by
  obtain ⟨k, hk, hk0⟩ : ∃ j, Tryd.prog.info? 39 = some j ∧ j.size = 1 := by
    have : (Tryd.prog.info? 39).map (·.size) = some 1 := by kernel_rfl
    simpa [Option.map_eq_some_iff] using this
  have he := run_eql_ptr_same (P := Tryd.prog) w (⟨i, 0, none⟩)  Tryd.underlying24 hk
  clear hk hk0
  go_enter Tryd.func11, Tryd.ntmps11
  go_wp2
  go_ret
  exact ⟨rfl, rfl⟩
set_option maxHeartbeats 400000 in
theorem pair_room2 (a b : Addr) (p s : Nat) (n la lb : Int) (w : World) (hp : w.cell? ⟨p, 0, none⟩ = some (.slice (some ⟨s, 0, none⟩) 2 2)) (h0 : w.cell? ⟨s, 0, none⟩ = some (.pointer (some a))) (h1 : w.cell? ⟨s, 1, none⟩ = some (.pointer (some b)))
    (ha : w.cell? a = some (.int .i64 la)) (hb : w.cell? b = some (.int .i64 lb)) :
    Calls Tryd.prog 12 #[.pointer (some ⟨p, 0, none⟩), .int .i64 n] w fun e w' => e = .returned (.int .i64 (max 0 (max 0 (min (max 0 (min n la)) lb)))) ∧ w = w' := by
  go_enter Tryd.func12, Tryd.ntmps12
  go_wp2
  refine wp_loop_rounds 3 ?_; rw [rounds_succ]
  go_wp2_with (go_at_call 14; refine (room_any a _ _ _ ha).mono ?_; rintro e w' ⟨rfl, rfl⟩)
  rw [rounds_succ]
  go_wp2_with (go_at_call 14; refine (room_any b _ _ _ hb).mono ?_; rintro e w' ⟨rfl, rfl⟩)
  rw [rounds_succ]
  go_wp2
  all_goals go_ret
  all_goals exact ⟨ret_int (by omega), rfl⟩

set_option maxHeartbeats 400000 in
theorem pair_room1 (a : Addr) (p s : Nat) (n la : Int) (w : World) (hp : w.cell? ⟨p, 0, none⟩ = some (.slice (some ⟨s, 0, none⟩) 1 1)) (h0 : w.cell? ⟨s, 0, none⟩ = some (.pointer (some a)))
    (ha : w.cell? a = some (.int .i64 la)) :
    Calls Tryd.prog 12 #[.pointer (some ⟨p, 0, none⟩), .int .i64 n] w fun e w' => e = .returned (.int .i64 (max 0 (min n la))) ∧ w = w' := by
  go_enter Tryd.func12, Tryd.ntmps12
  go_wp2
  refine wp_loop_rounds 2 ?_; rw [rounds_succ]
  go_wp2_with (go_at_call 14; refine (room_any a _ _ _ ha).mono ?_; rintro e w' ⟨rfl, rfl⟩)
  rw [rounds_succ]
  go_wp2
  all_goals go_ret
  all_goals exact ⟨ret_int (by omega), rfl⟩
set_option maxHeartbeats 400000 in
theorem pair_take2_yes (a b : Addr) (p s : Nat) (n la lb : Int) (w : World) (v1 v2 : Value) (hg1 : w.cell? ⟨0, 0, none⟩ = some v1) (hg2 : w.cell? ⟨1, 0, none⟩ = some v2)
    (hw1 : (w.setCell a (.int .i64 (la - n))).cell? ⟨0, 0, none⟩ = some v1) (hw2 : (w.setCell a (.int .i64 (la - n))).cell? ⟨1, 0, none⟩ = some v2)
    (hp : w.cell? ⟨p, 0, none⟩ = some (.slice (some ⟨s, 0, none⟩) 2 2)) (h0 : w.cell? ⟨s, 0, none⟩ = some (.pointer (some a))) (h1 : w.cell? ⟨s, 1, none⟩ = some (.pointer (some b))) 
    (hx1 : (w.setCell a (.int .i64 (la - n))).cell? ⟨s, 1, none⟩ = some (.pointer (some b)))
    (ha : w.cell? a = some (.int .i64 la)) (hb : w.cell? b = some (.int .i64 lb)) (hb1 : (w.setCell a (.int .i64 (la - n))).cell? b = some (.int .i64 lb)) 
    (fa : w.frozen? a = false) (fb : (w.setCell a (.int .i64 (la - n))).frozen? b = false) (ma : mayOf n la = 0) (mb : mayOf n lb = 0) (la0 : -2147483647 ≤ la) (la1 : la ≤ 2147483647) (lb0 : -2147483647 ≤ lb) (lb1 : lb ≤ 2147483647) :
    Calls Tryd.prog 13 #[.pointer (some ⟨p, 0, none⟩), .int .i64 n] w fun e w' => e = .returned .nilIface ∧ (w.setCell a (.int .i64 (la - n))).setCell b (.int .i64 (lb - n)) = w' := by
  have ca := may_any a n la w v1 v2 hg1 hg2 ha
  have cb := may_any b n lb w v1 v2 hg1 hg2 hb
  rw [ma] at ca; rw [mb] at cb
  have ta := take_yes a n la w v1 v2 hg1 hg2 ha fa ma la0 la1
  have tb := take_yes b n lb (w.setCell a (.int .i64 (la - n))) v1 v2 hw1 hw2 hb1 fb mb lb0 lb1
  have Ca := Lib.hid ca
  have Cb := Lib.hid cb
  have Ta := Lib.hid ta
  have Tb := Lib.hid tb
  clear ca cb ta tb ma mb hw1 hw2 hb1 fa fb hg1 hg2
  go_enter Tryd.func13, Tryd.ntmps13
  go_wp2
  refine wp_loop_rounds 3 ?_; rw [rounds_succ]
  go_wp2_with (go_at_call 15; refine Ca.out.mono ?_; rintro e w' ⟨rfl, rfl⟩; simp only [pick])
  rw [rounds_succ]
  go_wp2_with (go_at_call 15; refine Cb.out.mono ?_; rintro e w' ⟨rfl, rfl⟩; simp only [pick])
  rw [rounds_succ]
  go_wp2
  refine wp_loop_rounds 3 ?_; rw [rounds_succ]
  go_wp2_with (go_at_call 7; refine Ta.out.mono ?_; rintro e w' ⟨rfl, rfl⟩)
  rw [rounds_succ]
  go_wp2_with (go_at_call 7; refine Tb.out.mono ?_; rintro e w' ⟨rfl, rfl⟩)
  rw [rounds_succ]
  go_wp2
  go_ret
  exact ⟨rfl, rfl⟩
set_option maxHeartbeats 400000 in
theorem pair_take1_yes (a : Addr) (p s : Nat) (n la : Int) (w : World) (v1 v2 : Value) (hg1 : w.cell? ⟨0, 0, none⟩ = some v1) (hg2 : w.cell? ⟨1, 0, none⟩ = some v2)
    (hp : w.cell? ⟨p, 0, none⟩ = some (.slice (some ⟨s, 0, none⟩) 1 1)) (h0 : w.cell? ⟨s, 0, none⟩ = some (.pointer (some a)))
    (ha : w.cell? a = some (.int .i64 la)) (fa : w.frozen? a = false) (ma : mayOf n la = 0) (la0 : -2147483647 ≤ la) (la1 : la ≤ 2147483647) :
    Calls Tryd.prog 13 #[.pointer (some ⟨p, 0, none⟩), .int .i64 n] w fun e w' => e = .returned .nilIface ∧ w.setCell a (.int .i64 (la - n)) = w' := by
  have ca := may_any a n la w v1 v2 hg1 hg2 ha
  rw [ma] at ca
  have ta := take_yes a n la w v1 v2 hg1 hg2 ha fa ma la0 la1
  have Ca := Lib.hid ca
  have Ta := Lib.hid ta
  clear ca ta ma fa hg1 hg2
  go_enter Tryd.func13, Tryd.ntmps13
  go_wp2
  refine wp_loop_rounds 2 ?_; rw [rounds_succ]
  go_wp2_with (go_at_call 15; refine Ca.out.mono ?_; rintro e w' ⟨rfl, rfl⟩; simp only [pick])
  rw [rounds_succ]
  go_wp2
  refine wp_loop_rounds 2 ?_; rw [rounds_succ]
  go_wp2_with (go_at_call 7; refine Ta.out.mono ?_; rintro e w' ⟨rfl, rfl⟩)
  rw [rounds_succ]
  go_wp2
  go_ret
  exact ⟨rfl, rfl⟩
theorem pick_err {k : Nat} {v1 v2 : Value} (e1 : IsErr v1) (e2 : IsErr v2) (h : k ≠ 0) : IsErr (pick k v1 v2) := by
  unfold pick
  split
  · exact absurd rfl h
  · exact e1
  · exact e2
set_option maxHeartbeats 400000 in
theorem pair_take2_no (a b : Addr) (p s : Nat) (n la lb : Int) (w : World) (v1 v2 : Value) (e1 : IsErr v1) (e2 : IsErr v2) (hg1 : w.cell? ⟨0, 0, none⟩ = some v1) (hg2 : w.cell? ⟨1, 0, none⟩ = some v2)
    (hp : w.cell? ⟨p, 0, none⟩ = some (.slice (some ⟨s, 0, none⟩) 2 2)) (h0 : w.cell? ⟨s, 0, none⟩ = some (.pointer (some a))) (h1 : w.cell? ⟨s, 1, none⟩ = some (.pointer (some b))) 
    (ha : w.cell? a = some (.int .i64 la)) (hb : w.cell? b = some (.int .i64 lb)) (hm : mayOf n la ≠ 0 ∨ mayOf n lb ≠ 0) :
    Calls Tryd.prog 13 #[.pointer (some ⟨p, 0, none⟩), .int .i64 n] w fun e w' => (∃ v, IsErr v ∧ e = .returned v) ∧ w = w' := by
  have ca := may_any a n la w v1 v2 hg1 hg2 ha
  have cb := may_any b n lb w v1 v2 hg1 hg2 hb
  by_cases ma : mayOf n la = 0
  · have mb : mayOf n lb ≠ 0 := by
      rcases hm with h | h
      · exact absurd ma h
      · exact h
    obtain ⟨t, u, he⟩ := pick_err e1 e2 mb
    rw [ma] at ca; rw [he] at cb
    have Ca := Lib.hid ca
    have Cb := Lib.hid cb
    clear ca cb ma mb hm hg1 hg2 he e1 e2
    go_enter Tryd.func13, Tryd.ntmps13
    go_wp2
    refine wp_loop_rounds 3 ?_; rw [rounds_succ]
    go_wp2_with (go_at_call 15; refine Ca.out.mono ?_; rintro e w' ⟨rfl, rfl⟩; simp only [pick])
    rw [rounds_succ]
    go_wp2_with (go_at_call 15; refine Cb.out.mono ?_; rintro e w' ⟨rfl, rfl⟩)
    go_ret
    exact ⟨⟨_, ⟨t, u, rfl⟩, rfl⟩, rfl⟩
  · obtain ⟨t, u, he⟩ := pick_err e1 e2 ma
    rw [he] at ca
    have Ca := Lib.hid ca
    clear ca cb ma hm hg1 hg2 he e1 e2
    go_enter Tryd.func13, Tryd.ntmps13
    go_wp2
    refine wp_loop_rounds 3 ?_; rw [rounds_succ]
    go_wp2_with (go_at_call 15; refine Ca.out.mono ?_; rintro e w' ⟨rfl, rfl⟩)
    go_ret
    exact ⟨⟨_, ⟨t, u, rfl⟩, rfl⟩, rfl⟩
end Go.Proofs.YtlaldjbdpgbhkaaDoor
