/-
  The walk of the law FlowSum, and of the chapter's examples (first).
-/
import Derived.Test.YtlaldjbdpgbhkaaDoorWalks
namespace Go.Proofs.YtlaldjbdpgbhkaaDoor
open Go.RowKit
set_option maxHeartbeats 1000000 in
theorem first_any (w : World) (_hsz : 2 ≤ w.heap.size) :
    Calls Tryd.prog 5 #[] w fun e w' => e = .returned (.bool true) ∧ Below w.heap.size w w' := by
  go_enter Tryd.func5, Tryd.ntmps5
  go_wp2_with (first
    | (go_at_call 6; refine (new_yes _ _ (by omega) (by omega)).mono ?_; rintro e w' ⟨rfl, rfl⟩)
    | (go_at_call 11; refine (both_two w.heap.size (w.heap.size + 1) _ #[.int .i64 10] #[.int .i64 3] (by omega) (Blk.alloc (Blk.new _ _ _) _) (by simpa using (Blk.new (w.alloc _) 39 _))).mono ?_; rintro e w' ⟨rfl, rfl⟩)
    | (go_at_call 12; refine (pair_room2 ⟨w.heap.size, 0, none⟩ ⟨w.heap.size+1, 0, none⟩ _ (w.heap.size + 2) _ (-14) 3 _ ?_ ?_ ?_ ?_ ?_).mono ?_; go_simp; go_simp; go_simp; go_simp; go_simp; rintro e w' ⟨rfl, rfl⟩)
    | go_in)
  go_ret
  refine ⟨rfl, ?_⟩
  exact ((((Below.refl _ _).alloc (Nat.le_refl _) _).alloc (by simp) _).alloc (by simp; omega) _).alloc (by simp; omega) _

theorem may_le {n l : Int} (h : mayOf n l = 0) : 0 ≤ n ∧ (0 < n → n ≤ l) := by
  simp only [mayOf] at h
  split at h
  · cases h
  · split at h
    · cases h
    · omega
set_option maxHeartbeats 400000 in
theorem sum_go (W : World) (v1 v2 : Value) (e1 : IsErr v1) (e2 : IsErr v2) (hg1 : W.cell? ⟨0, 0, none⟩ = some v1) (hg2 : W.cell? ⟨1, 0, none⟩ = some v2) (hsz : 2 ≤ W.heap.size)
    (a : Int) (A : Option Addr) (len cap : Nat) (h0 : 0 ≤ a) (h1 : a ≤ 2147483647) (hlen : len ≤ 200)
    (hc : ∀ i, i < len → ∃ b off f g, A = some ⟨b, off, none⟩ ∧ b < W.heap.size ∧ W.cell? ⟨b, off + i * 3, none⟩ = some (.int .i64 f) ∧ W.cell? ⟨b, off + i * 3 + 1, none⟩ = some (.int .i64 g)) (_hcap : len ≤ cap) :
    Calls Tryd.prog 3 #[.int .i64 a, .slice A len cap] W fun e w' => e = .returned (.bool true) ∧ Below W.heap.size W w' := by
  have HC0 := Lib.hid hc
  clear hc
  go_enter Tryd.func3, Tryd.ntmps3
  go_wp2_with fail
  refine (first_any _ hsz).mono ?_
  rintro e w1 ⟨rfl, hw1⟩
  have hz1 : 2 ≤ w1.heap.size := Nat.le_trans hsz hw1.size
  go_wp2_with (first
    | (go_at_call 6; refine (new_yes _ _ h0 h1).mono ?_; rintro e w' ⟨rfl, rfl⟩))
  have hw0 : Below W.heap.size W (w1.alloc (.cells #[.int .i64 a] 39)) := hw1.alloc hw1.size _
  have hblk0 : Blk (w1.alloc (.cells #[.int .i64 a] 39)) w1.heap.size 39 #[.int .i64 a] := Blk.new _ _ _
  have hnb : W.heap.size ≤ w1.heap.size := hw1.size
  go_loopw [8, 9] (fun l i wr => ∃ (k : Nat) (x : Int), k ≤ len ∧ i = .int .i64 k ∧ l = .int .i64 x ∧ -2147483647 ≤ x ∧ x ≤ 2147483647 ∧ Blk wr w1.heap.size 39 #[.int .i64 x] ∧ Below W.heap.size W wr) (fun _ i _ => len - (intOf i).toNat)
  case atStart => exact ⟨0, a, Nat.zero_le _, rfl, rfl, by omega, h1, hblk0, hw0⟩
  case round =>
    obtain ⟨k, x, hk, rfl, rfl, hx0, hx1, hblk, hbe⟩ := hrel
    clear hw0 hblk0 
    have hG1 := (hbe.cell (p := ⟨0, 0, none⟩) (by show 0 < _; omega)).trans hg1
    have hG2 := (hbe.cell (p := ⟨1, 0, none⟩) (by show 1 < _; omega)).trans hg2
    have hcx : wr.cell? ⟨w1.heap.size, 0, none⟩ = some (.int .i64 x) := hblk.cell 0
    have hfx : wr.frozen? ⟨w1.heap.size, 0, none⟩ = false := hblk.frozen 0
    by_cases hlt : k < len
    · obtain ⟨b, off, f, g, rfl, hb, c0, c1⟩ := HC0.out k hlt
      have d0 := (hbe.cell (p := ⟨b, off + k * 3, none⟩) hb).trans c0
      have d1 := (hbe.cell (p := ⟨b, off + k * 3 + 1, none⟩) hb).trans c1
      clear c0 c1 HC0 hg1 hg2
      by_cases hk1 : f = 1
      · by_cases hm : mayOf (g) x = 0
        · have hle := may_le hm
          have hgk : 0 ≤ g := hle.1
          have hgx0 : -2147483647 ≤ x - g := by omega
          have hgx1 : x - g ≤ 2147483647 := by omega
          have hgk1 : g ≤ 2147483647 := by omega
          have HC := Lib.hid (take_yes _ _ _ wr v1 v2 hG1 hG2 hcx hfx hm hx0 hx1)
          clear hm hle
          go_wp2_with (go_at_call 7; refine HC.out.mono ?_; rintro e w' ⟨rfl, rfl⟩)
          all_goals
            have hblk' : Blk (wr.setCell ⟨w1.heap.size, 0, none⟩ (.int .i64 (x - g))) w1.heap.size 39 #[.int .i64 (x - g)] := hblk.set_ 0 _
            have hbe' : Below W.heap.size W (wr.setCell ⟨w1.heap.size, 0, none⟩ (.int .i64 (x - g))) := hbe.setCell (p := ⟨w1.heap.size, 0, none⟩) hnb _
            clear hblk hbe
            go_wp2_with (go_at_call 10; refine (left_any _ (x - g) _ (hblk'.cell 0)).mono ?_; rintro e w' ⟨rfl, rfl⟩)
            go_roundw
            case rel => exact ⟨k + 1, _, by omega, by go_num, rfl, by omega, by omega, hblk', hbe'⟩
            case measure => simp [intOf]; omega
        · obtain ⟨et, eu, he⟩ := pick_err (v1 := v1) (v2 := v2) e1 e2 hm
          have hcall := take_no _ _ _ wr v1 v2 e1 e2 hG1 hG2 hcx hm
          rw [he] at hcall
          have HC := Lib.hid hcall
          clear hcall he hm
          go_wp2_with (go_at_call 7; refine HC.out.mono ?_; rintro e w' ⟨rfl, rfl⟩)
          all_goals
            go_wp2_with (go_at_call 10; refine (left_any _ x _ hcx).mono ?_; rintro e w' ⟨rfl, rfl⟩)
            go_roundw
            case rel => exact ⟨k + 1, _, by omega, by go_num, rfl, by omega, by omega, hblk, hbe⟩
            case measure => simp [intOf]; omega
      · by_cases hk2 : f = 2
        · by_cases hm : 1 ≤ g ∧ g ≤ 2147483647 ∧ x + g ≤ 2147483647
          · obtain ⟨hm1, hm2, hm3⟩ := hm
            have hgx0 : -2147483647 ≤ x + g := by omega
            have HC := Lib.hid (give_yes _ _ _ wr hcx hfx hm1 hm2 hx0 hx1 hm3)
            go_wp2_with (go_at_call 8; refine HC.out.mono ?_; rintro e w' ⟨rfl, rfl⟩)
            all_goals
              have hblk' : Blk (wr.setCell ⟨w1.heap.size, 0, none⟩ (.int .i64 (x + g))) w1.heap.size 39 #[.int .i64 (x + g)] := hblk.set_ 0 _
              have hbe' : Below W.heap.size W (wr.setCell ⟨w1.heap.size, 0, none⟩ (.int .i64 (x + g))) := hbe.setCell (p := ⟨w1.heap.size, 0, none⟩) hnb _
              clear hblk hbe
              go_wp2_with (go_at_call 10; refine (left_any _ (x + g) _ (hblk'.cell 0)).mono ?_; rintro e w' ⟨rfl, rfl⟩)
              go_roundw
              case rel => exact ⟨k + 1, _, by omega, by go_num, rfl, by omega, by omega, hblk', hbe'⟩
              case measure => simp [intOf]; omega
          · have HC := Lib.hid (give_no _ _ _ wr v1 v2 e1 e2 hG1 hG2 hcx hx0 hx1 hm)
            clear hm
            go_wp2_with (go_at_call 8; refine HC.out.mono ?_; rintro e w' ⟨⟨v, ⟨et, eu, rfl⟩, rfl⟩, rfl⟩)
            all_goals
              go_wp2_with (go_at_call 10; refine (left_any _ x _ hcx).mono ?_; rintro e w' ⟨rfl, rfl⟩)
              go_roundw
              case rel => exact ⟨k + 1, _, by omega, by go_num, rfl, by omega, by omega, hblk, hbe⟩
              case measure => simp [intOf]; omega
        · by_cases hm : -2147483647 ≤ g ∧ g ≤ 2147483647 ∧ -2147483647 ≤ x + g ∧ x + g ≤ 2147483647
          · obtain ⟨hm1, hm2, hm3, hm4⟩ := hm
            have hgx0 : -2147483647 ≤ x + g := by omega
            have HC := Lib.hid (shift_yes _ _ _ wr hcx hfx hm1 hm2 hx0 hx1 hm3 hm4)
            go_wp2_with (go_at_call 9; refine HC.out.mono ?_; rintro e w' ⟨rfl, rfl⟩)
            all_goals
              have hblk' : Blk (wr.setCell ⟨w1.heap.size, 0, none⟩ (.int .i64 (x + g))) w1.heap.size 39 #[.int .i64 (x + g)] := hblk.set_ 0 _
              have hbe' : Below W.heap.size W (wr.setCell ⟨w1.heap.size, 0, none⟩ (.int .i64 (x + g))) := hbe.setCell (p := ⟨w1.heap.size, 0, none⟩) hnb _
              clear hblk hbe
              go_wp2_with (go_at_call 10; refine (left_any _ (x + g) _ (hblk'.cell 0)).mono ?_; rintro e w' ⟨rfl, rfl⟩)
              go_roundw
              case rel => exact ⟨k + 1, _, by omega, by go_num, rfl, by omega, by omega, hblk', hbe'⟩
              case measure => simp [intOf]; omega
          · have HC := Lib.hid (shift_no _ _ _ wr v1 v2 e1 e2 hG1 hG2 hcx hx0 hx1 hm)
            clear hm
            go_wp2_with (go_at_call 9; refine HC.out.mono ?_; rintro e w' ⟨⟨v, ⟨et, eu, rfl⟩, rfl⟩, rfl⟩)
            all_goals
              go_wp2_with (go_at_call 10; refine (left_any _ x _ hcx).mono ?_; rintro e w' ⟨rfl, rfl⟩)
              go_roundw
              case rel => exact ⟨k + 1, _, by omega, by go_num, rfl, by omega, by omega, hblk, hbe⟩
              case measure => simp [intOf]; omega
    · clear HC0
      go_wp2
      go_ret
      exact ⟨rfl, hbe⟩

set_option maxHeartbeats 400000 in
theorem sum_bad (W : World) (v1 : Value) (e1 : IsErr v1) (hg1 : W.cell? ⟨0, 0, none⟩ = some v1) (hsz : 2 ≤ W.heap.size) (a : Int) (v : Value) (h : a < 0 ∨ 2147483647 < a) :
    Calls Tryd.prog 3 #[.int .i64 a, v] W fun e w' => e = .returned (.bool true) ∧ Below W.heap.size W w' := by
  obtain ⟨t, u, rfl⟩ := e1
  have H := Lib.hid h
  clear h
  go_enter Tryd.func3, Tryd.ntmps3
  go_wp2_with fail
  refine (first_any _ hsz).mono ?_
  rintro e w1 ⟨rfl, hw1⟩
  have hG1 := (hw1.cell (p := ⟨0, 0, none⟩) (by show 0 < _; omega)).trans hg1
  go_wp2_with fail
  refine (new_no _ _ _ hG1 H.out).mono ?_
  rintro e w2 ⟨rfl, hw2⟩
  have hw3 := hw1.trans (hw2.mono hw1.size)
  clear hw1 hw2 hG1 H hg1
  go_wp2
  go_ret
  exact ⟨rfl, hw3⟩
set_option maxHeartbeats 400000 in
theorem sum_long (W : World) (hsz : 2 ≤ W.heap.size) (a : Int) (A : Option Addr) (len cap : Nat) (h0 : 0 ≤ a) (h1 : a ≤ 2147483647) (hlen : 200 < len) :
    Calls Tryd.prog 3 #[.int .i64 a, .slice A len cap] W fun e w' => e = .returned (.bool true) ∧ Below W.heap.size W w' := by
  go_enter Tryd.func3, Tryd.ntmps3
  go_wp2_with fail
  refine (first_any _ hsz).mono ?_
  rintro e w1 ⟨rfl, hw1⟩
  go_wp2_with (first
    | (go_at_call 6; refine (new_yes _ _ h0 h1).mono ?_; rintro e w' ⟨rfl, rfl⟩))
  go_ret
  exact ⟨rfl, hw1.alloc hw1.size _⟩
theorem sum_any (W : World) (v1 v2 : Value) (e1 : IsErr v1) (e2 : IsErr v2) (hg1 : W.cell? ⟨0, 0, none⟩ = some v1) (hg2 : W.cell? ⟨1, 0, none⟩ = some v2) (hsz : 2 ≤ W.heap.size)
    (a : Int) (A : Option Addr) (len cap : Nat)
    (hc : ∀ i, i < len → ∃ b off f g, A = some ⟨b, off, none⟩ ∧ b < W.heap.size ∧ W.cell? ⟨b, off + i * 3, none⟩ = some (.int .i64 f) ∧ W.cell? ⟨b, off + i * 3 + 1, none⟩ = some (.int .i64 g)) (hcap : len ≤ cap) :
    Calls Tryd.prog 3 #[.int .i64 a, .slice A len cap] W fun e w' => e = .returned (.bool true) ∧ Below W.heap.size W w' := by
  by_cases ha : 0 ≤ a ∧ a ≤ 2147483647
  · by_cases hl : len ≤ 200
    · exact sum_go W v1 v2 e1 e2 hg1 hg2 hsz a A len cap ha.1 ha.2 hl hc hcap
    · exact sum_long W hsz a A len cap ha.1 ha.2 (by omega)
  · exact sum_bad W v1 e1 hg1 hsz a _ (by omega)
end Go.Proofs.YtlaldjbdpgbhkaaDoor
