/-
  The walk of the law FlowRoom.
-/
import Derived.Test.YtlaldjbdpgbhkaaDoorSum
namespace Go.Proofs.YtlaldjbdpgbhkaaDoor
open Go.RowKit
/-- Shift, whatever it answers: the window has some number within its bounds behind it; nothing else has turned. -/
def Shifted (B : Nat) (W w : World) (i : Nat) (e : Ending) (w' : World) : Prop :=
  ∃ l' v, -2147483647 ≤ l' ∧ l' ≤ 2147483647 ∧ e = .returned v ∧ Blk w' i 39 #[.int .i64 l'] ∧ (∀ k, k ≠ i → w'.heap[k]? = w.heap[k]?) ∧ w'.heap.size = w.heap.size ∧ Below B W w'
theorem shift_any (B : Nat) (W w : World) (i : Nat) (x by' : Int) (v1 v2 : Value) (e1 : IsErr v1) (e2 : IsErr v2) (hg1 : w.cell? ⟨0, 0, none⟩ = some v1) (hg2 : w.cell? ⟨1, 0, none⟩ = some v2) (hb : Blk w i 39 #[.int .i64 x])
    (h0 : -2147483647 ≤ x) (h1 : x ≤ 2147483647) (hbe : Below B W w) (hi : B ≤ i) :
    Calls Tryd.prog 9 #[.pointer (some ⟨i, 0, none⟩), .int .i64 by'] w (Shifted B W w i) := by
  by_cases h : -2147483647 ≤ by' ∧ by' ≤ 2147483647 ∧ -2147483647 ≤ x + by' ∧ x + by' ≤ 2147483647
  · refine (shift_yes ⟨i, 0, none⟩ by' x w (hb.cell 0) (hb.frozen 0) h.1 h.2.1 h0 h1 h.2.2.1 h.2.2.2).mono ?_
    rintro e w' ⟨rfl, rfl⟩
    exact ⟨x + by', _, h.2.2.1, h.2.2.2, rfl, hb.set_ 0 _, fun k hk => Below.heap_setCell _ _ _ _ hk, by simp [World.setCell], hbe.setCell hi _⟩
  · refine (shift_no ⟨i, 0, none⟩ by' x w v1 v2 e1 e2 hg1 hg2 (hb.cell 0) h0 h1 h).mono ?_
    rintro e w' ⟨⟨v, _, rfl⟩, rfl⟩
    exact ⟨x, v, h0, h1, rfl, hb, fun _ _ => rfl, rfl, hbe⟩
theorem may_ok {n l : Int} (h0 : 0 ≤ n) (h : 0 < n → n ≤ l) : mayOf n l = 0 := by
  simp only [mayOf]; rw [if_neg (by omega), if_neg (by omega)]
theorem may_bad {n l : Int} (h0 : 0 < n) (h : l < n) : mayOf n l ≠ 0 := by
  simp only [mayOf]; rw [if_neg (by omega), if_pos ⟨h0, h⟩]; decide
/-- two windows, their pair, and the pair of the second with itself -/
structure Two (w : World) (i t : Nat) (l b : Int) : Prop where
  hA : Blk w i 39 #[.int .i64 l]
  hB : Blk w (i + 1) 39 #[.int .i64 b]
  hS : Blk w t 24 #[.pointer (some ⟨i, 0, none⟩), .pointer (some ⟨i + 1, 0, none⟩)]
  hP : Blk w (t + 1) 42 #[.slice (some ⟨t, 0, none⟩) 2 2]
  hR : Blk w (t + 2) 24 #[.pointer (some ⟨i + 1, 0, none⟩)]
  hQ : Blk w (t + 3) 42 #[.slice (some ⟨t + 2, 0, none⟩) 1 1]
/-- what the program's own variables hold -/
structure Errs (W : World) (v1 v2 : Value) : Prop where
  e1 : IsErr v1
  e2 : IsErr v2
  hg1 : W.cell? ⟨0, 0, none⟩ = some v1
  hg2 : W.cell? ⟨1, 0, none⟩ = some v2
  hsz : 2 ≤ W.heap.size
theorem Errs.below {W w : World} {v1 v2 : Value} (h : Errs W v1 v2) (hb : Below W.heap.size W w) : Errs w v1 v2 :=
  ⟨h.e1, h.e2, (hb.cell (p := ⟨0, 0, none⟩) (by have := h.hsz; show 0 < _; omega)).trans h.hg1, (hb.cell (p := ⟨1, 0, none⟩) (by have := h.hsz; show 1 < _; omega)).trans h.hg2, Nat.le_trans h.hsz hb.size⟩
theorem Two.room2 {w : World} {i t : Nat} {l b : Int} (h : Two w i t l b) (n : Int) :
    Calls Tryd.prog 12 #[.pointer (some ⟨t + 1, 0, none⟩), .int .i64 n] w fun e w' => e = .returned (.int .i64 (max 0 (max 0 (min (max 0 (min n l)) b)))) ∧ w = w' :=
  pair_room2 _ _ _ _ n l b w (h.hP.cell 0) (h.hS.cell 0) (h.hS.cell 1) (h.hA.cell 0) (h.hB.cell 0)
theorem Two.room1 {w : World} {i t : Nat} {l b : Int} (h : Two w i t l b) (n : Int) :
    Calls Tryd.prog 12 #[.pointer (some ⟨t + 3, 0, none⟩), .int .i64 n] w fun e w' => e = .returned (.int .i64 (max 0 (min n b))) ∧ w = w' :=
  pair_room1 _ _ _ n b w (h.hQ.cell 0) (h.hR.cell 0) (h.hB.cell 0)
theorem Two.setA {w : World} {i t : Nat} {l b : Int} (h : Two w i t l b) (ht : i + 1 < t) (x : Int) : Two (w.setCell ⟨i, 0, none⟩ (.int .i64 x)) i t x b :=
  ⟨h.hA.set_ 0 _, h.hB.far (by simp) _, h.hS.far (by simp; omega) _, h.hP.far (by simp; omega) _, h.hR.far (by simp; omega) _, h.hQ.far (by simp; omega) _⟩
theorem Two.setB {w : World} {i t : Nat} {l b : Int} (h : Two w i t l b) (ht : i + 1 < t) (x : Int) : Two (w.setCell ⟨i + 1, 0, none⟩ (.int .i64 x)) i t l x :=
  ⟨h.hA.far (by simp) _, h.hB.set_ 0 _, h.hS.far (by simp; omega) _, h.hP.far (by simp; omega) _, h.hR.far (by simp; omega) _, h.hQ.far (by simp; omega) _⟩
def Taken (W : World) (i t : Nat) (l b : Int) (e : Ending) (w' : World) : Prop := e = .returned .nilIface ∧ Two w' i t l b ∧ Below W.heap.size W w'
theorem Two.take2 {W w : World} {i t : Nat} {l b : Int} {v1 v2 : Value} (h : Two w i t l b) (ht : i + 1 < t) (he : Errs W v1 v2) (hb : Below W.heap.size W w) (hi : W.heap.size ≤ i) (n : Int) (ma : mayOf n l = 0) (mb : mayOf n b = 0)
    (la0 : -2147483647 ≤ l) (la1 : l ≤ 2147483647) (lb0 : -2147483647 ≤ b) (lb1 : b ≤ 2147483647) :
    Calls Tryd.prog 13 #[.pointer (some ⟨t + 1, 0, none⟩), .int .i64 n] w (Taken W i t (l - n) (b - n)) := by
  have hE := he.below hb
  have hA := h.setA ht (l - n)
  have hbA : Below W.heap.size W (w.setCell ⟨i, 0, none⟩ (.int .i64 (l - n))) := hb.setCell hi _
  have hEA := he.below hbA
  refine (pair_take2_yes _ _ _ _ n l b w v1 v2 hE.hg1 hE.hg2 hEA.hg1 hEA.hg2 (h.hP.cell 0) (h.hS.cell 0) (h.hS.cell 1) (hA.hS.cell 1) (h.hA.cell 0) (h.hB.cell 0) (hA.hB.cell 0) (h.hA.frozen 0) (hA.hB.frozen 0) ma mb la0 la1 lb0 lb1).mono ?_
  rintro e w' ⟨rfl, rfl⟩
  exact ⟨rfl, hA.setB ht _, hbA.setCell (Nat.le_succ_of_le hi) _⟩
theorem Two.take2_no {W w : World} {i t : Nat} {l b : Int} {v1 v2 : Value} (h : Two w i t l b) (he : Errs W v1 v2) (hb : Below W.heap.size W w) (n : Int) (hm : mayOf n l ≠ 0 ∨ mayOf n b ≠ 0) :
    Calls Tryd.prog 13 #[.pointer (some ⟨t + 1, 0, none⟩), .int .i64 n] w fun e w' => (∃ v, IsErr v ∧ e = .returned v) ∧ w = w' := by
  have hE := he.below hb
  exact pair_take2_no _ _ _ _ n l b w v1 v2 hE.e1 hE.e2 hE.hg1 hE.hg2 (h.hP.cell 0) (h.hS.cell 0) (h.hS.cell 1) (h.hA.cell 0) (h.hB.cell 0) hm
theorem Two.take1 {W w : World} {i t : Nat} {l b : Int} {v1 v2 : Value} (h : Two w i t l b) (ht : i + 1 < t) (he : Errs W v1 v2) (hb : Below W.heap.size W w) (hi : W.heap.size ≤ i) (n : Int) (mb : mayOf n b = 0)
    (lb0 : -2147483647 ≤ b) (lb1 : b ≤ 2147483647) :
    Calls Tryd.prog 13 #[.pointer (some ⟨t + 3, 0, none⟩), .int .i64 n] w (Taken W i t l (b - n)) := by
  have hE := he.below hb
  refine (pair_take1_yes _ _ _ n b w v1 v2 hE.hg1 hE.hg2 (h.hQ.cell 0) (h.hR.cell 0) (h.hB.cell 0) (h.hB.frozen 0) mb lb0 lb1).mono ?_
  rintro e w' ⟨rfl, rfl⟩
  exact ⟨rfl, h.setB ht _, hb.setCell (Nat.le_succ_of_le hi) _⟩
set_option maxHeartbeats 1000000 in
theorem room_go (W : World) (v1 v2 : Value) (e1 : IsErr v1) (e2 : IsErr v2) (hg1 : W.cell? ⟨0, 0, none⟩ = some v1) (hg2 : W.cell? ⟨1, 0, none⟩ = some v2) (hsz : 2 ≤ W.heap.size)
    (a b by' n : Int) (ha0 : 0 ≤ a) (ha1 : a ≤ 2147483647) (hb0 : 0 ≤ b) (hb1 : b ≤ 2147483647) (hn0 : -9223372036854775808 ≤ n) (hn1 : n ≤ 9223372036854775807) :
    Calls Tryd.prog 4 #[.int .i64 a, .int .i64 b, .int .i64 by', .int .i64 n] W fun e w' => e = .returned (.bool true) ∧ Below W.heap.size W w' := by
  go_enter Tryd.func4, Tryd.ntmps4
  go_wp2_with fail
  refine (first_any _ hsz).mono ?_
  rintro e w1 ⟨rfl, hw1⟩
  go_wp2_with fail
  refine (new_yes _ _ ha0 ha1).mono ?_; rintro e w' ⟨rfl, rfl⟩
  go_wp2_with fail
  refine (new_yes _ _ hb0 hb1).mono ?_; rintro e w' ⟨rfl, rfl⟩
  have hbe0 : Below W.heap.size W ((w1.alloc (.cells #[.int .i64 a] 39)).alloc (.cells #[.int .i64 b] 39)) := (hw1.alloc hw1.size _).alloc (by have := hw1.size; simp; omega) _
  have hA : Blk ((w1.alloc (.cells #[.int .i64 a] 39)).alloc (.cells #[.int .i64 b] 39)) w1.heap.size 39 #[.int .i64 a] := (Blk.new _ _ _).alloc _
  have hB : Blk ((w1.alloc (.cells #[.int .i64 a] 39)).alloc (.cells #[.int .i64 b] 39)) (w1.heap.size + 1) 39 #[.int .i64 b] := by simpa using (Blk.new (w1.alloc (.cells #[.int .i64 a] 39)) 39 #[.int .i64 b])
  have hi : W.heap.size ≤ w1.heap.size := hw1.size
  have hH := Lib.hid (show ((w1.alloc (.cells #[.int .i64 a] 39)).alloc (.cells #[.int .i64 b] 39)).heap.size = w1.heap.size + 2 by simp)
  clear hw1
  go_wp2_with fail
  refine (shift_any W.heap.size W _ w1.heap.size a by' v1 v2 e1 e2 ((hbe0.cell (p := ⟨0, 0, none⟩) (by show 0 < _; omega)).trans hg1) ((hbe0.cell (p := ⟨1, 0, none⟩) (by show 1 < _; omega)).trans hg2) hA (by omega) ha1 hbe0 hi).mono ?_
  rintro e w3 ⟨l, v, hl0, hl1, rfl, hA3, hk3, hs3, hbe3⟩
  have hB3 : Blk w3 (w1.heap.size + 1) 39 #[.int .i64 b] := (hk3 _ (by omega)).trans hB
  have hH3 := Lib.hid (hs3.trans hH.out)
  clear hs3 hH hk3 hB hA hbe0
  generalize hgen : w1.heap.size = i at *
  clear hgen
  go_wp2_with fail
  generalize hgs : w3.heap.size = t at *
  have hit : i + 1 < t := by have := hH3.out; omega
  have hHs := Lib.hid hgs
  clear hH3 hgs
  refine (both_two i (i + 1) w3 #[.int .i64 l] #[.int .i64 b] (by omega) hA3 hB3).mono ?_
  rw [hHs.out]
  rintro e w4 ⟨rfl, rfl⟩
  go_wp2_with fail
  refine (both_one (i + 1) _).mono ?_
  simp only [World.size_alloc, hHs.out]
  rintro e w5 ⟨rfl, hw5⟩
  have hT : Two w5 i t l b := by
    subst hw5
    have a1 : ∀ (w : World) (o : Obj) (g : Nat) (t' : TypeId) (cs : Array Value), Blk w g t' cs → Blk (w.alloc o) g t' cs := fun w o g t' cs h => h.alloc o
    refine ⟨a1 _ _ _ _ _ (a1 _ _ _ _ _ (a1 _ _ _ _ _ (a1 _ _ _ _ _ hA3))), a1 _ _ _ _ _ (a1 _ _ _ _ _ (a1 _ _ _ _ _ (a1 _ _ _ _ _ hB3))), ?_, ?_, ?_, ?_⟩
    · refine a1 _ _ _ _ _ (a1 _ _ _ _ _ (a1 _ _ _ _ _ ?_))
      rw [← hHs.out]; exact Blk.new _ _ _
    · refine a1 _ _ _ _ _ (a1 _ _ _ _ _ ?_)
      have : t + 1 = (w3.alloc (.cells #[.pointer (some ⟨i, 0, none⟩), .pointer (some ⟨i + 1, 0, none⟩)] 24)).heap.size := by simp [hHs.out]
      rw [this]; exact Blk.new _ _ _
    · refine a1 _ _ _ _ _ ?_
      have : t + 2 = ((w3.alloc (.cells #[.pointer (some ⟨i, 0, none⟩), .pointer (some ⟨i + 1, 0, none⟩)] 24)).alloc (.cells #[.slice (some ⟨t, 0, none⟩) 2 2] 42)).heap.size := by simp [hHs.out]
      rw [this]; exact Blk.new _ _ _
    · have : t + 3 = (((w3.alloc (.cells #[.pointer (some ⟨i, 0, none⟩), .pointer (some ⟨i + 1, 0, none⟩)] 24)).alloc (.cells #[.slice (some ⟨t, 0, none⟩) 2 2] 42)).alloc (.cells #[.pointer (some ⟨i + 1, 0, none⟩)] 24)).heap.size := by simp [hHs.out]
      rw [this]; exact Blk.new _ _ _
  have hbe5 : Below W.heap.size W w5 := by
    subst hw5
    exact (((hbe3.alloc (by rw [hHs.out]; omega) _).alloc (by simp [hHs.out]; omega) _).alloc (by simp [hHs.out]; omega) _).alloc (by simp [hHs.out]; omega) _
  clear hw5 hbe3 hA3 hB3 hHs
  have hE : Errs W v1 v2 := ⟨e1, e2, hg1, hg2, hsz⟩
  clear e1 e2 hg1 hg2 hsz
  go_wp2_with fail
  obtain ⟨r, hr⟩ : ∃ r : Int, r = max 0 (max 0 (min (max 0 (min n l)) b)) := ⟨_, rfl⟩
  have hr0 : 0 ≤ r := by omega
  have hr1 : r = 0 ∨ (r ≤ n ∧ r ≤ l ∧ r ≤ b) := by omega
  have hr2 : r = n ∨ (r < n ∧ (l < n - r + r ∨ b < n - r + r)) ∨ n < 0 := by omega
  have hr3 : r ≤ 2147483647 := by omega
  have hr4 : r < n → (r = l ∨ r = b ∨ (r = 0 ∧ (l < 0 ∨ b < 0))) := by omega
  have hrn : r ≤ max n 0 := by omega
  have c1 := hT.room2 n
  rw [← hr] at c1
  refine c1.mono ?_
  clear c1 hr
  rintro e w6 ⟨rfl, rfl⟩
  go_wp2_with fail
  refine (left_any _ l _ (hT.hA.cell 0)).mono ?_
  rintro e w6 ⟨rfl, rfl⟩
  go_wp2_with fail
  refine (left_any _ b _ (hT.hB.cell 0)).mono ?_
  rintro e w6 ⟨rfl, rfl⟩
  go_wp2_with fail
  all_goals
    refine (hT.take2 hit hE hbe5 hi r (may_ok hr0 (by omega)) (may_ok hr0 (by omega)) hl0 hl1 (by omega) hb1).mono ?_
    rintro e w6 ⟨rfl, hT6, hbe6⟩
    go_wp2_with fail
    refine (left_any _ (l - r) _ (hT6.hA.cell 0)).mono ?_
    rintro e w7 ⟨rfl, rfl⟩
    go_wp2_with fail
    refine (left_any _ (b - r) _ (hT6.hB.cell 0)).mono ?_
    rintro e w7 ⟨rfl, rfl⟩
    clear hT hbe5
    have hbr0 : -2147483647 ≤ b - r := by omega
    have hbr1 : b - r ≤ 2147483647 := by omega
    obtain ⟨s, hs⟩ : ∃ s : Int, s = max 0 (min n (b - r)) := ⟨_, rfl⟩
    have hs0 : 0 ≤ s := by omega
    have hs1 : 0 < s → s ≤ b - r := by omega
    have c1 := hT6.room1 n
    rw [← hs] at c1
    have HC := Lib.hid c1
    clear c1 hs
    have hsb : s ≤ 2147483647 := by omega
    have HT1 := Lib.hid (hT6.take1 hit hE hbe6 hi s (may_ok hs0 hs1) hbr0 hbr1)
    by_cases hlt : r < n
    · first
      | (exfalso; omega)
      | (have hbad : mayOf (n - r) (l - r) ≠ 0 ∨ mayOf (n - r) (b - r) ≠ 0 := by
           rcases hr4 hlt with h | h | ⟨h, h' | h'⟩
           · exact Or.inl (may_bad (by omega) (by omega))
           · exact Or.inr (may_bad (by omega) (by omega))
           · exact Or.inl (may_bad (by omega) (by omega))
           · exact Or.inr (may_bad (by omega) (by omega))
         have HB := Lib.hid (hT6.take2_no hE hbe6 (n - r) hbad)
         have cA := hT6.hA.cell 0
         have cB := hT6.hB.cell 0
         clear hbad hT6 hr1 hr2 hr4 hE hs1
         go_wp2_with fail
         refine HB.out.mono ?_
         rintro e w7 ⟨⟨v', ⟨ty, u, rfl⟩, rfl⟩, rfl⟩
         go_wp2_with fail
         refine HC.out.mono ?_
         rintro e w7 ⟨rfl, rfl⟩
         go_wp2_with fail
         refine (left_any _ (l - r) _ cA).mono ?_
         rintro e w7 ⟨rfl, rfl⟩
         go_wp2_with fail
         refine (left_any _ (b - r) _ cB).mono ?_
         rintro e w7 ⟨rfl, rfl⟩
         go_wp2_with fail
         refine HT1.out.mono ?_
         rintro e w7 ⟨rfl, hT7, hbe7⟩
         go_wp2_with fail
         refine (left_any _ (b - r - s) _ (hT7.hB.cell 0)).mono ?_
         rintro e w8 ⟨rfl, rfl⟩
         clear hT7
         go_wp2
         go_ret
         exact ⟨rfl, hbe7⟩)
    · have cA := hT6.hA.cell 0
      have cB := hT6.hB.cell 0
      clear hT6 hr1 hr2 hr4 hE hs1
      go_wp2_with fail
      refine HC.out.mono ?_
      rintro e w7 ⟨rfl, rfl⟩
      go_wp2_with fail
      refine (left_any _ (l - r) _ cA).mono ?_
      rintro e w7 ⟨rfl, rfl⟩
      go_wp2_with fail
      refine (left_any _ (b - r) _ cB).mono ?_
      rintro e w7 ⟨rfl, rfl⟩
      go_wp2_with fail
      refine HT1.out.mono ?_
      rintro e w7 ⟨rfl, hT7, hbe7⟩
      go_wp2_with fail
      refine (left_any _ (b - r - s) _ (hT7.hB.cell 0)).mono ?_
      rintro e w8 ⟨rfl, rfl⟩
      clear hT7
      go_wp2
      go_ret
      exact ⟨rfl, hbe7⟩
set_option maxHeartbeats 400000 in
theorem room_bad (W : World) (v1 v2 : Value) (hE : Errs W v1 v2) (a b by' n : Int) (h : ¬ ((0 ≤ a ∧ a ≤ 2147483647) ∧ (0 ≤ b ∧ b ≤ 2147483647))) :
    Calls Tryd.prog 4 #[.int .i64 a, .int .i64 b, .int .i64 by', .int .i64 n] W fun e w' => e = .returned (.bool true) ∧ Below W.heap.size W w' := by
  have hE' := hE
  obtain ⟨⟨t1, u1, rfl⟩, e2, hg1, hg2, hsz⟩ := hE
  by_cases ha : 0 ≤ a ∧ a ≤ 2147483647
  · have hb : b < 0 ∨ 2147483647 < b := by omega
    have HB := Lib.hid hb
    obtain ⟨ha0, ha1⟩ := ha
    clear h hb
    go_enter Tryd.func4, Tryd.ntmps4
    go_wp2_with fail
    refine (first_any _ hsz).mono ?_
    rintro e w1 ⟨rfl, hw1⟩
    go_wp2_with fail
    refine (new_yes _ _ ha0 ha1).mono ?_; rintro e w' ⟨rfl, rfl⟩
    have hbe := hw1.alloc hw1.size (.cells #[.int .i64 a] 39)
    go_wp2_with fail
    refine (new_no _ _ _ (hE'.below hbe).hg1 HB.out).mono ?_
    rintro e w2 ⟨rfl, hw2⟩
    have hw3 := hbe.trans (hw2.mono hbe.size)
    clear hw1 hw2 hbe HB hg1 hg2 hE'
    go_wp2
    go_ret
    exact ⟨rfl, hw3⟩
  · have ha' : a < 0 ∨ 2147483647 < a := by omega
    have HA := Lib.hid ha'
    clear h ha'
    by_cases hb : 0 ≤ b ∧ b ≤ 2147483647
    · obtain ⟨hb0, hb1⟩ := hb
      clear ha
      go_enter Tryd.func4, Tryd.ntmps4
      go_wp2_with fail
      refine (first_any _ hsz).mono ?_
      rintro e w1 ⟨rfl, hw1⟩
      go_wp2_with fail
      refine (new_no _ _ _ (hE'.below hw1).hg1 HA.out).mono ?_
      rintro e w2 ⟨rfl, hw2⟩
      have hw3 := hw1.trans (hw2.mono hw1.size)
      clear hw1 hw2 HA hg1 hg2 hE'
      go_wp2_with fail
      refine (new_yes _ _ hb0 hb1).mono ?_; rintro e w' ⟨rfl, rfl⟩
      have hbe := hw3.alloc hw3.size (.cells #[.int .i64 b] 39)
      clear hw3
      go_wp2
      go_ret
      exact ⟨rfl, hbe⟩
    · have hb' : b < 0 ∨ 2147483647 < b := by omega
      have HB := Lib.hid hb'
      clear ha hb hb'
      go_enter Tryd.func4, Tryd.ntmps4
      go_wp2_with fail
      refine (first_any _ hsz).mono ?_
      rintro e w1 ⟨rfl, hw1⟩
      go_wp2_with fail
      refine (new_no _ _ _ (hE'.below hw1).hg1 HA.out).mono ?_
      rintro e w2 ⟨rfl, hw2⟩
      have hw3 := hw1.trans (hw2.mono hw1.size)
      clear hw1 hw2 HA hg1 hg2
      go_wp2_with fail
      refine (new_no _ _ _ (hE'.below hw3).hg1 HB.out).mono ?_
      rintro e w4 ⟨rfl, hw4⟩
      have hbe := hw3.trans (hw4.mono hw3.size)
      clear hw3 hw4 HB hE'
      go_wp2
      go_ret
      exact ⟨rfl, hbe⟩
theorem room_any_law (W : World) (v1 v2 : Value) (hE : Errs W v1 v2) (a b by' n : Int) (hn0 : -9223372036854775808 ≤ n) (hn1 : n ≤ 9223372036854775807) :
    Calls Tryd.prog 4 #[.int .i64 a, .int .i64 b, .int .i64 by', .int .i64 n] W fun e w' => e = .returned (.bool true) ∧ Below W.heap.size W w' := by
  by_cases h : (0 ≤ a ∧ a ≤ 2147483647) ∧ (0 ≤ b ∧ b ≤ 2147483647)
  · exact room_go W v1 v2 hE.e1 hE.e2 hE.hg1 hE.hg2 hE.hsz a b by' n h.1.1 h.1.2 h.2.1 h.2.2 hn0 hn1
  · exact room_bad W v1 v2 hE a b by' n h
end Go.Proofs.YtlaldjbdpgbhkaaDoor
