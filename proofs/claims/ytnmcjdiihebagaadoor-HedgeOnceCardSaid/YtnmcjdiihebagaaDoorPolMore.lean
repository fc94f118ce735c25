/-
  NewCall's refusal; Commit; Failed without a throttle, all its ways in one contract.
-/
import Derived.Test.YtnmcjdiihebagaaDoorPolFirst
namespace Go.Proofs.YtnmcjdiihebagaaDoor.Pol
open Go.RowKit
theorem nums_bounds {T F M X : Int} {xs : List Int} (h : polOk T F M X xs = true) : 1 ≤ T ∧ T ≤ 5 ∧ 0 ≤ F ∧ F ≤ 1000000 ∧ 0 ≤ M ∧ M ≤ 1000000 ∧ 1 ≤ X ∧ X ≤ 100 := by
  have h2 : (numsOk T F M X && xs.all codeOk) = true := h
  rw [Bool.and_eq_true] at h2
  have h3 := h2.1
  unfold numsOk at h3
  simp only [Bool.and_eq_true, decide_eq_true_eq] at h3
  omega
set_option maxRecDepth 100000 in
set_option maxHeartbeats 1000000 in
theorem newcall_no (T F M X : Int) (xs : List Int) (A : Option Addr) (n c : Nat) (hn : xs.length = n) (hcap : n ≤ 1000000) (tp : Option Addr) (v : Value) (hie : IsErr v) (w : World) (hx : IntsAt w A xs) (hok : polOk T F M X xs = false) (hv : w.cell? ⟨0, 0, none⟩ = some v) (hg : 0 < w.heap.size) :
    Calls Tryd.prog 13 #[.agg #[.int .i64 T, .int .i64 F, .int .i64 M, .int .i64 X, .slice A n c], .pointer tp] w fun e w' => e = .returned (.tuple #[.pointer none, v]) ∧ Below w.heap.size w w' := by
  have hB0 : Below w.heap.size w (w.alloc (.cells #[.int .i64 T, .int .i64 F, .int .i64 M, .int .i64 X, .slice A n c] 29)) := (Below.refl _ _).alloc (Nat.le_refl _) _
  have hx1 := hx.below hB0
  have hv1 := (hB0.cell (p := ⟨0, 0, none⟩) hg).trans hv
  have hg1 : 0 < (w.alloc (.cells #[.int .i64 T, .int .i64 F, .int .i64 M, .int .i64 X, .slice A n c] 29)).heap.size := Nat.lt_of_lt_of_le hg hB0.size
  have HV := Lib.hid (valid_any T F M X xs A n c hn (by omega) v _ hx1 hv1 hg1)
  rw [hok] at HV
  obtain ⟨t, u, rfl⟩ := hie
  go_enter Tryd.func13, Tryd.ntmps13
  go_wp2_with fail
  refine HV.out.mono ?_
  rintro e w2 ⟨rfl, hb2⟩
  have hB2 := Lib.hid (hB0.trans (hb2.mono hB0.size))
  clear hB0 hb2 hx1 hv1 hg1 hx hv
  simp only [Bool.false_eq_true, if_false]
  go_wp2_with fail
  go_ret2
  exact ⟨rfl, hB2.out⟩
set_option maxRecDepth 100000 in
theorem commit_any (g : Nat) (T F M X : Int) (l tp : Value) (tries waits : Int) (r co d : Bool) (w : World) (h : Blk w g 74 (callC T F M X l tp tries waits r co d)) :
    Calls Tryd.prog 14 #[.pointer (some ⟨g, 0, none⟩)] w fun e w' => e = .returned (.tuple #[]) ∧ Upd w w' g (callC T F M X l tp tries waits r true d) := by
  have c0 : w.cell? ⟨g, 9, none⟩ = some (.bool co) := h.cell 9
  have f0 : w.frozen? ⟨g, 9, none⟩ = false := h.frozen 9
  have H := Lib.hid h
  clear h
  go_enter Tryd.func14, Tryd.ntmps14
  go_wp2
  go_end0
  exact ⟨rfl, H.out.set_ 9 _, only_setCell (World.grownBy.refl w (some g)) (Or.inl rfl) _⟩
/-- what a failed try does to a call without a throttle, as far as the laws ask -/
structure FailRel (T : Int) (tries waits : Int) (r co d again : Bool) (ms tries' waits' : Int) (r' d' : Bool) : Prop where
  no : again = false → ms = 0 ∧ d' = true ∧ tries' = tries ∧ waits' = waits ∧ r' = r
  yes : again = true → co = false ∧ d = false ∧ d' = false ∧ 0 ≤ ms ∧ ((tries' = tries ∧ waits' = waits ∧ r = false ∧ r' = true) ∨ (tries < T ∧ tries' = tries + 1 ∧ 0 ≤ waits' ∧ waits' ≤ waits + 1 ∧ r' = r))
def FailPost (w : World) (g : Nat) (T F M X : Int) (l : Value) (tries waits : Int) (r co d : Bool) (e : Ending) (w' : World) : Prop :=
  ∃ again ms tries' waits' r' d', e = .returned (.tuple #[.bool again, .int .i64 ms]) ∧ FailRel T tries waits r co d again ms tries' waits' r' d' ∧ Upd w w' g (callC T F M X l (.pointer none) tries' waits' r' co d')
theorem failed_all (g T F M X : Nat) (xs : List Int) (A : Option Addr) (n c : Nat) (tries waits : Int) (r co d : Bool) (code push draw : Int) (refused : Bool) (w : World) (hF : F ≤ 1000000) (hM : M ≤ 1000000) (hX : X ≤ 100) (ht : 0 ≤ tries ∧ tries ≤ 1000000000) (hw : 0 ≤ waits ∧ waits ≤ 1000000000)
    (hn : xs.length = n) (hcap : n ≤ 1000000) (hx : IntsAt w A xs) (hg : Blk w g 74 (callC T F M X (.slice A n c) (.pointer none) tries waits r co d)) :
    Calls Tryd.prog 15 #[.pointer (some ⟨g, 0, none⟩), .int .i64 code, .bool refused, .int .i64 push, .int .i64 draw] w (FailPost w g T F M X (.slice A n c) tries waits r co d) := by
  by_cases hd : d = true
  · refine (failed_done g T F M X xs A n c tries waits r co d code push draw refused w hn hcap hx hg hd).mono fun e w' h => ?_
    exact ⟨false, 0, tries, waits, r, true, h.1, ⟨fun _ => ⟨rfl, rfl, rfl, rfl, rfl⟩, fun h => by cases h⟩, h.2⟩
  · have hd : d = false := by simpa using hd
    by_cases hco : co = true
    · refine (failed_com g T F M X xs A n c tries waits r co d code push draw refused w hn hcap hx hg hd hco).mono fun e w' h => ?_
      exact ⟨false, 0, tries, waits, r, true, h.1, ⟨fun _ => ⟨rfl, rfl, rfl, rfl, rfl⟩, fun h => by cases h⟩, by rw [hco]; exact h.2⟩
    · have hco : co = false := by simpa using hco
      by_cases hr : (refused && !r) = true
      · refine (failed_ref g T F M X xs A n c tries waits r co d code push draw refused w hn hcap hx hg hd hco hr).mono fun e w' h => ?_
        have hrf : r = false := by revert hr; cases r <;> cases refused <;> simp
        exact ⟨true, 0, tries, waits, true, false, h.1, ⟨(fun h => by cases h), fun _ => ⟨hco, hd, rfl, by omega, Or.inl ⟨rfl, rfl, hrf, rfl⟩⟩⟩, by rw [hco]; exact h.2⟩
      · have hr : (refused && !r) = false := by simpa using hr
        by_cases hno : (!(decide (code ∈ xs)) || decide (push = -2) || decide ((T : Int) ≤ tries)) = true
        · refine (failed_no g T F M X xs A n c tries waits r co d code push draw refused w hn hcap hx hg hd hco hr hno).mono fun e w' h => ?_
          exact ⟨false, 0, tries, waits, r, true, h.1, ⟨fun _ => ⟨rfl, rfl, rfl, rfl, rfl⟩, fun h => by cases h⟩, by rw [hco]; exact h.2⟩
        · have hno : (!(decide (code ∈ xs)) || decide (push = -2) || decide ((T : Int) ≤ tries)) = false := by simpa using hno
          have htr : tries < T := by
            simp only [Bool.or_eq_false_iff, decide_eq_false_iff_not] at hno
            omega
          refine (failed_yes g T F M X xs A n c tries waits r co d code push draw refused w hF hM hX ht hw hn hcap hx hg hd hco hr hno).mono fun e w' h => ?_
          refine ⟨true, _, _, _, r, false, h.1, ⟨(fun h => by cases h), fun _ => ⟨hco, hd, rfl, ?_, Or.inr ⟨htr, rfl, ?_, ?_, rfl⟩⟩⟩, by rw [hco]; exact h.2⟩
          · split <;> omega
          · split <;> omega
          · split <;> omega
end Go.Proofs.YtnmcjdiihebagaaDoor.Pol
