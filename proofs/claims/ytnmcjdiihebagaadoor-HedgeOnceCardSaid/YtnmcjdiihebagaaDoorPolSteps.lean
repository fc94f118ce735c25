/-
  slices.Index and Contains of ints; the steps that a failed try is asked.
-/
import Derived.Test.YtnmcjdiihebagaaDoorPolThr
import Derived.StillTailTactics
import Derived.Deep.RegionHeld3
namespace Go.Proofs.YtnmcjdiihebagaaDoor.Pol
open Go.RowKit
set_option maxHeartbeats 1000000 in
theorem index_any (xs : List Int) (A : Option Addr) (n c : Nat) (x : Int) (hn : xs.length = n) (hcap : n ≤ 9223372036854775807) (w : World) (hx : IntsAt w A xs) :
    Calls Tryd.prog 54 #[.slice A n c, .int .i64 x] w fun e w' => ∃ r : Int, e = .returned (.int .i64 r) ∧ (0 ≤ r ↔ x ∈ xs) ∧ w = w' := by
  go_enter Tryd.func54, Tryd.ntmps54
  go_wp2
  go_loop [8] (fun i => ∃ k : Nat, k ≤ n ∧ i = .int .i64 (k : Int) ∧ ∀ j, j < k → xs.getD j 0 ≠ x) (fun i => n - (intOf i).toNat)
  case atStart => exact ⟨0, Nat.zero_le _, rfl, fun j hj => absurd hj (by omega)⟩
  case round =>
    obtain ⟨k, hk, rfl, hne⟩ := hrel
    by_cases hlt : k < n
    · obtain ⟨b, off, rfl, hb, hc⟩ := hx k (by omega)
      have hmem : xs.getD k 0 ∈ xs := by
        have h : k < xs.length := by omega
        simp [List.getD, List.getElem?_eq_getElem h]
      have hnx : xs.getD k 0 ≠ x → ∀ j, j < k + 1 → xs.getD j 0 ≠ x := by
        intro h j hj
        rcases Nat.lt_or_ge j k with h1 | h1
        · exact hne j h1
        · rw [show j = k by omega]; exact h
      generalize xs.getD k 0 = y at *
      by_cases hy : x = y
      · have hm2 : x ∈ xs := by rw [hy]; exact hmem
        have HM := Lib.hid hm2
        have ht : (x == y) = true := by rw [hy]; simp
        clear hnx hmem hy hm2 hne
        go_wp2
        go_ret
        exact ⟨_, rfl, iff_of_true (by omega) HM.out, rfl⟩
      · have HN := Lib.hid (hnx (fun h => hy h.symm))
        have ht : (x == y) = false := by rw [beq_eq_false_iff_ne]; exact hy
        clear hnx hmem hne
        go_wp2
        go_round
        case rel => exact ⟨k + 1, by omega, by go_num, HN.out⟩
        case measure => simp [intOf]; omega
    · have hnm : ¬ x ∈ xs := by
        intro h
        obtain ⟨j, hj, e⟩ := List.getElem_of_mem h
        refine hne j (by omega) ?_
        simp [List.getD, List.getElem?_eq_getElem hj, e]
      have HM := Lib.hid hnm
      clear hnm hne
      go_wp2
      go_ret
      exact ⟨_, rfl, iff_of_false (by omega) HM.out, rfl⟩
theorem contains_any (xs : List Int) (A : Option Addr) (n c : Nat) (x : Int) (hn : xs.length = n) (hcap : n ≤ 9223372036854775807) (w : World) (hx : IntsAt w A xs) :
    Calls Tryd.prog 43 #[.slice A n c, .int .i64 x] w fun e w' => e = .returned (.bool (decide (x ∈ xs))) ∧ w = w' := by
  go_enter Tryd.func43, Tryd.ntmps43
  go_wp2_with fail
  refine (index_any xs A n c x hn hcap w hx).mono ?_
  rintro e w' ⟨r, rfl, hr, rfl⟩
  go_wp2_with fail
  go_ret
  first
    | exact ⟨rfl, rfl⟩
    | exact ⟨congrArg (fun b => Ending.returned (.bool b)) (decide_eq_decide.2 hr), rfl⟩
theorem IntsAt.alloc {w : World} {A : Option Addr} {xs : List Int} (h : IntsAt w A xs) (o : Obj) : IntsAt (w.alloc o) A xs := h.below ((Below.refl _ w).alloc (Nat.le_refl _) o)
theorem IntsAt.drew {w : World} {A : Option Addr} {xs : List Int} (h : IntsAt w A xs) : IntsAt w.drew A xs := h
/-- the closures that are laid, and what they have captured -/
def stepsV (h : Nat) : Array Value :=
  #[.func (.func 48) #[] #[.pointer (some ⟨h, 0, none⟩), .pointer (some ⟨h + 2, 0, none⟩)],
    .func (.func 49) #[] #[.pointer (some ⟨h + 1, 0, none⟩), .pointer (some ⟨h, 0, none⟩)],
    .func (.func 50) #[] #[.pointer (some ⟨h, 0, none⟩), .pointer (some ⟨h + 3, 0, none⟩), .pointer (some ⟨h + 1, 0, none⟩), .pointer (some ⟨h + 2, 0, none⟩)],
    .func (.func 51) #[] #[.pointer (some ⟨h, 0, none⟩), .pointer (some ⟨h + 1, 0, none⟩)]]
set_option maxRecDepth 100000 in
set_option maxHeartbeats 2000000 in
theorem steps_any (g : Nat) (T F M X : Int) (xs : List Int) (A : Option Addr) (n c : Nat) (tp : Value) (tries waits : Int) (r co d : Bool) (code push draw : Int) (refused : Bool) (w : World)
    (hn : xs.length = n) (hcap : n ≤ 9223372036854775807) (hx : IntsAt w A xs) (hg : Blk w g 74 (callC T F M X (.slice A n c) tp tries waits r co d)) :
    Calls Tryd.prog 34 #[.pointer (some ⟨g, 0, none⟩), .agg #[.int .i64 code, .int .i64 push, .int .i64 draw, .bool refused]] w fun e w' =>
      e = .returned (.slice (some ⟨w.heap.size + 4, 0, none⟩) 4 4) ∧ Below w.heap.size w w' ∧
      Blk w' w.heap.size 34 #[.pointer (some ⟨g, 0, none⟩)] ∧ Blk w' (w.heap.size + 1) 78 #[.int .i64 code, .int .i64 push, .int .i64 draw, .bool refused] ∧
      Blk w' (w.heap.size + 2) 81 #[.bool true, .bool false, .int .i64 0] ∧ Blk w' (w.heap.size + 3) 4 #[.bool (decide (code ∈ xs))] ∧ Blk w' (w.heap.size + 4) 79 (stepsV w.heap.size) := by
  have hmf : ∀ (fn : Fn) (first cap : Array Value) (w : World), (Instr.makeFunc fn first cap).run Tryd.prog w = .ok (.func fn first cap) w := fun _ _ _ _ => rfl
  go_enter Tryd.func34, Tryd.ntmps34
  go_wp2_with fail
  have hb : Below w.heap.size w (((w.alloc (.cells #[.pointer (some ⟨g, 0, none⟩)] 34)).alloc (.cells #[.int .i64 code, .int .i64 push, .int .i64 draw, .bool refused] 78)).alloc (.cells #[.bool true, .bool false, .int .i64 0] 81)) :=
    (((Below.refl _ _).alloc (Nat.le_refl _) _).alloc (by simp) _).alloc (by simp; omega) _
  have k0 : Blk (((w.alloc (.cells #[.pointer (some ⟨g, 0, none⟩)] 34)).alloc (.cells #[.int .i64 code, .int .i64 push, .int .i64 draw, .bool refused] 78)).alloc (.cells #[.bool true, .bool false, .int .i64 0] 81)) w.heap.size 34 #[.pointer (some ⟨g, 0, none⟩)] := ((Blk.new _ _ _).alloc _).alloc _
  have k1 : Blk (((w.alloc (.cells #[.pointer (some ⟨g, 0, none⟩)] 34)).alloc (.cells #[.int .i64 code, .int .i64 push, .int .i64 draw, .bool refused] 78)).alloc (.cells #[.bool true, .bool false, .int .i64 0] 81)) (w.heap.size + 1) 78 #[.int .i64 code, .int .i64 push, .int .i64 draw, .bool refused] := by
    have := (Blk.new (w.alloc (.cells #[.pointer (some ⟨g, 0, none⟩)] 34)) 78 #[.int .i64 code, .int .i64 push, .int .i64 draw, .bool refused]).alloc (.cells #[.bool true, .bool false, .int .i64 0] 81)
    simpa using this
  have k2 : Blk (((w.alloc (.cells #[.pointer (some ⟨g, 0, none⟩)] 34)).alloc (.cells #[.int .i64 code, .int .i64 push, .int .i64 draw, .bool refused] 78)).alloc (.cells #[.bool true, .bool false, .int .i64 0] 81)) (w.heap.size + 2) 81 #[.bool true, .bool false, .int .i64 0] := by
    have := (Blk.new ((w.alloc (.cells #[.pointer (some ⟨g, 0, none⟩)] 34)).alloc (.cells #[.int .i64 code, .int .i64 push, .int .i64 draw, .bool refused] 78)) 81 #[.bool true, .bool false, .int .i64 0])
    simpa using this
  have kg := hg.below hb hg.lt
  have kx := hx.below hb
  have hsz : (((w.alloc (.cells #[.pointer (some ⟨g, 0, none⟩)] 34)).alloc (.cells #[.int .i64 code, .int .i64 push, .int .i64 draw, .bool refused] 78)).alloc (.cells #[.bool true, .bool false, .int .i64 0] 81)).heap.size = w.heap.size + 3 := by simp
  generalize (((w.alloc (.cells #[.pointer (some ⟨g, 0, none⟩)] 34)).alloc (.cells #[.int .i64 code, .int .i64 push, .int .i64 draw, .bool refused] 78)).alloc (.cells #[.bool true, .bool false, .int .i64 0] 81)) = w3 at *
  have c0 : w3.cell? ⟨w.heap.size, 0, none⟩ = some (.pointer (some ⟨g, 0, none⟩)) := k0.cell 0
  have c1 : w3.cell? ⟨w.heap.size + 1, 0, none⟩ = some (.int .i64 code) := k1.cell 0
  have c2 : w3.cell? ⟨g, 4, none⟩ = some (.slice A n c) := kg.cell 4
  have HC := fun (W : World) (h : IntsAt W A xs) => Lib.hid (contains_any xs A n c code hn hcap W h)
  have hgl := kg.lt
  have HK0 := Lib.hid k0
  have HK1 := Lib.hid k1
  have HK2 := Lib.hid k2
  have KX := Lib.hid kx
  clear k0 k1 k2 kg kx hg hx
  have a1 : ∀ o : Obj, (w3.alloc o).cell? ⟨w.heap.size, 0, none⟩ = some (.pointer (some ⟨g, 0, none⟩)) := fun o => (World.cell?_alloc_lt w3 o _ (by show w.heap.size < _; omega)).trans c0
  have a2 : ∀ o : Obj, (w3.alloc o).cell? ⟨w.heap.size + 1, 0, none⟩ = some (.int .i64 code) := fun o => (World.cell?_alloc_lt w3 o _ (by show w.heap.size + 1 < _; omega)).trans c1
  have a3 : ∀ o : Obj, (w3.alloc o).cell? ⟨g, 4, none⟩ = some (.slice A n c) := fun o => (World.cell?_alloc_lt w3 o _ (by show g < _; omega)).trans c2
  go_region_held3 (fun W : World => W.cell? ⟨w.heap.size, 0, none⟩ = some (.pointer (some ⟨g, 0, none⟩)) ∧ W.cell? ⟨w.heap.size + 1, 0, none⟩ = some (.int .i64 code) ∧ W.cell? ⟨g, 4, none⟩ = some (.slice A n c)) (first | exact ⟨c0, c1, c2⟩ | exact ⟨a1 _, a2 _, a3 _⟩)
    (first
      | (go_at_call 43; refine Calls.mono (HC _ (by first | exact KX.out.drew | exact (KX.out.alloc _).drew)).out ?_; rintro e w' ⟨rfl, rfl⟩))
  all_goals
    clear a1 a2 a3 c0 c1 c2 HC
    have hb5 : Below w.heap.size w (w3.alloc (.cells #[.bool (decide (code ∈ xs))] 4)).drew := (hb.alloc (by omega) _).drew
    have k3 : Blk (w3.alloc (.cells #[.bool (decide (code ∈ xs))] 4)).drew (w.heap.size + 3) 4 #[.bool (decide (code ∈ xs))] := by
      have := Blk.new w3 4 #[.bool (decide (code ∈ xs))]
      rw [hsz] at this
      exact this
    have k0 : Blk (w3.alloc (.cells #[.bool (decide (code ∈ xs))] 4)).drew w.heap.size 34 #[.pointer (some ⟨g, 0, none⟩)] := HK0.out.alloc _
    have k1 : Blk (w3.alloc (.cells #[.bool (decide (code ∈ xs))] 4)).drew (w.heap.size + 1) 78 #[.int .i64 code, .int .i64 push, .int .i64 draw, .bool refused] := HK1.out.alloc _
    have k2 : Blk (w3.alloc (.cells #[.bool (decide (code ∈ xs))] 4)).drew (w.heap.size + 2) 81 #[.bool true, .bool false, .int .i64 0] := HK2.out.alloc _
    have hs5 : (w3.alloc (.cells #[.bool (decide (code ∈ xs))] 4)).drew.heap.size = w.heap.size + 4 := by
      show (w3.heap.push _).size = _
      simp; omega
    generalize (w3.alloc (.cells #[.bool (decide (code ∈ xs))] 4)).drew = w5 at *
    go_wp2_with fail
    go_ret
    have k4 := Blk.new w5 79 (stepsV w.heap.size)
    rw [hs5] at k4
    exact ⟨rfl, hb5.alloc (by omega) _, k0.alloc _, k1.alloc _, k2.alloc _, k3.alloc _, k4⟩
end Go.Proofs.YtnmcjdiihebagaaDoor.Pol
