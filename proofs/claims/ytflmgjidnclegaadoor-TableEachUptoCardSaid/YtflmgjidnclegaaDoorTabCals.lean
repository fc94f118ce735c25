/-
  The calls that a law looks at: how they lie in memory; the walks of light and Can.
-/
import Derived.Test.YtflmgjidnclegaaDoorTabFirst
namespace Go.Proofs.YtflmgjidnclegaaDoor.Tab
open Go.RowKit
/-- a call: kind, number, header -/
structure Cal where
  kind : Int
  num : Int
  name : ByteArray
  value : ByteArray
  never : Bool
def Cal.hd (c : Cal) : Hd := (c.name, c.value)
/-- the calls lie at A -/
def CalsAt (w : World) (A : Option Addr) (l : List Cal) : Prop := ∀ (i : Nat) (c : Cal), l[i]? = some c → ∃ b off, A = some ⟨b, off, none⟩ ∧ b < w.heap.size ∧
  w.cell? ⟨b, off + i * 5, none⟩ = some (.int .i64 c.kind) ∧ w.cell? ⟨b, off + i * 5 + 1, none⟩ = some (.int .i64 c.num) ∧ w.cell? ⟨b, off + i * 5 + 2, none⟩ = some (.string c.name) ∧
  w.cell? ⟨b, off + i * 5 + 3, none⟩ = some (.string c.value) ∧ w.cell? ⟨b, off + i * 5 + 4, none⟩ = some (.bool c.never)
theorem CalsAt.below {w w' : World} {A : Option Addr} {l : List Cal} (h : CalsAt w A l) (hb : Below w.heap.size w w') : CalsAt w' A l := by
  intro i c hi
  obtain ⟨b, off, hA, hlt, c0, c1, c2, c3, c4⟩ := h i c hi
  have k : ∀ o v, w.cell? ⟨b, o, none⟩ = some v → w'.cell? ⟨b, o, none⟩ = some v := fun o v hv => (Below.cell hb (p := ⟨b, o, none⟩) hlt).trans hv
  exact ⟨b, off, hA, Nat.lt_of_lt_of_le hlt hb.size, k _ _ c0, k _ _ c1, k _ _ c2, k _ _ c3, k _ _ c4⟩
/-- every header of theirs is small -/
def Small (l : List Cal) : Prop := ∀ c ∈ l, hsz c.hd ≤ 4611686018427387904
set_option maxRecDepth 100000 in
theorem can_yes (m : Nat) (hm : m ≤ 4096) (w : World) : Calls Tryd.prog 19 #[.int .i64 (m : Int)] w fun e w' => e = .returned (.bool true) ∧ w = w' := by
  have h2 : decide ((m : Int) ≤ 4096) = true := decide_eq_true (by omega)
  go_enter Tryd.func19, Tryd.ntmps19
  go_wp2_with fail
  go_ret
  exact ⟨rfl, rfl⟩
set_option maxRecDepth 100000 in
theorem can_no (m : Int) (hm : m < 0 ∨ 4096 < m) (w : World) : Calls Tryd.prog 19 #[.int .i64 m] w fun e w' => e = .returned (.bool false) ∧ w = w' := by
  rcases hm with h | h
  · have h2 : decide ((0 : Int) ≤ m) = false := decide_eq_false (by omega)
    go_enter Tryd.func19, Tryd.ntmps19
    go_wp2_with fail
    go_ret
    exact ⟨rfl, rfl⟩
  · have h1 : decide ((0 : Int) ≤ m) = true := decide_eq_true (by omega)
    have h2 : decide (m ≤ 4096) = false := decide_eq_false (by omega)
    go_enter Tryd.func19, Tryd.ntmps19
    go_wp2_with fail
    go_ret
    exact ⟨rfl, rfl⟩
def LightEnd (w : World) (e : Ending) (w' : World) : Prop := ∃ b : Bool, e = .returned (.bool b) ∧ Below w.heap.size w w'
set_option maxRecDepth 100000 in
set_option maxHeartbeats 1000000 in
theorem light_any (A : Option Addr) (cap : Nat) (l : List Cal) (hl : l.length ≤ 4611686018427387904) (w : World) (h : CalsAt w A l) :
    Calls Tryd.prog 18 #[.slice A l.length cap] w fun e w' => LightEnd w e w' := by
  go_enter Tryd.func18, Tryd.ntmps18
  go_wp2_with fail
  go_loopw [3, 4] (fun n i wr => ∃ j N : Nat, i = .int .i64 (j : Int) ∧ n = .int .i64 (N : Int) ∧ j ≤ 201 ∧ N ≤ j * 40000 ∧ Below w.heap.size w wr) (fun _ i _ => 202 - (intOf i).toNat)
  case atStart => exact ⟨0, 0, rfl, rfl, by omega, by omega, Below.refl _ _⟩
  case round =>
    obtain ⟨j, N, rfl, rfl, hj, hN, hb⟩ := hrel
    have HB := Lib.hid hb
    have hA := h.below hb
    clear hb
    by_cases h1 : j < l.length
    · by_cases h2 : j ≤ 200
      · have hd1 : decide ((j : Int) < (l.length : Int)) = true := decide_eq_true (by omega)
        have hd2 : decide ((j : Int) ≤ 200) = true := decide_eq_true (by omega)
        obtain ⟨c, hc⟩ : ∃ c, l[j]? = some c := ⟨_, List.getElem?_eq_getElem h1⟩
        obtain ⟨b, off, rfl, hlt, c0, c1, c2, c3, c4⟩ := hA j c hc
        have hmx : min (c.name.size : Int) 20000 = ((min c.name.size 20000 : Nat) : Int) := by omega
        have hmy : min (c.value.size : Int) 20000 = ((min c.value.size 20000 : Nat) : Int) := by omega
        obtain ⟨x, hx⟩ : ∃ x, x = min c.name.size 20000 := ⟨_, rfl⟩
        obtain ⟨y, hy⟩ : ∃ y, y = min c.value.size 20000 := ⟨_, rfl⟩
        rw [← hx] at hmx
        rw [← hy] at hmy
        have hx' : x ≤ 20000 := by omega
        have hy' : y ≤ 20000 := by omega
        have hw1 : IntKind.i64.wrap ((N : Int) + min (c.name.size : Int) 20000) = (N : Int) + (x : Int) := by rw [hmx]; exact IntWalk.i64_in _ (by omega)
        have hw2 : IntKind.i64.wrap ((N : Int) + (x : Int) + min (c.value.size : Int) 20000) = (N : Int) + (x : Int) + (y : Int) := by rw [hmy]; exact IntWalk.i64_in _ (by omega)
        have hjl : (j : Int) < (l.length : Int) := by omega
        have HC := Lib.hid h
        clear hx hy hmx hmy c0 c1 c4 hc hlt h hA
        go_wp2_with fail
        refine wp_region_in (Since wr) (Since.drew0 wr) (by kernel_rfl) (by kernel_rfl) ?_
        repeat (first
          | go_big_quiet_skip
          | (go_big_quiet_want; go_big_quiet_op; go_big_quiet_on)
          | (go_big_quiet_want; apply in_val; (· intro W hW; have d0 := hW.cell c2; have d1 := hW.cell c3; go_simp; first | done | rfl); simp only [Act.put, List.setIfInBounds_toArray, List.set_cons_zero, List.set_cons_succ]; go_big_quiet_on))
        refine wpQuiet_nil ?_
        intro W1 hW1
        go_wp2_with fail
        go_roundw
        case rel => exact ⟨j + 1, N + x + y, by go_num, by go_num, by omega, by omega, HB.out.trans (Below.mono hW1 HB.out.size)⟩
        case measure => simp [intOf]; omega
      · have hd1 : decide ((j : Int) < (l.length : Int)) = true := decide_eq_true (by omega)
        have hd2 : decide ((j : Int) ≤ 200) = false := decide_eq_false (by omega)
        clear h hA
        go_wp2_with fail
        all_goals
          go_ret
          exact ⟨_, rfl, HB.out⟩
    · have hd1 : decide ((j : Int) < (l.length : Int)) = false := decide_eq_false (by omega)
      clear h hA
      go_wp2_with fail
      all_goals
        go_ret
        exact ⟨_, rfl, HB.out⟩
end Go.Proofs.YtflmgjidnclegaaDoor.Tab
