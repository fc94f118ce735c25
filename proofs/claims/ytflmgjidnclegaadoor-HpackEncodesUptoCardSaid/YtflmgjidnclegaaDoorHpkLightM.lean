/-
  The walk of chapter 4's light; what the laws ask of a list.
-/
import Derived.Test.YtflmgjidnclegaaDoorHpkLBoundM
namespace Go.Proofs.YtflmgjidnclegaaDoor.Hpk
open Go.RowKit
open Huff (bytesV BytesAt)
open Tab (Hd hsz tot Hn Tbl HnAt hncs)
def LightEnd (w : World) (L : List Hn) (e : Ending) (w' : World) : Prop := ∃ b : Bool, e = .returned (.bool b) ∧ Below w.heap.size w w' ∧ (b = true → L.length ≤ 60)
set_option maxRecDepth 100000 in
set_option maxHeartbeats 1000000 in
theorem light_any (A : Option Addr) (cap : Nat) (L : List Hn) (hl : L.length ≤ 4611686018427387904) (w : World) (h : HnAt w A L) :
    Calls Tryd.prog 35 #[.slice A L.length cap] w fun e w' => LightEnd w L e w' := by
  go_enter Tryd.func35, Tryd.ntmps35
  go_wp2_with fail
  go_loopw [3, 4] (fun n i wr => ∃ j N : Nat, i = .int .i64 (j : Int) ∧ n = .int .i64 (N : Int) ∧ j ≤ 61 ∧ N ≤ j * 60000 ∧ Below w.heap.size w wr) (fun _ i _ => 62 - (intOf i).toNat)
  case atStart => exact ⟨0, 0, rfl, rfl, by omega, by omega, Below.refl _ _⟩
  case round =>
    obtain ⟨j, N, rfl, rfl, hj, hN, hb⟩ := hrel
    have HB := Lib.hid hb
    have hA := h.below hb
    clear hb
    by_cases h1 : j < L.length
    · by_cases h2 : j ≤ 60
      · have hd1 : decide ((j : Int) < (L.length : Int)) = true := decide_eq_true (by omega)
        have hd2 : decide ((j : Int) ≤ 60) = true := decide_eq_true (by omega)
        obtain ⟨c, hc⟩ : ∃ c, L[j]? = some c := ⟨_, List.getElem?_eq_getElem h1⟩
        obtain ⟨b, off, rfl, hlt, c0, c1, c2⟩ := hA j c hc
        obtain ⟨nm, vl, nv⟩ := c
        simp only at c0 c1 c2
        have hmx : min (nm.size : Int) 30000 = ((min nm.size 30000 : Nat) : Int) := by omega
        have hmy : min (vl.size : Int) 30000 = ((min vl.size 30000 : Nat) : Int) := by omega
        obtain ⟨x, hx⟩ : ∃ x, x = min nm.size 30000 := ⟨_, rfl⟩
        obtain ⟨y, hy⟩ : ∃ y, y = min vl.size 30000 := ⟨_, rfl⟩
        rw [← hx] at hmx
        rw [← hy] at hmy
        have hx' : x ≤ 30000 := by omega
        have hy' : y ≤ 30000 := by omega
        have hw1 : IntKind.i64.wrap ((N : Int) + min (nm.size : Int) 30000) = (N : Int) + (x : Int) := by rw [hmx]; exact IntWalk.i64_in _ (by omega)
        have hw2 : IntKind.i64.wrap ((N : Int) + (x : Int) + min (vl.size : Int) 30000) = (N : Int) + (x : Int) + (y : Int) := by rw [hmy]; exact IntWalk.i64_in _ (by omega)
        have hjl : (j : Int) < (L.length : Int) := by omega
        have HC := Lib.hid h
        clear hx hy hmx hmy c2 hc hlt h hA
        go_wp2_with fail
        refine wp_region_in (Since wr) (Since.drew0 wr) (by kernel_rfl) (by kernel_rfl) ?_
        repeat (first
          | go_big_quiet_skip
          | (go_big_quiet_want; go_big_quiet_op; go_big_quiet_on)
          | (go_big_quiet_want; apply in_val; (· intro W hW; have d0 := hW.cell c0; have d1 := hW.cell c1; go_simp; first | done | rfl); simp only [Act.put, List.setIfInBounds_toArray, List.set_cons_zero, List.set_cons_succ]; go_big_quiet_on))
        refine wpQuiet_nil ?_
        intro W1 hW1
        go_wp2_with fail
        go_roundw
        case rel => exact ⟨j + 1, N + x + y, by go_num, by go_num, by omega, by omega, HB.out.trans (Below.mono hW1 HB.out.size)⟩
        case measure => simp [intOf]; omega
      · have hd1 : decide ((j : Int) < (L.length : Int)) = true := decide_eq_true (by omega)
        have hd2 : decide ((j : Int) ≤ 60) = false := decide_eq_false (by omega)
        have hd3 : decide ((L.length : Int) ≤ 60) = false := decide_eq_false (by omega)
        clear h hA
        go_wp2_with fail
        go_ret
        exact ⟨false, rfl, HB.out, fun h => by cases h⟩
    · have hd1 : decide ((j : Int) < (L.length : Int)) = false := decide_eq_false (by omega)
      clear h hA
      by_cases c60 : L.length ≤ 60
      · have hd3 : decide ((L.length : Int) ≤ 60) = true := decide_eq_true (by omega)
        have HC := Lib.hid c60
        go_wp2_with fail
        go_ret
        exact ⟨_, rfl, HB.out, fun _ => HC.out⟩
      · have hd3 : decide ((L.length : Int) ≤ 60) = false := decide_eq_false (by omega)
        go_wp2_with fail
        go_ret
        exact ⟨false, rfl, HB.out, fun h => by cases h⟩
/-- headers that are all Never, up to the k-th -/
def nevTo : Nat → List Hn → List Hn
  | 0, L => L
  | _ + 1, [] => []
  | k + 1, h :: L => (h.1, h.2.1, true) :: nevTo k L
theorem nevTo_len (k : Nat) (L : List Hn) : (nevTo k L).length = L.length := by
  induction L generalizing k with
  | nil => cases k <;> rfl
  | cons h t ih => cases k with
    | zero => rfl
    | succ k => show (nevTo k t).length + 1 = _; rw [ih]; rfl
theorem nevTo_all (L : List Hn) : ∀ h ∈ nevTo L.length L, h.2.2 = true := by
  induction L with
  | nil => intro h hh; simp [nevTo] at hh
  | cons x t ih =>
    intro h hh
    rcases List.mem_cons.1 hh with e | e
    · subst e; rfl
    · exact ih h e
theorem nevTo_mem (k : Nat) (L : List Hn) (P : ByteArray → ByteArray → Prop) (hp : ∀ h ∈ L, P h.1 h.2.1) : ∀ h ∈ nevTo k L, P h.1 h.2.1 := by
  induction L generalizing k with
  | nil => cases k <;> exact hp
  | cons x t ih =>
    cases k with
    | zero => exact hp
    | succ k =>
      intro h hh
      rcases List.mem_cons.1 hh with e | e
      · subst e; exact hp x (by simp)
      · exact ih k (fun y hy => hp y (by simp [hy])) h e
theorem nevTo_tots (k : Nat) (L : List Hn) : tots (nevTo k L) = tots L := by
  induction L generalizing k with
  | nil => cases k <;> rfl
  | cons x t ih =>
    cases k with
    | zero => rfl
    | succ k => show hsz (x.1, x.2.1) + tots (nevTo k t) = _; rw [ih]; rfl
theorem nevTo_set (k : Nat) (L : List Hn) (hk : k < L.length) : (hncs (nevTo k L)).set (k * 3 + 2) (.bool true) = hncs (nevTo (k + 1) L) := by
  induction L generalizing k with
  | nil => simp at hk
  | cons x t ih =>
    cases k with
    | zero => cases t <;> rfl
    | succ k =>
      have := ih k (by simpa using hk)
      show ([Value.string x.1, .string x.2.1, .bool true] ++ hncs (nevTo k t)).set ((k + 1) * 3 + 2) (.bool true) = [Value.string x.1, .string x.2.1, .bool true] ++ hncs (nevTo (k + 1) t)
      rw [← this, show (k + 1) * 3 + 2 = (k * 3 + 2) + 3 by omega]
      rfl
theorem tots_small (L : List Hn) (z n : Nat) (hn : L.length ≤ n) (hz : ∀ h ∈ L, hsz (h.1, h.2.1) ≤ z) : tots L ≤ n * z := by
  induction L generalizing n with
  | nil => exact Nat.zero_le _
  | cons x t ih =>
    obtain ⟨m, rfl⟩ : ∃ m, n = m + 1 := ⟨n - 1, by simp at hn; omega⟩
    have h1 := hz x (by simp)
    have h2 := ih m (by simpa using hn) (fun y hy => hz y (by simp [hy]))
    show hsz (x.1, x.2.1) + tots t ≤ (m + 1) * z
    rw [Nat.add_mul, Nat.one_mul]
    omega
theorem hsz_le_tots (L : List Hn) : ∀ h ∈ L, hsz (h.1, h.2.1) ≤ tots L := by
  induction L with
  | nil => intro h hh; simp at hh
  | cons x t ih =>
    intro h hh
    rcases List.mem_cons.1 hh with e | e
    · subst e; exact Nat.le_add_right _ _
    · exact Nat.le_trans (ih h e) (Nat.le_add_left _ _)
end Go.Proofs.YtflmgjidnclegaaDoor.Hpk
