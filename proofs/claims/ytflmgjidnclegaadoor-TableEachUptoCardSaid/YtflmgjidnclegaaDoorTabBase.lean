/-
  The table that moves: what it is in memory, its small functions.
-/
import Derived.Test.YtflmgjidnclegaaDoorUpd
import Derived.Test.YtflmgjidnclegaaDoorTabSame
import Derived.StillTailTactics
import Derived.Deep.LoopGhost
import Derived.IntWalk
namespace Go.Proofs.YtflmgjidnclegaaDoor.Tab
open Go.RowKit
/-- a header: its name and its value -/
abbrev Hd := ByteArray × ByteArray
def hsz (h : Hd) : Nat := h.1.size + h.2.size + 32
/-- how many bytes they count -/
def tot : List Hd → Nat
  | [] => 0
  | h :: t => hsz h + tot t
theorem tot_append (a b : List Hd) : tot (a ++ b) = tot a + tot b := by
  induction a with
  | nil => simp [tot]
  | cons h t ih => simp only [List.cons_append, tot, ih]; omega
theorem tot_len (Q : List Hd) : Q.length * 32 ≤ tot Q := by
  induction Q with
  | nil => simp [tot]
  | cons h t ih => simp only [List.length_cons, tot, hsz]; omega
/-- the ring's cells hold Q, the oldest at o -/
def Ring (cs : Array Value) (o : Nat) (Q : List Hd) : Prop :=
  cs.size = 384 ∧ ∀ (j : Nat) (h : Hd), Q[j]? = some h → cs[(o + j) % 128 * 3]? = some (.string h.1) ∧ cs[(o + j) % 128 * 3 + 1]? = some (.string h.2) ∧ cs[(o + j) % 128 * 3 + 2]? = some (.bool false)
def tcs (r o n s m : Nat) : Array Value := #[.slice (some ⟨r, 0, none⟩) 128 128, .int .i64 (o : Nat), .int .i64 (n : Nat), .int .i64 (s : Nat), .int .i64 (m : Nat)]
/-- a table that moves, in memory: its headers, the oldest first -/
structure Tbl (w : World) (g r o : Nat) (Q : List Hd) (m : Nat) : Prop where
  kg : Blk w g 87 (tcs r o Q.length (tot Q) m)
  kr : ∃ cs, Blk w r 23 cs ∧ Ring cs o Q
  ho : o < 128
  hm : m ≤ 4096
  ht : tot Q ≤ 4096
section
variable {w w' : World} {g r o m : Nat} {Q : List Hd}
theorem Tbl.ne (h : Tbl w g r o Q m) : g ≠ r := by
  obtain ⟨cs, hr, _⟩ := h.kr
  exact h.kg.ne_ hr (by decide)
theorem Tbl.upd {F : Nat → Prop} (h : Tbl w g r o Q m) (u : Upd3 w w' F) (hg : ¬ F g) (hr : ¬ F r) : Tbl w' g r o Q m := by
  obtain ⟨cs, hr1, hr2⟩ := h.kr
  exact ⟨u.blk h.kg hg, ⟨cs, u.blk hr1 hr, hr2⟩, h.ho, h.hm, h.ht⟩
theorem Tbl.below (h : Tbl w g r o Q m) (hb : Below w.heap.size w w') : Tbl w' g r o Q m := h.upd (Upd3.of_below hb (fun _ => False)) id id
theorem Tbl.len (h : Tbl w g r o Q m) : Q.length ≤ 128 := by have := tot_len Q; have := h.ht; omega
end

set_option maxRecDepth 100000 in
/-- how many bytes a header counts, whatever its texts -/
theorem size_wide (n v : ByteArray) (b : Bool) (w : World) :
    Calls Tryd.prog 17 #[.agg #[.string n, .string v, .bool b]] w fun e w' => e = .returned (.int .i64 (wrap64 (wrap64 ((n.size : Int) + (v.size : Int)) + 32))) ∧ Below w.heap.size w w' := by
  go_enter Tryd.func17, Tryd.ntmps17
  go_wp2_with fail
  go_ret
  exact ⟨rfl, (Below.refl _ _).alloc (Nat.le_refl _) _⟩
set_option maxRecDepth 100000 in
theorem size_any (n v : ByteArray) (b : Bool) (s : Nat) (hs : n.size + v.size + 32 = s) (hb : s ≤ 4611686018427387904) (w : World) :
    Calls Tryd.prog 17 #[.agg #[.string n, .string v, .bool b]] w fun e w' => e = .returned (.int .i64 (s : Int)) ∧ Below w.heap.size w w' := by
  have h1 : n.size ≤ 4611686018427387904 := by omega
  have h2 : v.size ≤ 4611686018427387904 := by omega
  go_enter Tryd.func17, Tryd.ntmps17
  go_wp2_with fail
  go_ret
  exact ⟨ret_int (by omega), (Below.refl _ _).alloc (Nat.le_refl _) _⟩
set_option maxRecDepth 100000 in
theorem fits_yes (m : Nat) (hm : m ≤ 4096) (w : World) : Calls Tryd.prog 56 #[.int .i64 (m : Int)] w fun e w' => e = .returned (.bool true) ∧ w = w' := by
  have h2 : decide ((m : Int) ≤ 4096) = true := decide_eq_true (by omega)
  go_enter Tryd.func56, Tryd.ntmps56
  go_wp2_with fail
  go_ret
  exact ⟨rfl, rfl⟩
set_option maxRecDepth 100000 in
theorem fits_no (m : Int) (hm : m < 0 ∨ 4096 < m) (w : World) : Calls Tryd.prog 56 #[.int .i64 m] w fun e w' => e = .returned (.bool false) ∧ w = w' := by
  rcases hm with h | h
  · have h2 : decide ((0 : Int) ≤ m) = false := decide_eq_false (by omega)
    go_enter Tryd.func56, Tryd.ntmps56
    go_wp2_with fail
    go_ret
    exact ⟨rfl, rfl⟩
  · have h1 : decide ((0 : Int) ≤ m) = true := decide_eq_true (by omega)
    have h2 : decide (m ≤ 4096) = false := decide_eq_false (by omega)
    go_enter Tryd.func56, Tryd.ntmps56
    go_wp2_with fail
    go_ret
    exact ⟨rfl, rfl⟩
set_option maxRecDepth 100000 in
theorem len_any {w : World} {g r o m : Nat} {Q : List Hd} (h : Tbl w g r o Q m) : Calls Tryd.prog 23 #[.pointer (some ⟨g, 0, none⟩)] w fun e w' => e = .returned (.int .i64 (Q.length : Int)) ∧ w = w' := by
  have c : w.cell? ⟨g, 2, none⟩ = some (.int .i64 (Q.length : Int)) := h.kg.cell 2
  clear h
  go_enter Tryd.func23, Tryd.ntmps23
  go_wp2_with fail
  go_ret
  exact ⟨rfl, rfl⟩
set_option maxRecDepth 100000 in
theorem tsize_any {w : World} {g r o m : Nat} {Q : List Hd} (h : Tbl w g r o Q m) : Calls Tryd.prog 24 #[.pointer (some ⟨g, 0, none⟩)] w fun e w' => e = .returned (.int .i64 (tot Q : Int)) ∧ w = w' := by
  have c : w.cell? ⟨g, 3, none⟩ = some (.int .i64 (tot Q : Int)) := h.kg.cell 3
  clear h
  go_enter Tryd.func24, Tryd.ntmps24
  go_wp2_with fail
  go_ret
  exact ⟨rfl, rfl⟩
set_option maxRecDepth 100000 in
theorem most_any {w : World} {g r o m : Nat} {Q : List Hd} (h : Tbl w g r o Q m) : Calls Tryd.prog 32 #[.pointer (some ⟨g, 0, none⟩)] w fun e w' => e = .returned (.int .i64 (m : Int)) ∧ w = w' := by
  have c : w.cell? ⟨g, 4, none⟩ = some (.int .i64 (m : Int)) := h.kg.cell 4
  clear h
  go_enter Tryd.func32, Tryd.ntmps32
  go_wp2_with fail
  go_ret
  exact ⟨rfl, rfl⟩
set_option maxRecDepth 100000 in
/-- the place of the i-th newest -/
theorem at_cells {w : World} {g r o q : Nat} (c0 : w.cell? ⟨g, 0, none⟩ = some (.slice (some ⟨r, 0, none⟩) 128 128)) (c1 : w.cell? ⟨g, 1, none⟩ = some (.int .i64 (o : Int))) (c2 : w.cell? ⟨g, 2, none⟩ = some (.int .i64 (q : Int)))
    (ho : o < 128) (hl : q ≤ 128) (i p : Nat) (hi : i < q) (hp : (o + (q - 1 - i)) % 128 = p) :
    Calls Tryd.prog 58 #[.pointer (some ⟨g, 0, none⟩), .int .i64 (i : Int)] w fun e w' => e = .returned (.int .i64 (p : Int)) ∧ ∃ n, w' = w.drewN n := by
  go_enter Tryd.func58, Tryd.ntmps58
  go_wp2_with fail
  go_quiet (fail)
  go_wp2_with fail
  go_ret
  exact ⟨ret_int (by omega), nq, rfl⟩
theorem at_any {w : World} {g r o m : Nat} {Q : List Hd} (h : Tbl w g r o Q m) (i p : Nat) (hi : i < Q.length) (hp : (o + (Q.length - 1 - i)) % 128 = p) :
    Calls Tryd.prog 58 #[.pointer (some ⟨g, 0, none⟩), .int .i64 (i : Int)] w fun e w' => e = .returned (.int .i64 (p : Int)) ∧ ∃ n, w' = w.drewN n :=
  at_cells (h.kg.cell 0) (h.kg.cell 1) (h.kg.cell 2) h.ho h.len i p hi hp
end Go.Proofs.YtflmgjidnclegaaDoor.Tab
