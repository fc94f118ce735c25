/-
  The table that moves: what it is in memory, its small functions.
-/
import Derived.Test.YtflmgjidnclegaaDoorBaseM
import Derived.Test.YtflmgjidnclegaaDoorStatM
import Derived.StillTailTactics
import Derived.Deep.LoopGhost
import Derived.IntWalk
import Derived.Outline
namespace Go.Proofs.YtflmgjidnclegaaDoor.Tab
open Go.RowKit
/-- a header: its name and its value -/
abbrev Hd := ByteArray × ByteArray
def hsz (h : Hd) : Nat := h.1.size + h.2.size + 32
/-- how many bytes they count -/
def tot : List Hd → Nat
  | [] => 0
  | h :: t => hsz h + tot t
theorem tot_append (a b : List Hd) : tot (a ++ b) = tot a + tot b := by
  induction a with
  | nil => simp [tot]
  | cons h t ih => simp only [List.cons_append, tot, ih]; omega
theorem tot_len (Q : List Hd) : Q.length * 32 ≤ tot Q := by
  induction Q with
  | nil => simp [tot]
  | cons h t ih => simp only [List.length_cons, tot, hsz]; omega
/-- the ring's cells hold Q, the oldest at o -/
def Ring (cs : Array Value) (o : Nat) (Q : List Hd) : Prop :=
  cs.size = 384 ∧ ∀ (j : Nat) (h : Hd), Q[j]? = some h → cs[(o + j) % 128 * 3]? = some (.string h.1) ∧ cs[(o + j) % 128 * 3 + 1]? = some (.string h.2) ∧ cs[(o + j) % 128 * 3 + 2]? = some (.bool false)
def tcs (r o n s m : Nat) : Array Value := #[.slice (some ⟨r, 0, none⟩) 128 128, .int .i64 (o : Nat), .int .i64 (n : Nat), .int .i64 (s : Nat), .int .i64 (m : Nat)]
/-- a table that moves, in memory: its headers, the oldest first -/
structure Tbl (w : World) (g r o : Nat) (Q : List Hd) (m : Nat) : Prop where
  kg : Blk w g 87 (tcs r o Q.length (tot Q) m)
  kr : ∃ cs, Blk w r 23 cs ∧ Ring cs o Q
  ho : o < 128
  hm : m ≤ 4096
  ht : tot Q ≤ 4096
section
variable {w w' : World} {g r o m : Nat} {Q : List Hd}
theorem Tbl.ne (h : Tbl w g r o Q m) : g ≠ r := by
  obtain ⟨cs, hr, _⟩ := h.kr
  exact h.kg.ne_ hr (by decide)
theorem Tbl.upd {F : Nat → Prop} (h : Tbl w g r o Q m) (u : Upd3 w w' F) (hg : ¬ F g) (hr : ¬ F r) : Tbl w' g r o Q m := by
  obtain ⟨cs, hr1, hr2⟩ := h.kr
  exact ⟨u.blk h.kg hg, ⟨cs, u.blk hr1 hr, hr2⟩, h.ho, h.hm, h.ht⟩
theorem Tbl.below (h : Tbl w g r o Q m) (hb : Below w.heap.size w w') : Tbl w' g r o Q m := h.upd (Upd3.of_below hb (fun _ => False)) id id
theorem Tbl.len (h : Tbl w g r o Q m) : Q.length ≤ 128 := by have := tot_len Q; have := h.ht; omega
end

set_option maxRecDepth 100000 in
/-- how many bytes a header counts, whatever its texts -/
theorem size_wide (n v : ByteArray) (b : Bool) (w : World) :
    Calls Tryd.prog 17 #[.agg #[.string n, .string v, .bool b]] w fun e w' => e = .returned (.int .i64 (wrap64 (wrap64 ((n.size : Int) + (v.size : Int)) + 32))) ∧ Below w.heap.size w w' := by
  go_enter Tryd.func17, Tryd.ntmps17
  go_wp2_with fail
  go_ret
  exact ⟨rfl, (Below.refl _ _).alloc (Nat.le_refl _) _⟩
set_option maxRecDepth 100000 in
theorem size_any (n v : ByteArray) (b : Bool) (s : Nat) (hs : n.size + v.size + 32 = s) (hb : s ≤ 4611686018427387904) (w : World) :
    Calls Tryd.prog 17 #[.agg #[.string n, .string v, .bool b]] w fun e w' => e = .returned (.int .i64 (s : Int)) ∧ Below w.heap.size w w' := by
  have h1 : n.size ≤ 4611686018427387904 := by omega
  have h2 : v.size ≤ 4611686018427387904 := by omega
  go_enter Tryd.func17, Tryd.ntmps17
  go_wp2_with fail
  go_ret
  exact ⟨ret_int (by omega), (Below.refl _ _).alloc (Nat.le_refl _) _⟩
set_option maxRecDepth 100000 in
theorem fits_yes (m : Nat) (hm : m ≤ 4096) (w : World) : Calls Tryd.prog 56 #[.int .i64 (m : Int)] w fun e w' => e = .returned (.bool true) ∧ w = w' := by
  have h2 : decide ((m : Int) ≤ 4096) = true := decide_eq_true (by omega)
  go_enter Tryd.func56, Tryd.ntmps56
  go_wp2_with fail
  go_ret
  exact ⟨rfl, rfl⟩
set_option maxRecDepth 100000 in
theorem fits_no (m : Int) (hm : m < 0 ∨ 4096 < m) (w : World) : Calls Tryd.prog 56 #[.int .i64 m] w fun e w' => e = .returned (.bool false) ∧ w = w' := by
  rcases hm with h | h
  · have h2 : decide ((0 : Int) ≤ m) = false := decide_eq_false (by omega)
    go_enter Tryd.func56, Tryd.ntmps56
    go_wp2_with fail
    go_ret
    exact ⟨rfl, rfl⟩
  · have h1 : decide ((0 : Int) ≤ m) = true := decide_eq_true (by omega)
    have h2 : decide (m ≤ 4096) = false := decide_eq_false (by omega)
    go_enter Tryd.func56, Tryd.ntmps56
    go_wp2_with fail
    go_ret
    exact ⟨rfl, rfl⟩
set_option maxRecDepth 100000 in
theorem len_any {w : World} {g r o m : Nat} {Q : List Hd} (h : Tbl w g r o Q m) : Calls Tryd.prog 23 #[.pointer (some ⟨g, 0, none⟩)] w fun e w' => e = .returned (.int .i64 (Q.length : Int)) ∧ w = w' := by
  have c : w.cell? ⟨g, 2, none⟩ = some (.int .i64 (Q.length : Int)) := h.kg.cell 2
  clear h
  go_enter Tryd.func23, Tryd.ntmps23
  go_wp2_with fail
  go_ret
  exact ⟨rfl, rfl⟩
set_option maxRecDepth 100000 in
theorem tsize_any {w : World} {g r o m : Nat} {Q : List Hd} (h : Tbl w g r o Q m) : Calls Tryd.prog 24 #[.pointer (some ⟨g, 0, none⟩)] w fun e w' => e = .returned (.int .i64 (tot Q : Int)) ∧ w = w' := by
  have c : w.cell? ⟨g, 3, none⟩ = some (.int .i64 (tot Q : Int)) := h.kg.cell 3
  clear h
  go_enter Tryd.func24, Tryd.ntmps24
  go_wp2_with fail
  go_ret
  exact ⟨rfl, rfl⟩
set_option maxRecDepth 100000 in
theorem most_any {w : World} {g r o m : Nat} {Q : List Hd} (h : Tbl w g r o Q m) : Calls Tryd.prog 32 #[.pointer (some ⟨g, 0, none⟩)] w fun e w' => e = .returned (.int .i64 (m : Int)) ∧ w = w' := by
  have c : w.cell? ⟨g, 4, none⟩ = some (.int .i64 (m : Int)) := h.kg.cell 4
  clear h
  go_enter Tryd.func32, Tryd.ntmps32
  go_wp2_with fail
  go_ret
  exact ⟨rfl, rfl⟩
set_option maxRecDepth 100000 in
/-- the place of the i-th newest -/
theorem at_cells {w : World} {g r o q : Nat} (c0 : w.cell? ⟨g, 0, none⟩ = some (.slice (some ⟨r, 0, none⟩) 128 128)) (c1 : w.cell? ⟨g, 1, none⟩ = some (.int .i64 (o : Int))) (c2 : w.cell? ⟨g, 2, none⟩ = some (.int .i64 (q : Int)))
    (ho : o < 128) (hl : q ≤ 128) (i p : Nat) (hi : i < q) (hp : (o + (q - 1 - i)) % 128 = p) :
    Calls Tryd.prog 58 #[.pointer (some ⟨g, 0, none⟩), .int .i64 (i : Int)] w fun e w' => e = .returned (.int .i64 (p : Int)) ∧ ∃ n, w' = w.drewN n := by
  go_enter Tryd.func58, Tryd.ntmps58
  go_wp2_with fail
  go_quiet (fail)
  go_wp2_with fail
  go_ret
  exact ⟨ret_int (by omega), nq, rfl⟩
theorem at_any {w : World} {g r o m : Nat} {Q : List Hd} (h : Tbl w g r o Q m) (i p : Nat) (hi : i < Q.length) (hp : (o + (Q.length - 1 - i)) % 128 = p) :
    Calls Tryd.prog 58 #[.pointer (some ⟨g, 0, none⟩), .int .i64 (i : Int)] w fun e w' => e = .returned (.int .i64 (p : Int)) ∧ ∃ n, w' = w.drewN n :=
  at_cells (h.kg.cell 0) (h.kg.cell 1) (h.kg.cell 2) h.ho h.len i p hi hp
end Go.Proofs.YtflmgjidnclegaaDoor.Tab
/-
  The walks of table.New and of shrink.
-/
namespace Go.Proofs.YtflmgjidnclegaaDoor.Tab
open Go.RowKit
noncomputable def ring0 : Array Value := madeCells (Value.agg #[.string ByteArray.empty, .string ByteArray.empty, .bool false]).cells 384
theorem infoHd : (Tryd.prog.info? 23).map (fun i => (i.zero, i.size, i.bytes)) = some (some (.agg #[.string ByteArray.empty, .string ByteArray.empty, .bool false]), 3, 40) := by kernel_rfl
set_option maxRecDepth 100000 in
theorem new_yes (m : Nat) (hm : m ≤ 4096) (w : World) :
    Calls Tryd.prog 20 #[.int .i64 (m : Int)] w fun e w' => e = .returned (.tuple #[.pointer (some ⟨w.heap.size + 1, 0, none⟩), .nilIface]) ∧ Below w.heap.size w w' ∧ Tbl w' (w.heap.size + 1) w.heap.size 0 [] m := by
  have hmk : ∀ W : World, (Instr.makeSlice 51 (.int .i64 128) (.int .i64 128)).run Tryd.prog W = .ok (.slice (some ⟨W.heap.size, 0, none⟩) 128 128) (W.alloc (.cells ring0 23)) := by
    intro W
    obtain ⟨i, hi, hi0, hi1, hi2⟩ := info_parts infoHd
    have := run_make_rowN (P := Tryd.prog) 51 23 i (.agg #[.string ByteArray.empty, .string ByteArray.empty, .bool false]) Tryd.underlying51 hi hi0 .i64 .i64 128 128 (Nat.le_refl _) (by rw [hi2]; omega) (by omega) W
    rw [hi1] at this
    exact this
  have hr : ring0.size = 384 := by unfold ring0; kernel_rfl
  generalize ring0 = R at *
  go_enter Tryd.func20, Tryd.ntmps20
  go_wp2_with (refine (fits_yes m hm _).mono ?_; rintro e w' ⟨rfl, rfl⟩)
  go_ret2
  have hb : Below w.heap.size w ((w.alloc (.cells R 23)).alloc (.cells (tcs w.heap.size 0 0 0 m) 87)) := ((Below.refl _ _).alloc (Nat.le_refl _) _).alloc (by simp) _
  have hg : Blk ((w.alloc (.cells R 23)).alloc (.cells (tcs w.heap.size 0 0 0 m) 87)) (w.heap.size + 1) 87 (tcs w.heap.size 0 0 0 m) := by
    have := Blk.new (w.alloc (.cells R 23)) 87 (tcs w.heap.size 0 0 0 m)
    simpa using this
  exact ⟨rfl, hb, ⟨hg, ⟨R, (Blk.new w _ R).alloc _, hr, fun j h hj => by simp at hj⟩, by omega, hm, by simp [tot]⟩⟩
set_option maxRecDepth 100000 in
theorem new_no (m : Int) (hm : m < 0 ∨ 4096 < m) (ev : Value) (w : World) (hv : w.cell? ⟨0, 0, none⟩ = some ev) :
    Calls Tryd.prog 20 #[.int .i64 m] w fun e w' => e = .returned (.tuple #[.pointer none, ev]) ∧ ∃ n, w' = w.drewN n := by
  have HF := Lib.hid (fun w => fits_no m hm w)
  clear hm
  go_enter Tryd.func20, Tryd.ntmps20
  go_wp2_with (refine (HF.out _).mono ?_; rintro e w' ⟨rfl, rfl⟩)
  go_quiet (fail)
  go_wp2_with fail
  go_ret2
  exact ⟨rfl, nq, rfl⟩
end Go.Proofs.YtflmgjidnclegaaDoor.Tab
/-
  The walk of shrink: the oldest go.
-/
namespace Go.Proofs.YtflmgjidnclegaaDoor.Tab
open Go.RowKit
/-- what stays where there may be so many bytes -/
def shr (k : Int) : List Hd → List Hd
  | [] => []
  | h :: t => if k < (tot (h :: t) : Int) then shr k t else h :: t
theorem shr_go {k : Int} {h : Hd} {t : List Hd} (hk : k < (tot (h :: t) : Int)) : shr k (h :: t) = shr k t := by rw [shr, if_pos hk]
theorem shr_stay {k : Int} {h : Hd} {t : List Hd} (hk : ¬ k < (tot (h :: t) : Int)) : shr k (h :: t) = h :: t := by rw [shr, if_neg hk]
theorem Ring.head {cs : Array Value} {o : Nat} {h : Hd} {t : List Hd} (hr : Ring cs o (h :: t)) (ho : o < 128) : cs[o * 3]? = some (.string h.1) ∧ cs[o * 3 + 1]? = some (.string h.2) ∧ cs[o * 3 + 2]? = some (.bool false) := by
  have := hr.2 0 h rfl
  rwa [Nat.add_zero, Nat.mod_eq_of_lt ho] at this
theorem Ring.tail {cs : Array Value} {o : Nat} {h : Hd} {t : List Hd} (hr : Ring cs o (h :: t)) (hl : t.length < 128) :
    Ring (((cs.setIfInBounds (o * 3) (.string ⟨#[]⟩)).setIfInBounds (o * 3 + 1) (.string ⟨#[]⟩)).setIfInBounds (o * 3 + 2) (.bool false)) ((o + 1) % 128) t := by
  refine ⟨by simpa using hr.1, fun j x hj => ?_⟩
  have hjl : j < t.length := (List.getElem?_eq_some_iff.1 hj).1
  have e : ((o + 1) % 128 + j) % 128 = (o + (j + 1)) % 128 := by omega
  have hne : (o + (j + 1)) % 128 ≠ o := by omega
  obtain ⟨a, b, c⟩ := hr.2 (j + 1) x (by simpa using hj)
  rw [e]
  refine ⟨?_, ?_, ?_⟩
  · rw [Array.getElem?_setIfInBounds_ne (by omega), Array.getElem?_setIfInBounds_ne (by omega), Array.getElem?_setIfInBounds_ne (by omega)]; exact a
  · rw [Array.getElem?_setIfInBounds_ne (by omega), Array.getElem?_setIfInBounds_ne (by omega), Array.getElem?_setIfInBounds_ne (by omega)]; exact b
  · rw [Array.getElem?_setIfInBounds_ne (by omega), Array.getElem?_setIfInBounds_ne (by omega), Array.getElem?_setIfInBounds_ne (by omega)]; exact c
/-- where the loop stands -/
def ShrAt (w : World) (g r m : Nat) (k : Int) (Q : List Hd) (n : Nat) (wr : World) : Prop := ∃ (o : Nat) (Q' : List Hd), Q'.length = n ∧ Tbl wr g r o Q' m ∧ shr k Q' = shr k Q ∧ Upd3 w wr (fun i => i = g ∨ i = r)
def ShrEnd (w : World) (g r m : Nat) (k : Int) (Q : List Hd) (w' : World) : Prop := ∃ o : Nat, Tbl w' g r o (shr k Q) m ∧ Upd3 w w' (fun i => i = g ∨ i = r)
set_option maxRecDepth 100000 in
set_option maxHeartbeats 1000000 in
theorem shrink_any {w : World} {g r o m : Nat} {Q : List Hd} (h : Tbl w g r o Q m) (k : Int) :
    Calls Tryd.prog 57 #[.pointer (some ⟨g, 0, none⟩), .int .i64 k] w fun e w' => e = .returned (.tuple #[]) ∧ ShrEnd w g r m k Q w' := by
  have H0 := Lib.hid (⟨o, Q, rfl, h, rfl, Upd3.refl w _⟩ : ShrAt w g r m k Q Q.length w)
  clear h
  go_enter Tryd.func57, Tryd.ntmps57
  go_wp2_with fail
  go_loopg [] Q.length (fun n wr => ShrAt w g r m k Q n wr)
  case atStart => exact H0.out
  case round =>
    clear H0
    obtain ⟨o, Q', rfl, hT, hs, hu⟩ := hrel
    have hne := hT.ne
    rcases Q' with _ | ⟨x, t⟩
    · have c2 : wr.cell? ⟨g, 2, none⟩ = some (.int .i64 0) := hT.kg.cell 2
      have HE := Lib.hid (⟨o, by rw [← hs]; exact hT, hu⟩ : ShrEnd w g r m k Q wr)
      clear hT hs hu
      go_wp2_with fail
      go_end0
      exact ⟨rfl, HE.out⟩
    · obtain ⟨cs, hr, hR⟩ := hT.kr
      have hg := hT.kg
      have ho := hT.ho
      have hl : t.length < 128 := hT.len
      have ht := hT.ht
      have hm := hT.hm
      have c2 : wr.cell? ⟨g, 2, none⟩ = some (.int .i64 ((t.length + 1 : Nat) : Int)) := hg.cell 2
      have c3 : wr.cell? ⟨g, 3, none⟩ = some (.int .i64 (tot (x :: t) : Int)) := hg.cell 3
      have hd2 : decide (((t.length + 1 : Nat) : Int) > 0) = true := decide_eq_true (by omega)
      by_cases hk : k < (tot (x :: t) : Int)
      · rw [shr_go hk] at hs
        have hd3 : decide ((tot (x :: t) : Int) > k) = true := decide_eq_true hk
        go_wp2_with fail
        have c0 : wr.cell? ⟨g, 0, none⟩ = some (.slice (some ⟨r, 0, none⟩) 128 128) := hg.cell 0
        have c1 : wr.cell? ⟨g, 1, none⟩ = some (.int .i64 (o : Int)) := hg.cell 1
        obtain ⟨a0, a1, a2⟩ := hR.head ho
        have r0 : wr.cell? ⟨r, o * 3, none⟩ = some (.string x.1) := (hr.cell _).trans a0
        have r1 : wr.cell? ⟨r, o * 3 + 1, none⟩ = some (.string x.2) := (hr.cell _).trans a1
        have r2 : wr.cell? ⟨r, o * 3 + 2, none⟩ = some (.bool false) := (hr.cell _).trans a2
        have htx : tot (x :: t) = hsz x + tot t := rfl
        have HS := Lib.hid (fun W : World => size_any x.1 x.2 false (hsz x) rfl (by omega) W)
        have HTX := Lib.hid htx
        have hle : hsz x ≤ tot (x :: t) := by omega
        have ho' : (o : Int) < 128 := by omega
        clear htx
        generalize tot (x :: t) = T at *
        generalize hsz x = sx at *
        refine wp_region_in_tail 18 (Since wr) (Since.drew0 wr) (by kernel_rfl) (by kernel_rfl) ?_
        simp only [List.take_succ_cons, List.take_zero, List.drop_succ_cons, List.drop_zero]
        repeat (first
          | go_big_quiet_skip
          | (go_big_quiet_want; go_big_quiet_op; go_big_quiet_on)
          | (go_big_quiet_want; apply in_val; (· intro W hW; have d0 := hW.cell c0; have d1 := hW.cell c1; have d2 := hW.cell c3; have d3 := hW.cell r0; have d4 := hW.cell r1; have d5 := hW.cell r2; go_simp; first | done | rfl); simp only [Act.put, List.setIfInBounds_toArray, List.set_cons_zero, List.set_cons_succ]; go_big_quiet_on)
          | (go_big_quiet_want; apply in_q; (· intro W hW; go_simp; (go_at_call 17; with_reducible exact hW.call (HS.out W))); simp only [Act.put, List.setIfInBounds_toArray, List.set_cons_zero, List.set_cons_succ]; go_big_quiet_on))
        refine wpQuiet_nil ?_
        intro W1 hW1
        have hg1 := hg.below hW1 hg.lt
        have hr1 := hr.below hW1 hr.lt
        have hu1 := hu.since hW1
        have f3 := hg1.frozen 3
        have b3 : W1.cell? ⟨g, 3, none⟩ = some (.int .i64 (T : Int)) := hg1.cell 3
        go_wp2_with fail
        have hg2 := hg1.set_ 3 (.int .i64 ((T : Int) - (sx : Int)))
        have hr2 := hr1.far (p := ⟨g, 3, none⟩) (Ne.symm hne) (.int .i64 ((T : Int) - (sx : Int)))
        have hu2 := hu1.setCell (p := ⟨g, 3, none⟩) (Or.inl (Or.inl rfl)) (.int .i64 ((T : Int) - (sx : Int)))
        clear f3 b3 hg1 hr1 hu1 hW1 c0 c1 c3 r0 r1 r2 hg hr hu
        generalize W1.setCell ⟨g, 3, none⟩ (.int .i64 ((T : Int) - (sx : Int))) = W2 at *
        have c0 : W2.cell? ⟨g, 0, none⟩ = some (.slice (some ⟨r, 0, none⟩) 128 128) := hg2.cell 0
        have c1 : W2.cell? ⟨g, 1, none⟩ = some (.int .i64 (o : Int)) := hg2.cell 1
        refine wp_region_in_tail 10 (Since W2) (Since.drew0 W2) (by kernel_rfl) (by kernel_rfl) ?_
        simp only [List.take_succ_cons, List.take_zero, List.drop_succ_cons, List.drop_zero]
        repeat (first
          | go_big_quiet_skip
          | (go_big_quiet_want; go_big_quiet_op; go_big_quiet_on)
          | (go_big_quiet_want; apply in_val; (· intro W hW; have d0 := hW.cell c0; have d1 := hW.cell c1; go_simp; first | done | rfl); simp only [Act.put, List.setIfInBounds_toArray, List.set_cons_zero, List.set_cons_succ]; go_big_quiet_on))
        refine wpQuiet_nil ?_
        intro W3 hW3
        have hg3 := hg2.below hW3 hg2.lt
        have hr3 := hr2.below hW3 hr2.lt
        have hu3 := hu2.since hW3
        have f0 := hr3.frozen (o * 3)
        have f1 := hr3.frozen (o * 3 + 1)
        have f2 := hr3.frozen (o * 3 + 2)
        have r0 : W3.cell? ⟨r, o * 3, none⟩ = some (.string x.1) := (hr3.cell _).trans a0
        have r1 : W3.cell? ⟨r, o * 3 + 1, none⟩ = some (.string x.2) := (hr3.cell _).trans a1
        have r2 : W3.cell? ⟨r, o * 3 + 2, none⟩ = some (.bool false) := (hr3.cell _).trans a2
        go_wp2_with fail
        have hg4 := ((hg3.far (p := ⟨r, o * 3, none⟩) hne (.string ⟨#[]⟩)).far (p := ⟨r, o * 3 + 1, none⟩) hne (.string ⟨#[]⟩)).far (p := ⟨r, o * 3 + 2, none⟩) hne (.bool false)
        have hr4 := ((hr3.set_ (o * 3) (.string ⟨#[]⟩)).set_ (o * 3 + 1) (.string ⟨#[]⟩)).set_ (o * 3 + 2) (.bool false)
        have hu4 := ((hu3.setCell (p := ⟨r, o * 3, none⟩) (Or.inl (Or.inr rfl)) (.string ⟨#[]⟩)).setCell (p := ⟨r, o * 3 + 1, none⟩) (Or.inl (Or.inr rfl)) (.string ⟨#[]⟩)).setCell (p := ⟨r, o * 3 + 2, none⟩) (Or.inl (Or.inr rfl)) (.bool false)
        clear f0 f1 f2 r0 r1 r2 hg3 hr3 hu3 hW3 c0 c1 hg2 hr2 hu2
        generalize ((W3.setCell ⟨r, o * 3, none⟩ (.string ⟨#[]⟩)).setCell ⟨r, o * 3 + 1, none⟩ (.string ⟨#[]⟩)).setCell ⟨r, o * 3 + 2, none⟩ (.bool false) = W4 at *
        have c0 : W4.cell? ⟨g, 0, none⟩ = some (.slice (some ⟨r, 0, none⟩) 128 128) := hg4.cell 0
        have c1 : W4.cell? ⟨g, 1, none⟩ = some (.int .i64 (o : Int)) := hg4.cell 1
        refine wp_region_in_tail 14 (Since W4) (Since.drew0 W4) (by kernel_rfl) (by kernel_rfl) ?_
        simp only [List.take_succ_cons, List.take_zero, List.drop_succ_cons, List.drop_zero]
        repeat (first
          | go_big_quiet_skip
          | (go_big_quiet_want; go_big_quiet_op; go_big_quiet_on)
          | (go_big_quiet_want; apply in_val; (· intro W hW; have d0 := hW.cell c0; have d1 := hW.cell c1; go_simp; first | done | rfl); simp only [Act.put, List.setIfInBounds_toArray, List.set_cons_zero, List.set_cons_succ]; go_big_quiet_on))
        refine wpQuiet_nil ?_
        intro W5 hW5
        have hg5 := hg4.below hW5 hg4.lt
        have hr5 := hr4.below hW5 hr4.lt
        have hu5 := hu4.since hW5
        have f1 := hg5.frozen 1
        have b1 : W5.cell? ⟨g, 1, none⟩ = some (.int .i64 (o : Int)) := hg5.cell 1
        have f2 := hg5.frozen 2
        have b2 : W5.cell? ⟨g, 2, none⟩ = some (.int .i64 ((t.length + 1 : Nat) : Int)) := hg5.cell 2
        go_wp2_with fail
        go_roundg t.length
        case measure => simp
        case rel =>
          have hg6 := (hg5.set_ 1 (.int .i64 (((o : Int) + 1) % 128))).set_ 2 (.int .i64 (t.length : Int))
          have hr6 := (hr5.far (p := ⟨g, 1, none⟩) (Ne.symm hne) (.int .i64 (((o : Int) + 1) % 128))).far (p := ⟨g, 2, none⟩) (Ne.symm hne) (.int .i64 (t.length : Int))
          have hu6 := (hu5.setCell (p := ⟨g, 1, none⟩) (Or.inl (Or.inl rfl)) (.int .i64 (((o : Int) + 1) % 128))).setCell (p := ⟨g, 2, none⟩) (Or.inl (Or.inl rfl)) (.int .i64 (t.length : Int))
          have hTX := HTX.out
          refine ⟨(o + 1) % 128, t, rfl, ⟨?_, ⟨_, hr6, hR.tail hl⟩, by omega, hm, by omega⟩, ?_, hu6⟩
          · rw [show tcs r ((o + 1) % 128) t.length (tot t) m = (((tcs r o (x :: t).length T m).setIfInBounds 3 (.int .i64 ((T : Int) - (sx : Int)))).setIfInBounds 1 (.int .i64 (((o : Int) + 1) % 128))).setIfInBounds 2 (.int .i64 (t.length : Int)) by
              have e1 : ((T : Int) - (sx : Int)) = ((tot t : Nat) : Int) := by omega
              have e2 : (((o : Int) + 1) % 128) = (((o + 1) % 128 : Nat) : Int) := by omega
              rw [e1, e2]
              rfl]
            exact hg6
          · exact hs
      · have HE := Lib.hid (⟨o, by rw [← hs, shr_stay hk]; exact hT, hu⟩ : ShrEnd w g r m k Q wr)
        have hd3 : decide ((tot (x :: t) : Int) > k) = false := decide_eq_false hk
        clear hT hs hu hg hr hR
        go_wp2_with fail
        go_end0
        exact ⟨rfl, HE.out⟩
end Go.Proofs.YtflmgjidnclegaaDoor.Tab
/-
  The walk of Add.
-/
namespace Go.Proofs.YtflmgjidnclegaaDoor.Tab
open Go.RowKit
theorem shr_le {k : Int} (hk : 0 ≤ k) (Q : List Hd) : (tot (shr k Q) : Int) ≤ k := by
  induction Q with
  | nil => simpa [shr, tot] using hk
  | cons h t ih =>
    unfold shr
    split
    · exact ih
    · omega
theorem shr_neg {k : Int} (hk : k < 0) (Q : List Hd) : shr k Q = [] := by
  induction Q with
  | nil => rfl
  | cons h t ih => rw [shr_go (by omega), ih]
/-- what a table holds behind Add -/
def addQ (m : Nat) (h : Hd) (Q : List Hd) : List Hd := if hsz h ≤ m then shr ((m : Int) - (hsz h : Int)) Q ++ [h] else []
theorem Ring.add {cs : Array Value} {o : Nat} {h : Hd} {Q : List Hd} (hr : Ring cs o Q) (hl : Q.length < 128) (p : Nat) (hp : (o + Q.length) % 128 = p) :
    Ring (((cs.setIfInBounds (p * 3) (.string h.1)).setIfInBounds (p * 3 + 1) (.string h.2)).setIfInBounds (p * 3 + 2) (.bool false)) o (Q ++ [h]) := by
  subst hp
  refine ⟨by simpa using hr.1, fun j x hj => ?_⟩
  have hsz := hr.1
  by_cases hjl : j < Q.length
  · rw [List.getElem?_append_left hjl] at hj
    have hne : (o + j) % 128 ≠ (o + Q.length) % 128 := by omega
    obtain ⟨a, b, c⟩ := hr.2 j x hj
    refine ⟨?_, ?_, ?_⟩
    · rw [Array.getElem?_setIfInBounds_ne (by omega), Array.getElem?_setIfInBounds_ne (by omega), Array.getElem?_setIfInBounds_ne (by omega)]; exact a
    · rw [Array.getElem?_setIfInBounds_ne (by omega), Array.getElem?_setIfInBounds_ne (by omega), Array.getElem?_setIfInBounds_ne (by omega)]; exact b
    · rw [Array.getElem?_setIfInBounds_ne (by omega), Array.getElem?_setIfInBounds_ne (by omega), Array.getElem?_setIfInBounds_ne (by omega)]; exact c
  · have hjlt : j < (Q ++ [h]).length := (List.getElem?_eq_some_iff.1 hj).1
    rw [List.length_append, List.length_singleton] at hjlt
    obtain rfl : j = Q.length := by omega
    rw [List.getElem?_append_right (Nat.le_refl _), Nat.sub_self] at hj
    obtain rfl : h = x := by simpa using hj
    refine ⟨?_, ?_, ?_⟩
    · rw [Array.getElem?_setIfInBounds_ne (by omega), Array.getElem?_setIfInBounds_ne (by omega), Array.getElem?_setIfInBounds_self_of_lt (by omega)]
    · rw [Array.getElem?_setIfInBounds_ne (by omega), Array.getElem?_setIfInBounds_self_of_lt (by simp; omega)]
    · rw [Array.getElem?_setIfInBounds_self_of_lt (by simp; omega)]
theorem at_newest {w : World} {g r o q : Nat} (c0 : w.cell? ⟨g, 0, none⟩ = some (.slice (some ⟨r, 0, none⟩) 128 128)) (c1 : w.cell? ⟨g, 1, none⟩ = some (.int .i64 (o : Int))) (c2 : w.cell? ⟨g, 2, none⟩ = some (.int .i64 ((q + 1 : Nat) : Int)))
    (ho : o < 128) (hl : q + 1 ≤ 128) (p : Nat) (hp : (o + q) % 128 = p) :
    Calls Tryd.prog 58 #[.pointer (some ⟨g, 0, none⟩), .int .i64 0] w fun e w' => e = .returned (.int .i64 (p : Int)) ∧ ∃ n, w' = w.drewN n :=
  at_cells c0 c1 c2 ho hl 0 p (by omega) (by rw [← hp, Nat.add_sub_cancel, Nat.sub_zero])
def AddEnd (w : World) (g r m : Nat) (h : Hd) (Q : List Hd) (w' : World) : Prop := ∃ o : Nat, Tbl w' g r o (addQ m h Q) m ∧ Upd3 w w' (fun i => i = g ∨ i = r)
set_option maxRecDepth 100000 in
set_option maxHeartbeats 2000000 in
theorem add_any {w : World} {g r o m : Nat} {Q : List Hd} (h : Tbl w g r o Q m) (n v : ByteArray) (nv : Bool) (hb : hsz (n, v) ≤ 4611686018427387904) :
    Calls Tryd.prog 21 #[.pointer (some ⟨g, 0, none⟩), .agg #[.string n, .string v, .bool nv]] w fun e w' => e = .returned (.tuple #[]) ∧ AddEnd w g r m (n, v) Q w' := by
  have HS := Lib.hid (fun (b : Bool) (W : World) => size_any n v b (hsz (n, v)) rfl hb W)
  have HE := Lib.hid (fun w' : World => (Iff.rfl : AddEnd w g r m (n, v) Q w' ↔ AddEnd w g r m (n, v) Q w'))
  have hT := h.below ((Below.refl w.heap.size w).alloc (Nat.le_refl _) (.cells #[.string n, .string v, .bool nv] 23))
  have hk := Blk.new w 23 #[.string n, .string v, .bool nv]
  have hu := (Upd3.refl w (fun i => i = g ∨ i = r)).alloc (.cells #[.string n, .string v, .bool nv] 23)
  have hgl := h.kg.lt
  have hrl : r < w.heap.size := h.kr.elim fun _ hx => hx.1.lt
  have hm := h.hm
  have hne := h.ne
  clear h HE
  go_enter Tryd.func21, Tryd.ntmps21
  go_wp2_with fail
  generalize w.alloc (.cells #[.string n, .string v, .bool nv] 23) = W0 at *
  obtain ⟨b, hbb⟩ : ∃ b, b = w.heap.size := ⟨_, rfl⟩
  rw [← hbb] at hk hgl hrl ⊢
  have HBB := Lib.hid hbb
  clear hbb
  have c4 : W0.cell? ⟨g, 4, none⟩ = some (.int .i64 (m : Int)) := hT.kg.cell 4
  have k0 : W0.cell? ⟨b, 0, none⟩ = some (.string n) := hk.cell 0
  have k1 : W0.cell? ⟨b, 1, none⟩ = some (.string v) := hk.cell 1
  have k2 : W0.cell? ⟨b, 2, none⟩ = some (.bool nv) := hk.cell 2
  have HSN := Lib.hid (HS.out nv)
  have hm' : (m : Int) ≤ 4096 := by omega
  generalize hsx : hsz (n, v) = sx at *
  have HSX := Lib.hid hsx
  clear hsx
  have hwr : IntKind.i64.wrap ((m : Int) - (sx : Int)) = (m : Int) - (sx : Int) := IntWalk.i64_in _ (by omega)
  refine wp_region_in_tail 8 (Since W0) (Since.drew0 W0) (by kernel_rfl) (by kernel_rfl) ?_
  simp only [List.take_succ_cons, List.take_zero, List.drop_succ_cons, List.drop_zero]
  repeat (first
    | go_big_quiet_skip
    | (go_big_quiet_want; go_big_quiet_op; go_big_quiet_on)
    | (go_big_quiet_want; apply in_val; (· intro W hW; have d0 := hW.cell c4; have d1 := hW.cell k0; have d2 := hW.cell k1; have d3 := hW.cell k2; go_simp; first | done | rfl); simp only [Act.put, List.setIfInBounds_toArray, List.set_cons_zero, List.set_cons_succ]; go_big_quiet_on)
    | (go_big_quiet_want; apply in_q; (· intro W hW; go_simp; (go_at_call 17; with_reducible exact hW.call (HSN.out W))); simp only [Act.put, List.setIfInBounds_toArray, List.set_cons_zero, List.set_cons_succ]; go_big_quiet_on))
  refine wpQuiet_nil ?_
  intro W1 hW1
  go_wp2_with fail
  refine (shrink_any (hT.below hW1) _).mono ?_
  rintro e W2 ⟨rfl, o2, hT2, hu2⟩
  have hgb : ¬ (b = g ∨ b = r) := by omega
  have hk2 := hu2.blk (hk.below hW1 hk.lt) hgb
  have hu2 := (hu.since hW1).trans hu2 (fun _ h => Or.inl h)
  clear hW1 c4 k0 k1 k2 hk hT hu
  go_wp2_with fail
  have c4 : W2.cell? ⟨g, 4, none⟩ = some (.int .i64 (m : Int)) := hT2.kg.cell 4
  have k0 : W2.cell? ⟨b, 0, none⟩ = some (.string n) := hk2.cell 0
  have k1 : W2.cell? ⟨b, 1, none⟩ = some (.string v) := hk2.cell 1
  have k2 : W2.cell? ⟨b, 2, none⟩ = some (.bool nv) := hk2.cell 2
  by_cases hsm : m < sx
  · have hd : decide ((sx : Int) > (m : Int)) = true := decide_eq_true (by omega)
    have HD := Lib.hid (⟨o2, by rw [addQ, HSX.out, if_neg (by omega)]; rw [shr_neg (by omega)] at hT2; exact hT2⟩ : ∃ o, Tbl W2 g r o (addQ m (n, v) Q) m)
    have HU := Lib.hid hu2
    clear hT2 hu2
    refine wp_region_in (Since W2) (Since.drew0 W2) (by kernel_rfl) (by kernel_rfl) ?_
    repeat (first
      | go_big_quiet_skip
      | (go_big_quiet_want; go_big_quiet_op; go_big_quiet_on)
      | (go_big_quiet_want; apply in_val; (· intro W hW; have d0 := hW.cell c4; have d1 := hW.cell k0; have d2 := hW.cell k1; have d3 := hW.cell k2; go_simp; first | done | rfl); simp only [Act.put, List.setIfInBounds_toArray, List.set_cons_zero, List.set_cons_succ]; go_big_quiet_on)
      | (go_big_quiet_want; apply in_q; (· intro W hW; go_simp; (go_at_call 17; with_reducible exact hW.call (HSN.out W))); simp only [Act.put, List.setIfInBounds_toArray, List.set_cons_zero, List.set_cons_succ]; go_big_quiet_on))
    refine wpQuiet_nil ?_
    intro W3 hW3
    go_wp2_with fail
    refine bodyPost_ret (results_none (by rfl) _ _ _) rfl ?_
    obtain ⟨o3, hT3⟩ := HD.out
    exact ⟨rfl, o3, hT3.below hW3, HU.out.since hW3⟩
  · have hd : decide ((sx : Int) > (m : Int)) = false := decide_eq_false (by omega)
    have hle := shr_le (k := (m : Int) - (sx : Int)) (by omega) Q
    have HA := Lib.hid (show addQ m (n, v) Q = shr ((m : Int) - (sx : Int)) Q ++ [(n, v)] by rw [addQ, HSX.out, if_pos (by omega)])
    generalize shr ((m : Int) - (sx : Int)) Q = R at *
    refine wp_region_in (Since W2) (Since.drew0 W2) (by kernel_rfl) (by kernel_rfl) ?_
    repeat (first
      | go_big_quiet_skip
      | (go_big_quiet_want; go_big_quiet_op; go_big_quiet_on)
      | (go_big_quiet_want; apply in_val; (· intro W hW; have d0 := hW.cell c4; have d1 := hW.cell k0; have d2 := hW.cell k1; have d3 := hW.cell k2; go_simp; first | done | rfl); simp only [Act.put, List.setIfInBounds_toArray, List.set_cons_zero, List.set_cons_succ]; go_big_quiet_on)
      | (go_big_quiet_want; apply in_q; (· intro W hW; go_simp; (go_at_call 17; with_reducible exact hW.call (HSN.out W))); simp only [Act.put, List.setIfInBounds_toArray, List.set_cons_zero, List.set_cons_succ]; go_big_quiet_on))
    refine wpQuiet_nil ?_
    intro W3 hW3
    have hT3 := hT2.below hW3
    have hk3 := hk2.below hW3 hk2.lt
    have hu3 := hu2.since hW3
    clear hW3 c4 k0 k1 k2 hk2 hT2 hu2
    obtain ⟨cs, hr3, hR⟩ := hT3.kr
    have hg3 := hT3.kg
    have ho := hT3.ho
    have hrl2 : R.length * 32 ≤ tot R := tot_len R
    have hl : R.length < 128 := by have := HSX.out; simp only [hsz] at this; omega
    clear hrl2
    have c2 : W3.cell? ⟨g, 2, none⟩ = some (.int .i64 (R.length : Int)) := hg3.cell 2
    have f2 := hg3.frozen 2
    have k2 : W3.cell? ⟨b, 2, none⟩ = some (.bool nv) := hk3.cell 2
    have e2 := hk3.frozen 2
    go_wp2_with fail
    have hbr : b ≠ r := by omega
    have hbg : b ≠ g := by omega
    have hg4 := (hg3.set_ 2 (.int .i64 ((R.length : Int) + 1))).far (p := ⟨b, 2, none⟩) (Ne.symm hbg) (.bool false)
    have hr4 := (hr3.far (p := ⟨g, 2, none⟩) (Ne.symm hne) (.int .i64 ((R.length : Int) + 1))).far (p := ⟨b, 2, none⟩) (Ne.symm hbr) (.bool false)
    have hk4 := (hk3.far (p := ⟨g, 2, none⟩) hbg (.int .i64 ((R.length : Int) + 1))).set_ 2 (.bool false)
    have hu4 := (hu3.setCell (p := ⟨g, 2, none⟩) (Or.inl (Or.inl rfl)) (.int .i64 ((R.length : Int) + 1))).setCell (p := ⟨b, 2, none⟩) (Or.inr (Nat.le_of_eq HBB.out.symm)) (.bool false)
    clear c2 f2 k2 e2 hg3 hr3 hk3 hu3 hT3
    generalize (W3.setCell ⟨g, 2, none⟩ (.int .i64 ((R.length : Int) + 1))).setCell ⟨b, 2, none⟩ (.bool false) = W4 at *
    obtain ⟨p, hpe, hp⟩ : ∃ p : Nat, (o2 + R.length) % 128 = p ∧ p < 128 := ⟨_, rfl, by omega⟩
    have c0 : W4.cell? ⟨g, 0, none⟩ = some (.slice (some ⟨r, 0, none⟩) 128 128) := hg4.cell 0
    have c1 : W4.cell? ⟨g, 1, none⟩ = some (.int .i64 (o2 : Int)) := hg4.cell 1
    have c2 : W4.cell? ⟨g, 2, none⟩ = some (.int .i64 ((R.length + 1 : Nat) : Int)) := hg4.cell 2
    have k0 : W4.cell? ⟨b, 0, none⟩ = some (.string n) := hk4.cell 0
    have k1 : W4.cell? ⟨b, 1, none⟩ = some (.string v) := hk4.cell 1
    have k2 : W4.cell? ⟨b, 2, none⟩ = some (.bool false) := hk4.cell 2
    have HAt := Lib.hid (fun (W : World) (hW : Since W4 W) => at_newest (hW.cell c0) (hW.cell c1) (hW.cell c2) ho (by omega) p hpe)
    have hp' : (p : Int) < 128 := by omega
    have HPE := Lib.hid hpe
    clear hpe c1 c2
    refine wp_region_in_tail 8 (Since W4) (Since.drew0 W4) (by kernel_rfl) (by kernel_rfl) ?_
    simp only [List.take_succ_cons, List.take_zero, List.drop_succ_cons, List.drop_zero]
    repeat (first
      | go_big_quiet_skip
      | (go_big_quiet_want; go_big_quiet_op; go_big_quiet_on)
      | (go_big_quiet_want; apply in_val; (· intro W hW; have d0 := hW.cell c0; have d1 := hW.cell k0; have d2 := hW.cell k1; have d3 := hW.cell k2; go_simp; first | done | rfl); simp only [Act.put, List.setIfInBounds_toArray, List.set_cons_zero, List.set_cons_succ]; go_big_quiet_on)
      | (go_big_quiet_want; apply in_q; (· intro W hW; go_simp; (go_at_call 58; with_reducible exact hW.callN (HAt.out W hW))); simp only [Act.put, List.setIfInBounds_toArray, List.set_cons_zero, List.set_cons_succ]; go_big_quiet_on))
    refine wpQuiet_nil ?_
    intro W5 hW5
    have hg5 := hg4.below hW5 hg4.lt
    have hr5 := hr4.below hW5 hr4.lt
    have hk5 := hk4.below hW5 hk4.lt
    have hu5 := hu4.since hW5
    have f0 := hr5.frozen (p * 3)
    have f1 := hr5.frozen (p * 3 + 1)
    have f2 := hr5.frozen (p * 3 + 2)
    have hcs := hR.1
    obtain ⟨v0, a0⟩ : ∃ v, W5.cell? ⟨r, p * 3, none⟩ = some v := ⟨_, (hr5.cell _).trans (Array.getElem?_eq_getElem (by omega))⟩
    obtain ⟨v1, a1⟩ : ∃ v, W5.cell? ⟨r, p * 3 + 1, none⟩ = some v := ⟨_, (hr5.cell _).trans (Array.getElem?_eq_getElem (by omega))⟩
    obtain ⟨v2, a2⟩ : ∃ v, W5.cell? ⟨r, p * 3 + 2, none⟩ = some v := ⟨_, (hr5.cell _).trans (Array.getElem?_eq_getElem (by omega))⟩
    clear hcs
    go_wp2_with fail
    have hg6 := ((hg5.far (p := ⟨r, p * 3, none⟩) hne (.string n)).far (p := ⟨r, p * 3 + 1, none⟩) hne (.string v)).far (p := ⟨r, p * 3 + 2, none⟩) hne (.bool false)
    have hr6 := ((hr5.set_ (p * 3) (.string n)).set_ (p * 3 + 1) (.string v)).set_ (p * 3 + 2) (.bool false)
    have hk6 := ((hk5.far (p := ⟨r, p * 3, none⟩) hbr (.string n)).far (p := ⟨r, p * 3 + 1, none⟩) hbr (.string v)).far (p := ⟨r, p * 3 + 2, none⟩) hbr (.bool false)
    have hu6 := ((hu5.setCell (p := ⟨r, p * 3, none⟩) (Or.inl (Or.inr rfl)) (.string n)).setCell (p := ⟨r, p * 3 + 1, none⟩) (Or.inl (Or.inr rfl)) (.string v)).setCell (p := ⟨r, p * 3 + 2, none⟩) (Or.inl (Or.inr rfl)) (.bool false)
    clear f0 f1 f2 a0 a1 a2 hg5 hr5 hk5 hu5 hW5 c0 k0 k1 k2 hg4 hr4 hk4 hu4
    generalize ((W5.setCell ⟨r, p * 3, none⟩ (.string n)).setCell ⟨r, p * 3 + 1, none⟩ (.string v)).setCell ⟨r, p * 3 + 2, none⟩ (.bool false) = W6 at *
    have c3 : W6.cell? ⟨g, 3, none⟩ = some (.int .i64 (tot R : Int)) := hg6.cell 3
    have k0 : W6.cell? ⟨b, 0, none⟩ = some (.string n) := hk6.cell 0
    have k1 : W6.cell? ⟨b, 1, none⟩ = some (.string v) := hk6.cell 1
    have k2 : W6.cell? ⟨b, 2, none⟩ = some (.bool false) := hk6.cell 2
    have HSF := Lib.hid (HS.out false)
    refine wp_region_in_tail 9 (Since W6) (Since.drew0 W6) (by kernel_rfl) (by kernel_rfl) ?_
    simp only [List.take_succ_cons, List.take_zero, List.drop_succ_cons, List.drop_zero]
    repeat (first
      | go_big_quiet_skip
      | (go_big_quiet_want; go_big_quiet_op; go_big_quiet_on)
      | (go_big_quiet_want; apply in_val; (· intro W hW; have d0 := hW.cell c3; have d1 := hW.cell k0; have d2 := hW.cell k1; have d3 := hW.cell k2; go_simp; first | done | rfl); simp only [Act.put, List.setIfInBounds_toArray, List.set_cons_zero, List.set_cons_succ]; go_big_quiet_on)
      | (go_big_quiet_want; apply in_q; (· intro W hW; go_simp; (go_at_call 17; with_reducible exact hW.call (HSF.out W))); simp only [Act.put, List.setIfInBounds_toArray, List.set_cons_zero, List.set_cons_succ]; go_big_quiet_on))
    refine wpQuiet_nil ?_
    intro W7 hW7
    have hg7 := hg6.below hW7 hg6.lt
    have hr7 := hr6.below hW7 hr6.lt
    have hu7 := hu6.since hW7
    have f3 := hg7.frozen 3
    have b3 : W7.cell? ⟨g, 3, none⟩ = some (.int .i64 (tot R : Int)) := hg7.cell 3
    go_wp2_with fail
    go_end0
    have hg8 := hg7.set_ 3 (.int .i64 ((tot R : Int) + (sx : Int)))
    have hr8 := hr7.far (p := ⟨g, 3, none⟩) (Ne.symm hne) (.int .i64 ((tot R : Int) + (sx : Int)))
    have hu8 := hu7.setCell (p := ⟨g, 3, none⟩) (Or.inl (Or.inl rfl)) (.int .i64 ((tot R : Int) + (sx : Int)))
    have hT : tot (R ++ [(n, v)]) = tot R + sx := by rw [tot_append, tot, tot, HSX.out, Nat.add_zero]
    have hRa := hR.add (h := (n, v)) hl p HPE.out
    have hlen : (R ++ [(n, v)]).length = R.length + 1 := by rw [List.length_append, List.length_singleton]
    refine ⟨rfl, o2, ?_, hu8⟩
    rw [HA.out]
    refine ⟨?_, ⟨_, hr8, hRa⟩, ho, hm, by rw [hT]; omega⟩
    rw [hT, hlen]
    rw [show tcs r o2 (R.length + 1) (tot R + sx) m = ((tcs r o2 R.length (tot R) m).setIfInBounds 2 (.int .i64 ((R.length : Int) + 1))).setIfInBounds 3 (.int .i64 ((tot R : Int) + (sx : Int))) from rfl]
    exact hg8
end Go.Proofs.YtflmgjidnclegaaDoor.Tab
/-
  The walks of Resize and Get.
-/
namespace Go.Proofs.YtflmgjidnclegaaDoor.Tab
open Go.RowKit
def ResEnd (w : World) (g r m : Nat) (Q : List Hd) (w' : World) : Prop := ∃ o : Nat, Tbl w' g r o (shr (m : Int) Q) m ∧ Upd3 w w' (fun i => i = g ∨ i = r)
set_option maxRecDepth 100000 in
theorem resize_yes {w : World} {g r o m : Nat} {Q : List Hd} (h : Tbl w g r o Q m) (k : Nat) (hk : k ≤ 4096) :
    Calls Tryd.prog 22 #[.pointer (some ⟨g, 0, none⟩), .int .i64 (k : Int)] w fun e w' => e = .returned .nilIface ∧ ResEnd w g r k Q w' := by
  have HF := Lib.hid (fun W => fits_yes k hk W)
  have hg := h.kg.set_ 4 (.int .i64 (k : Int))
  obtain ⟨cs, hr, hR⟩ := h.kr
  have hr1 := hr.far (p := ⟨g, 4, none⟩) (Ne.symm h.ne) (.int .i64 (k : Int))
  have hT : Tbl (w.setCell ⟨g, 4, none⟩ (.int .i64 (k : Int))) g r o Q k := ⟨hg, ⟨cs, hr1, hR⟩, h.ho, hk, h.ht⟩
  have hu := (Upd3.refl w (fun i => i = g ∨ i = r)).setCell (p := ⟨g, 4, none⟩) (Or.inl (Or.inl rfl)) (.int .i64 (k : Int))
  have c4 : w.cell? ⟨g, 4, none⟩ = some (.int .i64 (m : Int)) := h.kg.cell 4
  have f4 := h.kg.frozen 4
  clear h hg hr hr1 hR
  go_enter Tryd.func22, Tryd.ntmps22
  go_wp2_with fail
  refine (HF.out _).mono ?_
  rintro e w' ⟨rfl, rfl⟩
  go_wp2_with fail
  refine (shrink_any hT _).mono ?_
  rintro e w' ⟨rfl, o2, hT2, hu2⟩
  go_wp2_with fail
  go_ret
  exact ⟨rfl, o2, hT2, hu.trans hu2 (fun _ h => Or.inl h)⟩
set_option maxRecDepth 100000 in
theorem resize_no (g : Nat) (k : Int) (hk : k < 0 ∨ 4096 < k) (ev : Value) (w : World) (hv : w.cell? ⟨0, 0, none⟩ = some ev) :
    Calls Tryd.prog 22 #[.pointer (some ⟨g, 0, none⟩), .int .i64 k] w fun e w' => e = .returned ev ∧ w = w' := by
  have HF := Lib.hid (fun W => fits_no k hk W)
  clear hk
  go_enter Tryd.func22, Tryd.ntmps22
  go_wp2_with fail
  refine (HF.out _).mono ?_
  rintro e w' ⟨rfl, rfl⟩
  go_wp2_with fail
  go_ret
  exact ⟨rfl, rfl⟩
/-- the table that stands -/
def stat : List Hd := pairsT.map (fun p => (⟨p.1.toArray⟩, ⟨p.2.toArray⟩))
theorem stat_len : stat.length = 61 := by kernel_rfl
/-- what Static answers -/
def statAt (i : Int) : Option Hd := if 1 ≤ i then stat[i.toNat - 1]? else none
/-- what Get answers -/
def getAt (Q : List Hd) (i : Int) : Option Hd := if 1 ≤ i then (stat ++ Q.reverse)[i.toNat - 1]? else none
def hdN (x : Option Hd) : ByteArray := (x.getD (⟨#[]⟩, ⟨#[]⟩)).1
def hdV (x : Option Hd) : ByteArray := (x.getD (⟨#[]⟩, ⟨#[]⟩)).2
/-- a header and whether there is one -/
def hdR (x : Option Hd) : Value := .tuple #[.agg #[.string (hdN x), .string (hdV x), .bool false], .bool x.isSome]
theorem static_any (m : Int) (i : Int) (w : World) (hm : w.cell? ⟨6, 0, none⟩ = some (.int .i64 m)) :
    Calls Tryd.prog 14 #[.int .i64 i] w fun e w' => e = .returned (hdR (statAt i)) ∧ Below w.heap.size w w' := by
  by_cases hi : i < 1 ∨ 61 < i
  · have e : statAt i = none := by
      unfold statAt
      split
      · exact List.getElem?_eq_none (by rw [stat_len]; omega)
      · rfl
    rw [e]
    exact static_no i hi w
  · obtain ⟨k, hk⟩ : ∃ k : Nat, i = (k : Int) + 1 := ⟨(i - 1).toNat, by omega⟩
    subst hk
    have hk61 : k < 61 := by omega
    have hl : k < pairsT.length := by have := stat_len; unfold stat at this; rw [List.length_map] at this; omega
    have e : statAt ((k : Int) + 1) = some (⟨pairsT[k].1.toArray⟩, ⟨pairsT[k].2.toArray⟩) := by
      unfold statAt stat
      rw [if_pos (by omega), show ((k : Int) + 1).toNat - 1 = k by omega, List.getElem?_map, List.getElem?_eq_getElem hl]
      rfl
    rw [e]
    exact static_yes m k hk61 pairsT[k].1 pairsT[k].2 (List.getElem?_eq_getElem hl) w hm (cell_in hm)
set_option maxRecDepth 100000 in
set_option maxHeartbeats 1000000 in
theorem get_any {w : World} {g r o m : Nat} {Q : List Hd} (h : Tbl w g r o Q m) (i : Int) (M : Int) (hM : w.cell? ⟨6, 0, none⟩ = some (.int .i64 M)) :
    Calls Tryd.prog 25 #[.pointer (some ⟨g, 0, none⟩), .int .i64 i] w fun e w' => e = .returned (hdR (getAt Q i)) ∧ Below w.heap.size w w' := by
  have hl := h.len
  have hB0 := (Below.refl w.heap.size w).alloc (Nat.le_refl _) (.cells #[.string ⟨#[]⟩, .string ⟨#[]⟩, .bool false] 23)
  have hk0 := Blk.new w 23 #[.string ⟨#[]⟩, .string ⟨#[]⟩, .bool false]
  have hT := h.below hB0
  have hM0 := (Below.cell hB0 (p := ⟨6, 0, none⟩) (cell_in hM)).trans hM
  have hgl := h.kg.lt
  have hrl : r < w.heap.size := h.kr.elim fun _ hx => hx.1.lt
  clear hM h
  by_cases h1 : i ≤ 61
  · have HE := Lib.hid (show getAt Q i = statAt i by
      unfold getAt statAt
      split
      · rw [List.getElem?_append_left (by rw [stat_len]; omega)]
      · rfl)
    have hs0 := static_any M i _ hM0
    clear hM0 hT hgl hrl hl
    rw [HE.out]
    unfold hdR at hs0 ⊢
    generalize hdN (statAt i) = xn at *
    generalize hdV (statAt i) = xv at *
    generalize (statAt i).isSome = xb at *
    have HS := Lib.hid hs0
    clear HE hs0
    go_enter Tryd.func25, Tryd.ntmps25
    go_wp2_with fail
    refine HS.out.mono ?_
    rintro e w' ⟨rfl, hb⟩
    have hk1 := hk0.below hb hk0.lt
    have hB1 := hB0.trans (hb.mono hB0.size)
    clear hb hk0 hB0
    have f0 := hk1.frozen 0
    have f1 := hk1.frozen 1
    have f2 := hk1.frozen 2
    have b0 : w'.cell? ⟨w.heap.size, 0, none⟩ = some (.string ⟨#[]⟩) := hk1.cell 0
    have b1 : w'.cell? ⟨w.heap.size, 1, none⟩ = some (.string ⟨#[]⟩) := hk1.cell 1
    have b2 : w'.cell? ⟨w.heap.size, 2, none⟩ = some (.bool false) := hk1.cell 2
    clear HS
    go_wp2_with fail
    have hk2 := ((hk1.set_ 0 (.string xn)).set_ 1 (.string xv)).set_ 2 (.bool false)
    have hB2 := ((hB1.setCell (p := ⟨w.heap.size, 0, none⟩) (Nat.le_refl _) (.string xn)).setCell (p := ⟨w.heap.size, 1, none⟩) (Nat.le_refl _) (.string xv)).setCell (p := ⟨w.heap.size, 2, none⟩) (Nat.le_refl _) (.bool false)
    exact hdr_ret rfl rfl rfl rfl hk2 ⟨rfl, hB2⟩
  · have c2 : (w.alloc (.cells #[.string ⟨#[]⟩, .string ⟨#[]⟩, .bool false] 23)).cell? ⟨g, 2, none⟩ = some (.int .i64 (Q.length : Int)) := hT.kg.cell 2
    by_cases h2 : 61 + (Q.length : Int) < i
    · have HE := Lib.hid (show getAt Q i = none by
        unfold getAt
        rw [if_pos (by omega)]
        exact List.getElem?_eq_none (by rw [List.length_append, stat_len, List.length_reverse]; omega))
      clear hM0 hT hgl hrl
      rw [HE.out]
      go_enter Tryd.func25, Tryd.ntmps25
      go_wp2_with fail
      exact hdr_ret rfl rfl rfl rfl hk0 ⟨rfl, hB0⟩
    · obtain ⟨j, rfl⟩ : ∃ j : Nat, i = (j : Int) + 62 := ⟨(i - 62).toNat, by omega⟩
      have hj : j < Q.length := by omega
      have hd1 : decide ((j : Int) + 62 ≤ 61) = false := decide_eq_false (by omega)
      have hd2 : decide ((j : Int) + 62 > 61 + (Q.length : Int)) = false := decide_eq_false (by omega)
      obtain ⟨cs, hr, hR⟩ := hT.kr
      obtain ⟨p, hp⟩ : ∃ p, (o + (Q.length - 1 - j)) % 128 = p := ⟨_, rfl⟩
      have hp128 : p < 128 := by omega
      obtain ⟨x, hx⟩ : ∃ x, Q[Q.length - 1 - j]? = some x := ⟨_, List.getElem?_eq_getElem (by omega)⟩
      have HE := Lib.hid (show getAt Q ((j : Int) + 62) = some x by
        unfold getAt
        rw [if_pos (by omega), List.getElem?_append_right (by rw [stat_len]; omega), stat_len, show ((j : Int) + 62).toNat - 1 - 61 = j by omega, List.getElem?_reverse hj]
        exact hx)
      obtain ⟨a0, a1, a2⟩ := hR.2 _ x hx
      rw [hp] at a0 a1 a2
      have HA := Lib.hid (fun (W : World) (hW : Since (w.alloc (.cells #[.string ⟨#[]⟩, .string ⟨#[]⟩, .bool false] 23)) W) => at_any (hT.below hW) j p hj hp)
      have c0 : (w.alloc (.cells #[.string ⟨#[]⟩, .string ⟨#[]⟩, .bool false] 23)).cell? ⟨g, 0, none⟩ = some (.slice (some ⟨r, 0, none⟩) 128 128) := hT.kg.cell 0
      have r0 := (hr.cell (p * 3)).trans a0
      have r1 := (hr.cell (p * 3 + 1)).trans a1
      have r2 := (hr.cell (p * 3 + 2)).trans a2
      have hw1 : IntKind.i64.wrap ((j : Int) + 62 - 61) = (j : Int) + 1 := by rw [IntWalk.i64_in _ (by omega)]; omega
      have hw2 : IntKind.i64.wrap (j : Int) = (j : Int) := IntWalk.i64_in _ (by omega)
      have hp' : (p : Int) < 128 := by omega
      clear hM0 hT hgl hrl hR hr hp hx a0 a1 a2
      rw [HE.out]
      go_enter Tryd.func25, Tryd.ntmps25
      go_wp2_with fail
      generalize w.alloc (.cells #[.string ⟨#[]⟩, .string ⟨#[]⟩, .bool false] 23) = W0 at *
      refine wp_region_in_tail 11 (Since W0) (Since.drew0 W0) (by kernel_rfl) (by kernel_rfl) ?_
      simp only [List.take_succ_cons, List.take_zero, List.drop_succ_cons, List.drop_zero]
      repeat (first
        | go_big_quiet_skip
        | (go_big_quiet_want; go_big_quiet_op; go_big_quiet_on)
        | (go_big_quiet_want; apply in_val; (· intro W hW; have d0 := hW.cell c0; have d1 := hW.cell r0; have d2 := hW.cell r1; have d3 := hW.cell r2; go_simp; first | done | rfl); simp only [Act.put, List.setIfInBounds_toArray, List.set_cons_zero, List.set_cons_succ]; go_big_quiet_on)
        | (go_big_quiet_want; apply in_q; (· intro W hW; go_simp; (go_at_call 58; with_reducible exact hW.callN (HA.out W hW))); simp only [Act.put, List.setIfInBounds_toArray, List.set_cons_zero, List.set_cons_succ]; go_big_quiet_on))
      refine wpQuiet_nil ?_
      intro W1 hW1
      have hk1 := hk0.below hW1 hk0.lt
      have hB1 := hB0.trans (Below.mono hW1 hB0.size)
      clear hW1 hk0 hB0 c0 c2 r0 r1 r2
      have f0 := hk1.frozen 0
      have f1 := hk1.frozen 1
      have f2 := hk1.frozen 2
      have b0 : W1.cell? ⟨w.heap.size, 0, none⟩ = some (.string ⟨#[]⟩) := hk1.cell 0
      have b1 : W1.cell? ⟨w.heap.size, 1, none⟩ = some (.string ⟨#[]⟩) := hk1.cell 1
      have b2 : W1.cell? ⟨w.heap.size, 2, none⟩ = some (.bool false) := hk1.cell 2
      go_wp2_with fail
      have hk2 := ((hk1.set_ 0 (.string x.1)).set_ 1 (.string x.2)).set_ 2 (.bool false)
      have hB2 := ((hB1.setCell (p := ⟨w.heap.size, 0, none⟩) (Nat.le_refl _) (.string x.1)).setCell (p := ⟨w.heap.size, 1, none⟩) (Nat.le_refl _) (.string x.2)).setCell (p := ⟨w.heap.size, 2, none⟩) (Nat.le_refl _) (.bool false)
      exact hdr_ret rfl rfl rfl rfl hk2 ⟨rfl, hB2⟩
end Go.Proofs.YtflmgjidnclegaaDoor.Tab
/-
  The walk of Find.
-/
namespace Go.Proofs.YtflmgjidnclegaaDoor.Tab
open Go.RowKit
/-- the index of a header among l, whose first one has the index i -/
def findIn (n v : ByteArray) : List Hd → Nat → Nat → Nat × Bool
  | [], _, named => (named, false)
  | h :: t, i, named => if h.1 = n then (if h.2 = v then (i, true) else findIn n v t (i + 1) (if named = 0 then i else named)) else findIn n v t (i + 1) named
theorem str_inj {a b : ByteArray} (h : a.toList = b.toList) : a = b := by
  rw [ByteArray.toList_eq, ByteArray.toList_eq] at h
  cases a
  cases b
  exact congrArg ByteArray.mk (Array.toList_inj.1 h)
theorem str_ne {a b : ByteArray} (h : (!a.toList == b.toList) = true) : a ≠ b := by rintro rfl; simp at h
theorem str_eq {a b : ByteArray} (h : (!a.toList == b.toList) = false) : a = b := str_inj (by simpa using h)
theorem str_ne' {a b : ByteArray} (h : (a.toList == b.toList) = false) : a ≠ b := by rintro rfl; simp at h
theorem str_eq' {a b : ByteArray} (h : (a.toList == b.toList) = true) : a = b := str_inj (by simpa using h)
def findR (n v : ByteArray) (Q : List Hd) : Nat × Bool := findIn n v (stat ++ Q.reverse) 1 0
def FindAt (w : World) (n v : ByteArray) (Q : List Hd) (k : Nat) (named : Nat) (wr : World) : Prop := k ≤ 61 + Q.length ∧ named ≤ k ∧ findIn n v ((stat ++ Q.reverse).drop k) (k + 1) named = findR n v Q ∧ Below w.heap.size w wr
def FindEnd (w : World) (n v : ByteArray) (Q : List Hd) (e : Ending) (w' : World) : Prop := e = .returned (.tuple #[.int .i64 ((findR n v Q).1 : Int), .bool (findR n v Q).2]) ∧ Below w.heap.size w w'
theorem findIn_no {n v : ByteArray} {h : Hd} {t : List Hd} {i named : Nat} (h1 : h.1 ≠ n) : findIn n v (h :: t) i named = findIn n v t (i + 1) named := by rw [findIn, if_neg h1]
theorem findIn_hit {n v : ByteArray} {h : Hd} {t : List Hd} {i named : Nat} (h1 : h.1 = n) (h2 : h.2 = v) : findIn n v (h :: t) i named = (i, true) := by rw [findIn, if_pos h1, if_pos h2]
theorem findIn_new {n v : ByteArray} {h : Hd} {t : List Hd} {i : Nat} (h1 : h.1 = n) (h2 : h.2 ≠ v) : findIn n v (h :: t) i 0 = findIn n v t (i + 1) i := by rw [findIn, if_pos h1, if_neg h2, if_pos rfl]
theorem findIn_old {n v : ByteArray} {h : Hd} {t : List Hd} {i named : Nat} (h1 : h.1 = n) (h2 : h.2 ≠ v) (h3 : named ≠ 0) : findIn n v (h :: t) i named = findIn n v t (i + 1) named := by rw [findIn, if_pos h1, if_neg h2, if_neg h3]
set_option maxRecDepth 100000 in
set_option maxHeartbeats 1000000 in
theorem find_any {w : World} {g r o m : Nat} {Q : List Hd} (h : Tbl w g r o Q m) (n v : ByteArray) (M : Int) (hM : w.cell? ⟨6, 0, none⟩ = some (.int .i64 M)) :
    Calls Tryd.prog 30 #[.pointer (some ⟨g, 0, none⟩), .string n, .string v] w fun e w' => FindEnd w n v Q e w' := by
  have H0 := Lib.hid (⟨Nat.zero_le _, Nat.le_refl _, rfl, Below.refl _ _⟩ : FindAt w n v Q 0 0 w)
  have hl := h.len
  go_enter Tryd.func30, Tryd.ntmps30
  go_wp2_with fail
  go_loopw [8, 9] (fun nm i wr => ∃ k named : Nat, i = .int .i64 ((k : Int) + 1) ∧ nm = .int .i64 (named : Int) ∧ FindAt w n v Q k named wr) (fun _ i _ => 70 + Q.length - (intOf i).toNat)
  case atStart => exact ⟨0, 0, rfl, rfl, H0.out⟩
  case round =>
    clear H0
    obtain ⟨k, named, rfl, rfl, hk, hnk, hf, hb⟩ := hrel
    have hT := h.below hb
    have c2 : wr.cell? ⟨g, 2, none⟩ = some (.int .i64 (Q.length : Int)) := hT.kg.cell 2
    have HG := Lib.hid (get_any hT ((k : Int) + 1) M ((Below.cell hb (p := ⟨6, 0, none⟩) (cell_in hM)).trans hM))
    have HT := Lib.hid h
    have HM := Lib.hid hM
    have HF := Lib.hid hf
    have HB := Lib.hid hb
    have hlen : (stat ++ Q.reverse).length = 61 + Q.length := by rw [List.length_append, stat_len, List.length_reverse]
    clear h hM hf hb hT
    by_cases hlt : k < 61 + Q.length
    · have hx : ∃ x, (stat ++ Q.reverse)[k]? = some x := ⟨_, List.getElem?_eq_getElem (by omega)⟩
      obtain ⟨x, hx⟩ := hx
      have hg : getAt Q ((k : Int) + 1) = some x := by
        unfold getAt
        rw [if_pos (by omega), show ((k : Int) + 1).toNat - 1 = k by omega]
        exact hx
      have hdr : (stat ++ Q.reverse).drop k = x :: (stat ++ Q.reverse).drop (k + 1) := by
        rw [List.drop_eq_getElem_cons (by omega)]
        congr 1
        rw [List.getElem?_eq_getElem (by omega)] at hx
        exact Option.some.inj hx
      have HG2 := HG.out
      rw [hg] at HG2
      have HG3 := Lib.hid HG2
      have HF2 := HF.out
      rw [hdr] at HF2
      have HF3 := Lib.hid HF2
      clear HG HG2 hg hx hlen HF HF2 hdr
      have hle : decide ((k : Int) + 1 ≤ 61 + (Q.length : Int)) = true := decide_eq_true (by omega)
      go_wp2_with fail
      refine HG3.out.mono ?_
      rintro e w1 ⟨rfl, hb1⟩
      unfold hdR hdN hdV
      simp only [Option.getD_some, Option.isSome_some]
      clear HG3
      have hB1 := HB.out.trans (hb1.mono HB.out.size)
      clear HB hb1 c2
      go_wp2_with fail
      · have h1 := str_ne (by assumption : (!x.1.toList == n.toList) = true)
        go_roundw
        case rel => exact ⟨k + 1, named, by go_num, rfl, by omega, by omega, (findIn_no h1).symm.trans HF3.out, hB1.alloc hB1.size _⟩
        case measure => simp [intOf]; omega
      · have h1 := str_eq (by assumption : (!x.1.toList == n.toList) = false)
        have h2 := str_eq' (by assumption : (x.2.toList == v.toList) = true)
        have hR : findR n v Q = (k + 1, true) := HF3.out.symm.trans (findIn_hit h1 h2)
        go_ret2
        exact ⟨by rw [hR]; rfl, hB1.alloc hB1.size _⟩
      · have h1 := str_eq (by assumption : (!x.1.toList == n.toList) = false)
        have h2 := str_ne' (by assumption : (x.2.toList == v.toList) = false)
        have h3 : named = 0 := by have h0 : ((named : Int) == 0) = true := by assumption
                                  simpa using h0
        go_roundw
        case rel => exact ⟨k + 1, k + 1, by go_num, by go_num, by omega, by omega, by subst h3; exact (findIn_new h1 h2).symm.trans HF3.out, hB1.alloc hB1.size _⟩
        case measure => simp [intOf]; omega
      · have h1 := str_eq (by assumption : (!x.1.toList == n.toList) = false)
        have h2 := str_ne' (by assumption : (x.2.toList == v.toList) = false)
        have h3 : named ≠ 0 := by have h0 : ((named : Int) == 0) = false := by assumption
                                  simpa using h0
        go_roundw
        case rel => exact ⟨k + 1, named, by go_num, rfl, by omega, by omega, (findIn_old h1 h2 h3).symm.trans HF3.out, hB1.alloc hB1.size _⟩
        case measure => simp [intOf]; omega
    · have hk1 : k = 61 + Q.length := by omega
      have hR : findR n v Q = (named, false) := by
        rw [← HF.out, List.drop_eq_nil_of_le (by omega), findIn]
      have hle : decide ((k : Int) + 1 ≤ 61 + (Q.length : Int)) = false := decide_eq_false (by omega)
      have HR := Lib.hid hR
      clear HG HF hlen hR hk1
      go_wp2_with fail
      go_ret2
      exact ⟨by rw [HR.out]; rfl, HB.out⟩
end Go.Proofs.YtflmgjidnclegaaDoor.Tab
/-
  Plain laws on what a table holds.
-/
namespace Go.Proofs.YtflmgjidnclegaaDoor.Tab
open Go.RowKit
theorem shr_len (k : Int) (Q : List Hd) : (shr k Q).length ≤ Q.length := by
  induction Q with
  | nil => simp [shr]
  | cons h t ih =>
    unfold shr
    split
    · simp only [List.length_cons]; omega
    · exact Nat.le_refl _
theorem addQ_len (m : Nat) (h : Hd) (Q : List Hd) : (addQ m h Q).length ≤ Q.length + 1 := by
  unfold addQ
  split
  · rw [List.length_append, List.length_singleton]; have := shr_len ((m : Int) - (hsz h : Int)) Q; omega
  · simp
theorem addQ_tot (m : Nat) (h : Hd) (Q : List Hd) : tot (addQ m h Q) ≤ m := by
  unfold addQ
  split
  · rename_i hm
    have := shr_le (k := (m : Int) - (hsz h : Int)) (by omega) Q
    rw [tot_append]
    simp only [tot]
    omega
  · simp [tot]
theorem getAt_new (Q : List Hd) (k : Nat) : getAt Q ((62 : Int) + (k : Int)) = Q.reverse[k]? := by
  unfold getAt
  rw [if_pos (by omega), List.getElem?_append_right (by rw [stat_len]; omega), stat_len]
  congr 1
  omega
theorem getAt_past (Q : List Hd) : getAt Q ((62 : Int) + (Q.length : Int)) = none := by
  unfold getAt
  rw [if_pos (by omega)]
  exact List.getElem?_eq_none (by rw [List.length_append, stat_len, List.length_reverse]; omega)
theorem getAt_first (m : Nat) (h : Hd) (Q : List Hd) : getAt (addQ m h Q) 62 = if hsz h ≤ m then some h else none := by
  unfold getAt addQ
  rw [if_pos (by omega)]
  split
  · rw [List.reverse_append, List.getElem?_append_right (by rw [stat_len]; omega), stat_len]
    rfl
  · exact List.getElem?_eq_none (by rw [List.length_append, stat_len]; simp)
theorem tot_take (l : List Hd) (k : Nat) (x : Hd) (h : l[k]? = some x) : tot (l.take (k + 1)) = tot (l.take k) + hsz x := by
  obtain ⟨hk, rfl⟩ := List.getElem?_eq_some_iff.1 h
  rw [List.take_succ_eq_append_getElem hk, tot_append]
  simp [tot]
theorem tot_take_le (l : List Hd) (k : Nat) : tot (l.take k) ≤ tot l := by
  have h := tot_append (l.take k) (l.drop k)
  rw [List.take_append_drop] at h
  omega
theorem hdR_none : hdR none = .tuple #[.agg #[.string ⟨#[]⟩, .string ⟨#[]⟩, .bool false], .bool false] := rfl
theorem tot_reverse (l : List Hd) : tot l.reverse = tot l := by
  induction l with
  | nil => rfl
  | cons h t ih => rw [List.reverse_cons, tot_append, ih]; simp [tot]; omega
theorem findIn_at (n v : ByteArray) : ∀ (l : List Hd) (k i named : Nat), l[k]? = some (n, v) → (findIn n v l i named).2 = true ∧ (findIn n v l i named).1 ≤ i + k
  | [], k, i, named, h => by simp at h
  | x :: t, 0, i, named, h => by
    obtain rfl : x = (n, v) := by simpa using h
    rw [findIn_hit (h := (n, v)) rfl rfl]
    exact ⟨rfl, Nat.le_refl _⟩
  | x :: t, k + 1, i, named, h => by
    have ht : t[k]? = some (n, v) := by simpa using h
    unfold findIn
    split
    · split
      · exact ⟨rfl, by simp⟩
      · have := findIn_at n v t k (i + 1) (if named = 0 then i else named) ht
        exact ⟨this.1, by omega⟩
    · have := findIn_at n v t k (i + 1) named ht
      exact ⟨this.1, by omega⟩
end Go.Proofs.YtflmgjidnclegaaDoor.Tab
