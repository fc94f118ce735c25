/-
  The four closures that a failed try is asked, each by a contract of its own (no throttle).
-/
import Derived.Test.YtnmcjdiihebagaaDoorPolSteps
namespace Go.Proofs.YtnmcjdiihebagaaDoor.Pol
open Go.RowKit
def verd (s a : Bool) (ms : Int) : Array Value := #[.bool s, .bool a, .int .i64 ms]
/-- what a verdict's function hands back -/
theorem verd_ret {f : Func} {p : Tmp} {w' : World} {a : Act} {b : Nat} {s ag : Bool} {ms : Int} {R : Ending → World → Prop} (hf : f.results = #[.cell p 81]) (hd : a.defers = []) (hp : a.tmps.getD p undef = .pointer (some ⟨b, 0, none⟩)) (hb : Blk w' b 81 (verd s ag ms))
    (h : R (.returned (.agg (verd s ag ms))) w') : bodyPost Tryd.prog f R .ret a w' :=
  bodyPost_ret (results_cell_row (P := Tryd.prog) hf _ _ b 81 _ (0, 0) _ hp hb Tryd.underlying81 rfl (by kernel_rfl)) hd h
set_option maxRecDepth 100000 in
set_option maxHeartbeats 1000000 in
theorem step1_any (h g : Nat) (T F M X : Int) (l tp : Value) (tries waits : Int) (r co d : Bool) (w : World)
    (k0 : Blk w h 34 #[.pointer (some ⟨g, 0, none⟩)]) (k2 : Blk w (h + 2) 81 (verd true false 0)) (kg : Blk w g 74 (callC T F M X l tp tries waits r co d)) :
    Calls Tryd.prog 48 #[.pointer (some ⟨h, 0, none⟩), .pointer (some ⟨h + 2, 0, none⟩)] w fun e w' => e = .returned (.agg (verd (co || d) false 0)) ∧ Below w.heap.size w w' := by
  have c0 : w.cell? ⟨h, 0, none⟩ = some (.pointer (some ⟨g, 0, none⟩)) := k0.cell 0
  have c9 : w.cell? ⟨g, 9, none⟩ = some (.bool co) := kg.cell 9
  have c10 : w.cell? ⟨g, 10, none⟩ = some (.bool d) := kg.cell 10
  have v0 : w.cell? ⟨h + 2, 0, none⟩ = some (.bool true) := k2.cell 0
  have v1 : w.cell? ⟨h + 2, 1, none⟩ = some (.bool false) := k2.cell 1
  have v2 : w.cell? ⟨h + 2, 2, none⟩ = some (.int .i64 0) := k2.cell 2
  have l0 := k0.lt
  have l2 := k2.lt
  have lg := kg.lt
  have HB := fun cs => Lib.hid ((Below.refl w.heap.size w).alloc (Nat.le_refl _) (.cells cs 81))
  clear k0 k2 kg
  cases co with
  | true =>
    go_enter Tryd.func48, Tryd.ntmps48
    go_wp2
    exact verd_ret rfl rfl rfl (Blk.new _ _ _) ⟨rfl, (HB _).out⟩
  | false =>
    cases d with
    | true =>
      go_enter Tryd.func48, Tryd.ntmps48
      go_wp2
      exact verd_ret rfl rfl rfl (Blk.new _ _ _) ⟨rfl, (HB _).out⟩
    | false =>
      go_enter Tryd.func48, Tryd.ntmps48
      go_wp2
      exact verd_ret rfl rfl rfl (Blk.new _ _ _) ⟨rfl, (HB _).out⟩
/-- what a closure that writes the call leaves -/
def Upd (w w' : World) (g : Nat) (cs : Array Value) : Prop := Blk w' g 74 cs ∧ w.grownBy w' (some g)
theorem blk_set_new (w : World) (p : Addr) (u : Value) (t : TypeId) (cs : Array Value) : Blk ((w.setCell p u).alloc (.cells cs t)) w.heap.size t cs := by
  have := Blk.new (w.setCell p u) t cs
  rwa [show (w.setCell p u).heap.size = w.heap.size by simp] at this
theorem upd_set {w : World} {g : Nat} {cs : Array Value} {i : Nat} {u : Value} (o : Obj) (kg : Blk w g 74 cs) : Upd w ((w.setCell ⟨g, i, none⟩ u).alloc o) g (cs.setIfInBounds i u) :=
  ⟨(kg.set_ i u).alloc _, only_alloc (only_setCell (World.grownBy.refl w (some g)) (Or.inl rfl) u) o⟩
set_option maxRecDepth 100000 in
set_option maxHeartbeats 1000000 in
theorem step2_any (h g : Nat) (T F M X : Int) (l tp : Value) (tries waits : Int) (r co d : Bool) (code push draw : Int) (refused : Bool) (w : World)
    (k0 : Blk w h 34 #[.pointer (some ⟨g, 0, none⟩)]) (k1 : Blk w (h + 1) 78 #[.int .i64 code, .int .i64 push, .int .i64 draw, .bool refused]) (kg : Blk w g 74 (callC T F M X l tp tries waits r co d)) :
    Calls Tryd.prog 49 #[.pointer (some ⟨h + 1, 0, none⟩), .pointer (some ⟨h, 0, none⟩)] w fun e w' => e = .returned (.agg (verd (refused && !r) (refused && !r) 0)) ∧ Upd w w' g (callC T F M X l tp tries waits (r || refused) co d) := by
  have c0 : w.cell? ⟨h, 0, none⟩ = some (.pointer (some ⟨g, 0, none⟩)) := k0.cell 0
  have c8 : w.cell? ⟨g, 8, none⟩ = some (.bool r) := kg.cell 8
  have f8 : w.frozen? ⟨g, 8, none⟩ = false := kg.frozen 8
  have v3 : w.cell? ⟨h + 1, 3, none⟩ = some (.bool refused) := k1.cell 3
  have l0 := k0.lt
  have l1 := k1.lt
  have lg := kg.lt
  have KG := Lib.hid kg
  have HB := fun cs => Lib.hid (only_alloc (World.grownBy.refl w (some g)) (.cells cs 81))
  clear k0 k1 kg
  cases refused with
  | false =>
    go_enter Tryd.func49, Tryd.ntmps49
    go_wp2
    exact verd_ret rfl rfl rfl (Blk.new _ _ _) ⟨rfl, by rw [Bool.or_false]; exact KG.out.alloc _, (HB _).out⟩
  | true =>
    cases r with
    | true =>
      go_enter Tryd.func49, Tryd.ntmps49
      go_wp2
      exact verd_ret rfl rfl rfl (Blk.new _ _ _) ⟨rfl, KG.out.alloc _, (HB _).out⟩
    | false =>
      go_enter Tryd.func49, Tryd.ntmps49
      go_wp2
      exact verd_ret rfl rfl rfl (blk_set_new _ _ _ _ _) ⟨rfl, upd_set _ KG.out⟩
theorem verd_set (w : World) (nq : Nat) (s a : Bool) (ms : Int) (cs : Array Value) (hc : cs.size = 3) :
    Blk (((((w.alloc (.cells cs 81)).drewN nq).setCell ⟨w.heap.size, 0, none⟩ (.bool s)).setCell ⟨w.heap.size, 1, none⟩ (.bool a)).setCell ⟨w.heap.size, 2, none⟩ (.int .i64 ms)) w.heap.size 81 (verd s a ms) ∧
    Below w.heap.size w (((((w.alloc (.cells cs 81)).drewN nq).setCell ⟨w.heap.size, 0, none⟩ (.bool s)).setCell ⟨w.heap.size, 1, none⟩ (.bool a)).setCell ⟨w.heap.size, 2, none⟩ (.int .i64 ms)) := by
  constructor
  · have h := ((((Blk.new w 81 cs).drewN nq).set_ 0 (.bool s)).set_ 1 (.bool a)).set_ 2 (.int .i64 ms)
    have e : ((cs.setIfInBounds 0 (.bool s)).setIfInBounds 1 (.bool a)).setIfInBounds 2 (.int .i64 ms) = verd s a ms := by
      match cs, hc with
      | ⟨[x, y, z]⟩, _ => rfl
    rw [e] at h
    exact h
  · exact (((below_drewN ((Below.refl w.heap.size w).alloc (Nat.le_refl _) _) nq).setCell (Nat.le_refl _) _).setCell (Nat.le_refl _) _).setCell (Nat.le_refl _) _
set_option maxRecDepth 100000 in
set_option maxHeartbeats 2000000 in
theorem step3_nil (h g : Nat) (T F M X : Int) (l : Value) (tries waits : Int) (r co d : Bool) (code push draw : Int) (refused listed : Bool) (w : World)
    (k0 : Blk w h 34 #[.pointer (some ⟨g, 0, none⟩)]) (k1 : Blk w (h + 1) 78 #[.int .i64 code, .int .i64 push, .int .i64 draw, .bool refused]) (k2 : Blk w (h + 2) 81 (verd true false 0)) (k3 : Blk w (h + 3) 4 #[.bool listed]) (kg : Blk w g 74 (callC T F M X l (.pointer none) tries waits r co d)) :
    Calls Tryd.prog 50 #[.pointer (some ⟨h, 0, none⟩), .pointer (some ⟨h + 3, 0, none⟩), .pointer (some ⟨h + 1, 0, none⟩), .pointer (some ⟨h + 2, 0, none⟩)] w fun e w' =>
      e = .returned (.agg (verd (!listed || decide (push = -2) || decide (T ≤ tries)) false 0)) ∧ Below w.heap.size w w' := by
  have c0 : w.cell? ⟨h, 0, none⟩ = some (.pointer (some ⟨g, 0, none⟩)) := k0.cell 0
  have g0 : w.cell? ⟨g, 0, none⟩ = some (.int .i64 T) := kg.cell 0
  have g5 : w.cell? ⟨g, 5, none⟩ = some (.pointer none) := kg.cell 5
  have g6 : w.cell? ⟨g, 6, none⟩ = some (.int .i64 tries) := kg.cell 6
  have p1 : w.cell? ⟨h + 1, 1, none⟩ = some (.int .i64 push) := k1.cell 1
  have b0 : w.cell? ⟨h + 3, 0, none⟩ = some (.bool listed) := k3.cell 0
  have v0 : w.cell? ⟨h + 2, 0, none⟩ = some (.bool true) := k2.cell 0
  have v1 : w.cell? ⟨h + 2, 1, none⟩ = some (.bool false) := k2.cell 1
  have v2 : w.cell? ⟨h + 2, 2, none⟩ = some (.int .i64 0) := k2.cell 2
  have l0 := k0.lt
  have l1 := k1.lt
  have l2 := k2.lt
  have l3 := k3.lt
  have lg := kg.lt
  have KB := Lib.hid ((Below.refl w.heap.size w).alloc (Nat.le_refl _) (.cells (verd false false 0) 81))
  have HN := fun cs => Lib.hid (Blk.new w 81 cs)
  clear k0 k1 k2 k3 kg
  cases listed with
  | false =>
    go_enter Tryd.func50, Tryd.ntmps50
    go_wp2
    go_quiet (fail)
    go_wp2
    exact verd_ret rfl rfl rfl (verd_set w nq true false 0 _ rfl).1 ⟨rfl, (verd_set w nq true false 0 _ rfl).2⟩
  | true =>
    by_cases hp : push = -2
    · subst hp
      go_enter Tryd.func50, Tryd.ntmps50
      go_wp2
      go_quiet (fail)
      go_wp2
      exact verd_ret rfl rfl rfl (verd_set w nq true false 0 _ rfl).1 ⟨rfl, (verd_set w nq true false 0 _ rfl).2⟩
    · have hp2 : (push == -2) = false := beq_eq_false_iff_ne.2 hp
      by_cases ht : T ≤ tries
      · have hd : decide (T ≤ tries) = true := decide_eq_true ht
        go_enter Tryd.func50, Tryd.ntmps50
        go_wp2
        go_quiet (fail)
        go_wp2
        exact verd_ret rfl rfl rfl (verd_set w nq true false 0 _ rfl).1 ⟨by rw [hd, Bool.or_true], (verd_set w nq true false 0 _ rfl).2⟩
      · have hd : decide (T ≤ tries) = false := decide_eq_false ht
        go_enter Tryd.func50, Tryd.ntmps50
        go_wp2
        go_quiet (fail)
        go_wp2
        exact verd_ret rfl rfl rfl (verd_set w nq false false 0 _ rfl).1 ⟨by rw [decide_eq_false hp]; simp [Int.not_le.2 ht], (verd_set w nq false false 0 _ rfl).2⟩
theorem blk_set2_new (w : World) (p q : Addr) (u v : Value) (t : TypeId) (cs : Array Value) : Blk (((w.setCell p u).setCell q v).alloc (.cells cs t)) w.heap.size t cs := by
  have := Blk.new ((w.setCell p u).setCell q v) t cs
  rwa [show ((w.setCell p u).setCell q v).heap.size = w.heap.size by simp] at this
theorem upd_set2 {w : World} {g : Nat} {cs : Array Value} {i j : Nat} {u v : Value} (o : Obj) (kg : Blk w g 74 cs) : Upd w (((w.setCell ⟨g, i, none⟩ u).setCell ⟨g, j, none⟩ v).alloc o) g ((cs.setIfInBounds i u).setIfInBounds j v) :=
  ⟨((kg.set_ i u).set_ j v).alloc _, only_alloc (only_setCell (only_setCell (World.grownBy.refl w (some g)) (Or.inl rfl) u) (Or.inl rfl) v) o⟩
theorem only_below {w w4 w5 : World} {g : Nat} (h : w.grownBy w4 (some g)) (hb : Below w4.heap.size w4 w5) : w.grownBy w5 (some g) :=
  ⟨hb.os.trans h.os, hb.tape.trans h.tape, hb.output.trans h.output, Nat.le_trans h.size hb.size, fun i hi hn => (hb.block i (Nat.lt_of_lt_of_le hi h.size)).trans (h.block i hi hn)⟩
set_option maxRecDepth 100000 in
set_option maxHeartbeats 2000000 in
theorem step4_any (h g : Nat) (T F M X : Nat) (A : Option Addr) (n c : Nat) (tp : Value) (tries waits : Int) (r co d : Bool) (code push draw : Int) (refused : Bool) (w : World) (hF : F ≤ 1000000) (hM : M ≤ 1000000) (hX : X ≤ 100) (ht : 0 ≤ tries ∧ tries ≤ 1000000000) (hw : 0 ≤ waits ∧ waits ≤ 1000000000)
    (k0 : Blk w h 34 #[.pointer (some ⟨g, 0, none⟩)]) (k1 : Blk w (h + 1) 78 #[.int .i64 code, .int .i64 push, .int .i64 draw, .bool refused]) (hgh : g < h) (kg : Blk w g 74 (callC T F M X (.slice A n c) tp tries waits r co d)) :
    Calls Tryd.prog 51 #[.pointer (some ⟨h, 0, none⟩), .pointer (some ⟨h + 1, 0, none⟩)] w fun e w' =>
      e = .returned (.agg (verd true true (if 0 ≤ push then push else (waitN F M X (waits + 1) draw : Nat)))) ∧ Upd w w' g (callC T F M X (.slice A n c) tp (tries + 1) (if 0 ≤ push then 0 else waits + 1) r co d) := by
  have c0 : w.cell? ⟨h, 0, none⟩ = some (.pointer (some ⟨g, 0, none⟩)) := k0.cell 0
  have g0 : w.cell? ⟨g, 0, none⟩ = some (.int .i64 T) := kg.cell 0
  have g1 : w.cell? ⟨g, 1, none⟩ = some (.int .i64 F) := kg.cell 1
  have g2 : w.cell? ⟨g, 2, none⟩ = some (.int .i64 M) := kg.cell 2
  have g3 : w.cell? ⟨g, 3, none⟩ = some (.int .i64 X) := kg.cell 3
  have g4 : w.cell? ⟨g, 4, none⟩ = some (.slice A n c) := kg.cell 4
  have g6 : w.cell? ⟨g, 6, none⟩ = some (.int .i64 tries) := kg.cell 6
  have g7 : w.cell? ⟨g, 7, none⟩ = some (.int .i64 waits) := kg.cell 7
  have f6 : w.frozen? ⟨g, 6, none⟩ = false := kg.frozen 6
  have f7 : w.frozen? ⟨g, 7, none⟩ = false := kg.frozen 7
  have p1 : w.cell? ⟨h + 1, 1, none⟩ = some (.int .i64 push) := k1.cell 1
  have p2 : w.cell? ⟨h + 1, 2, none⟩ = some (.int .i64 draw) := k1.cell 2
  have l0 := k0.lt
  have l1 := k1.lt
  have lg := kg.lt
  have KG := Lib.hid kg
  clear k0 k1 kg
  by_cases hp : 0 ≤ push
  · rw [if_pos hp, if_pos hp]
    go_enter Tryd.func51, Tryd.ntmps51
    go_wp2
    exact verd_ret rfl rfl rfl (blk_set2_new _ _ _ _ _ _ _) ⟨rfl, upd_set2 _ KG.out⟩
  · rw [if_neg hp, if_neg hp]
    go_enter Tryd.func51, Tryd.ntmps51
    go_wp2
    have U := upd_set2 (i := 6) (j := 7) (u := .int .i64 (tries + 1)) (v := .int .i64 (waits + 1)) (.cells #[.bool false, .bool false, .int .i64 0] 81) KG.out
    have hN := blk_set2_new w ⟨g, 6, none⟩ ⟨g, 7, none⟩ (.int .i64 (tries + 1)) (.int .i64 (waits + 1)) 81 #[.bool false, .bool false, .int .i64 0]
    have hsz : (((w.setCell ⟨g, 6, none⟩ (.int .i64 (tries + 1))).setCell ⟨g, 7, none⟩ (.int .i64 (waits + 1))).alloc (.cells #[.bool false, .bool false, .int .i64 0] 81)).heap.size = w.heap.size + 1 := by simp
    have hcell : ∀ (b i : Nat), b < w.heap.size → b ≠ g → (((w.setCell ⟨g, 6, none⟩ (.int .i64 (tries + 1))).setCell ⟨g, 7, none⟩ (.int .i64 (waits + 1))).alloc (.cells #[.bool false, .bool false, .int .i64 0] 81)).cell? ⟨b, i, none⟩ = w.cell? ⟨b, i, none⟩ :=
      fun b i hb hne => World.cell?_of_block (U.2.block b hb (fun e => hne (by injection e)))
    generalize ((w.setCell ⟨g, 6, none⟩ (.int .i64 (tries + 1))).setCell ⟨g, 7, none⟩ (.int .i64 (waits + 1))).alloc (.cells #[.bool false, .bool false, .int .i64 0] 81) = w2 at *
    have d0 : w2.cell? ⟨h, 0, none⟩ = some (.pointer (some ⟨g, 0, none⟩)) := (hcell h 0 l0 (by omega)).trans c0
    have d2 : w2.cell? ⟨h + 1, 2, none⟩ = some (.int .i64 draw) := (hcell (h + 1) 2 l1 (by omega)).trans p2
    have e0 : w2.cell? ⟨g, 0, none⟩ = some (.int .i64 T) := U.1.cell 0
    have e1 : w2.cell? ⟨g, 1, none⟩ = some (.int .i64 F) := U.1.cell 1
    have e2 : w2.cell? ⟨g, 2, none⟩ = some (.int .i64 M) := U.1.cell 2
    have e3 : w2.cell? ⟨g, 3, none⟩ = some (.int .i64 X) := U.1.cell 3
    have e4 : w2.cell? ⟨g, 4, none⟩ = some (.slice A n c) := U.1.cell 4
    have e7 : w2.cell? ⟨g, 7, none⟩ = some (.int .i64 (waits + 1)) := U.1.cell 7
    have HU := Lib.hid U
    have HN := Lib.hid hN
    clear U hN hcell KG c0 g0 g1 g2 g3 g4 g6 g7 f6 f7 p1 p2
    go_still_tail 10, (by kernel_rfl)
    change wpList _ _ _ _ _ w2.drew
    have U4 : Upd w w2.drew g _ := ⟨HU.out.1.drew, only_drew HU.out.2⟩
    have N4 := HN.out.drew
    have hs4 : w2.drew.heap.size = w.heap.size + 1 := hsz
    clear d0 d2 e0 e1 e2 e3 e4 e7 hsz HU HN
    generalize w2.drew = w4 at *
    have HU4 := Lib.hid U4
    have HN4 := Lib.hid N4
    clear U4 N4
    go_wp2_with fail
    refine (wait_any T F M X (.slice A n c) (waits + 1) draw w4 hF hM hX (by omega)).mono ?_
    rintro e w5 ⟨rfl, hb5⟩
    have B5 := HN4.out.below hb5 (by omega)
    have U5 : Upd w w5 g _ := ⟨HU4.out.1.below hb5 (by have := HU4.out.1.lt; omega), only_below HU4.out.2 hb5⟩
    have HU5 := Lib.hid U5
    have i0 : w5.cell? ⟨w.heap.size, 0, none⟩ = some (.bool false) := B5.cell 0
    have i1 : w5.cell? ⟨w.heap.size, 1, none⟩ = some (.bool false) := B5.cell 1
    have i2 : w5.cell? ⟨w.heap.size, 2, none⟩ = some (.int .i64 0) := B5.cell 2
    have j0 : w5.frozen? ⟨w.heap.size, 0, none⟩ = false := B5.frozen 0
    have j1 : w5.frozen? ⟨w.heap.size, 1, none⟩ = false := B5.frozen 1
    have j2 : w5.frozen? ⟨w.heap.size, 2, none⟩ = false := B5.frozen 2
    have HB5 := Lib.hid B5
    clear B5 U5 hb5
    go_wp2
    have U := HU5.out
    have hne : g ≠ w.heap.size := by omega
    refine verd_ret rfl rfl rfl (((HB5.out.set_ 0 (.bool true)).set_ 1 (.bool true)).set_ 2 _) ⟨rfl, ((U.1.far (p := ⟨w.heap.size, 0, none⟩) hne _).far (p := ⟨w.heap.size, 1, none⟩) hne _).far (p := ⟨w.heap.size, 2, none⟩) hne _, ?_⟩
    exact only_setCell (only_setCell (only_setCell U.2 (p := ⟨w.heap.size, 0, none⟩) (Or.inr (Nat.le_refl _)) _) (p := ⟨w.heap.size, 1, none⟩) (Or.inr (Nat.le_refl _)) _) (p := ⟨w.heap.size, 2, none⟩) (Or.inr (Nat.le_refl _)) _
end Go.Proofs.YtnmcjdiihebagaaDoor.Pol
