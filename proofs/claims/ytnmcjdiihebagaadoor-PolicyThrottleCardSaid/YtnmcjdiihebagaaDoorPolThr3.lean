/-
  Failed with a throttle: three ways.
-/
import Derived.Test.YtnmcjdiihebagaaDoorPolThr2
import Derived.Deep.QuietTactic
import Derived.BigQuiet
namespace Go.Proofs.YtnmcjdiihebagaaDoor.Pol
open Go.RowKit
/-- two blocks alone have turned: the call's and its throttle's -/
structure Upd2 (w w' : World) (g gt : Nat) (cs ts : Array Value) : Prop where
  kg : Blk w' g 74 cs
  kt : Blk w' gt 83 ts
  os : w'.os = w.os
  tape : w'.tape = w.tape
  output : w'.output = w.output
  size : w.heap.size ≤ w'.heap.size
  block : ∀ i, i < w.heap.size → i ≠ g → i ≠ gt → w'.heap[i]? = w.heap[i]?
section
variable {w0 w w' : World} {g gt : Nat} {cs cs' ts ts' : Array Value}
theorem Upd2.start (hb : Below w.heap.size w w') (hg : Blk w g 74 cs) (ht : Blk w gt 83 ts) : Upd2 w w' g gt cs ts :=
  ⟨hg.below hb hg.lt, ht.below hb ht.lt, hb.os, hb.tape, hb.output, hb.size, fun i hi _ _ => hb.block i hi⟩
theorem Upd2.ne (u : Upd2 w0 w g gt cs ts) : g ≠ gt := Blk.ne_ u.kg u.kt (by decide)
theorem Upd2.below (u : Upd2 w0 w g gt cs ts) (hb : Below w.heap.size w w') : Upd2 w0 w' g gt cs ts :=
  ⟨u.kg.below hb u.kg.lt, u.kt.below hb u.kt.lt, hb.os.trans u.os, hb.tape.trans u.tape, hb.output.trans u.output, Nat.le_trans u.size hb.size, fun i hi h1 h2 => (hb.block i (Nat.lt_of_lt_of_le hi u.size)).trans (u.block i hi h1 h2)⟩
theorem Upd2.upd (u : Upd2 w0 w g gt cs ts) (v : Upd w w' g cs') : Upd2 w0 w' g gt cs' ts :=
  ⟨v.1, u.kt.grown v.2 (fun x => u.ne (by injection x with x; exact x.symm)), v.2.os.trans u.os, v.2.tape.trans u.tape, v.2.output.trans u.output, Nat.le_trans u.size v.2.size,
    fun i hi h1 h2 => (v.2.block i (Nat.lt_of_lt_of_le hi u.size) (fun x => h1 (by injection x))).trans (u.block i hi h1 h2)⟩
theorem Upd2.thr (u : Upd2 w0 w g gt cs ts) (k : Blk w' gt 83 ts') (v : w.grownBy w' (some gt)) : Upd2 w0 w' g gt cs ts' :=
  ⟨u.kg.grown v (fun x => u.ne (by injection x)), k, v.os.trans u.os, v.tape.trans u.tape, v.output.trans u.output, Nat.le_trans u.size v.size,
    fun i hi h1 h2 => (v.block i (Nat.lt_of_lt_of_le hi u.size) (fun x => h2 (by injection x))).trans (u.block i hi h1 h2)⟩
theorem Upd2.alloc (u : Upd2 w0 w g gt cs ts) (o : Obj) : Upd2 w0 (w.alloc o) g gt cs ts := u.below ((Below.refl _ w).alloc (Nat.le_refl _) o)
theorem Upd2.set (u : Upd2 w0 w g gt cs ts) (i : Nat) (x : Value) : Upd2 w0 (w.setCell ⟨g, i, none⟩ x) g gt (cs.setIfInBounds i x) ts := u.upd ⟨u.kg.set_ i x, only_setCell (World.grownBy.refl w (some g)) (Or.inl rfl) x⟩
theorem Upd2.drewN (u : Upd2 w0 w g gt cs ts) (n : Nat) : Upd2 w0 (w.drewN n) g gt cs ts := ⟨u.kg.drewN n, u.kt.drewN n, u.os, u.tape, u.output, u.size, u.block⟩
theorem Upd2.grown (u : Upd2 w0 w g gt cs ts) {b : Nat} {t : TypeId} {xs : Array Value} (k : Blk w0 b t xs) (h1 : b ≠ g) (h2 : b ≠ gt) : Blk w b t xs := (u.block b k.lt h1 h2).trans k
theorem Upd2.to_below {B : Nat} {wb : World} (u : Upd2 w0 w g gt cs ts) (hb : Below B wb w0) (hg : B ≤ g) (ht : B ≤ gt) (hB : B ≤ w0.heap.size) : Below B wb w :=
  ⟨u.os.trans hb.os, u.tape.trans hb.tape, u.output.trans hb.output, Nat.le_trans hb.size u.size, fun i hi => (u.block i (Nat.lt_of_lt_of_le hi hB) (by omega) (by omega)).trans (hb.block i hi)⟩
theorem EnvI.thr {h : Nat} {code push draw : Int} {refused listed : Bool} (e : EnvI w h g code push draw refused listed cs) (k : Blk w gt 83 ts) (v : w.grownBy w' (some gt)) : EnvI w' h g code push draw refused listed cs :=
  ⟨e.k0.grown v (fun x => Blk.ne_ e.k0 k (by decide) (by injection x)), e.k1.grown v (fun x => Blk.ne_ e.k1 k (by decide) (by injection x)), e.k2.grown v (fun x => Blk.ne_ e.k2 k (by decide) (by injection x)),
    e.k3.grown v (fun x => Blk.ne_ e.k3 k (by decide) (by injection x)), e.k4.grown v (fun x => Blk.ne_ e.k4 k (by decide) (by injection x)), e.kg.grown v (fun x => Blk.ne_ e.kg k (by decide) (by injection x))⟩
end
set_option maxRecDepth 100000 in
set_option maxHeartbeats 4000000 in
theorem failedt_ref (g gt T F M X : Nat) (tok most ratio : Int) (xs : List Int) (A : Option Addr) (n c : Nat) (tries waits : Int) (r co d : Bool) (code push draw : Int) (refused : Bool) (w : World)
    (hn : xs.length = n) (hcap : n ≤ 1000000) (hx : IntsAt w A xs) (kt : Blk w gt 83 (thrC tok most ratio)) (hg : Blk w g 74 (callC T F M X (.slice A n c) (.pointer (some ⟨gt, 0, none⟩)) tries waits r co d)) (hd : d = false) (hco : co = false) (hr : (refused && !r) = true) :
    Calls Tryd.prog 15 #[.pointer (some ⟨g, 0, none⟩), .int .i64 code, .bool refused, .int .i64 push, .int .i64 draw] w fun e w' => e = .returned (.tuple #[.bool true, .int .i64 0]) ∧ Upd2 w w' g gt (callC T F M X (.slice A n c) (.pointer (some ⟨gt, 0, none⟩)) tries waits true false false) (thrC tok most ratio) := by
  subst hd hco
  have hr1 : (r || refused) = true := by cases r <;> cases refused <;> simp_all
  have hgl := hg.lt
  have HS := Lib.hid (steps_any g T F M X xs A n c (.pointer (some ⟨gt, 0, none⟩)) tries waits r false false code push draw refused w hn (by omega) hx hg)
  go_enter Tryd.func15, Tryd.ntmps15
  go_wp2_with fail
  refine HS.out.mono ?_
  rintro e w1 ⟨rfl, hb1, k0, k1, k2, k3, k4⟩
  have E1 : EnvI w1 w.heap.size g code push draw refused (decide (code ∈ xs)) _ := ⟨k0, k1, k2, k3, k4, hg.below hb1 hgl⟩
  have U1 : Upd2 w w1 g gt _ _ := Upd2.start hb1 hg kt
  have HEw1 := Lib.hid E1
  have HUw1 := Lib.hid U1
  clear k0 k1 k2 k3 k4 hb1 E1 U1 HS hx hg kt
  generalize hh : w.heap.size = h at *
  go_wp2_with fail
  refine wp_loop_rounds 2 ?_
  rw [rounds_succ]
  have q0 : w1.cell? ⟨h + 4, 0, none⟩ = some (.func (.func 48) #[] #[.pointer (some ⟨h, 0, none⟩), .pointer (some ⟨h + 2, 0, none⟩)]) := HEw1.out.k4.cell 0
  have s0 := step1_any h g T F M X (.slice A n c) (.pointer (some ⟨gt, 0, none⟩)) tries waits r false false w1 HEw1.out.k0 HEw1.out.k2 HEw1.out.kg
  rw [Bool.or_false] at s0
  unfold verd at s0
  have S0 := Lib.hid s0
  clear s0
  go_wp2_with fail
  refine S0.out.mono ?_
  rintro e w2 ⟨rfl, hu0⟩
  have E0 := HEw1.out.below hu0
  have V0 := HUw1.out.below hu0
  have HEw2 := Lib.hid E0
  have HVw2 := Lib.hid V0
  clear S0 E0 V0 HEw1 HUw1 q0 hu0
  go_wp2_with fail
  have HEw3 := Lib.hid (HEw2.out.below ((Below.refl _ w2).alloc (Nat.le_refl _) (.cells #[.bool false, .bool false, .int .i64 0] 81)))
  have HUw3 := Lib.hid (HVw2.out.alloc (.cells #[.bool false, .bool false, .int .i64 0] 81))
  clear HEw2 HVw2
  generalize w2.alloc (.cells #[.bool false, .bool false, .int .i64 0] 81) = w3 at *
  rw [rounds_succ]
  have q1 : w3.cell? ⟨h + 4, 1, none⟩ = some (.func (.func 49) #[] #[.pointer (some ⟨h + 1, 0, none⟩), .pointer (some ⟨h, 0, none⟩)]) := HEw3.out.k4.cell 1
  have s1 := step2_any h g T F M X (.slice A n c) (.pointer (some ⟨gt, 0, none⟩)) tries waits r false false code push draw refused w3 HEw3.out.k0 HEw3.out.k1 HEw3.out.kg
  rw [hr, hr1] at s1
  unfold verd at s1
  have S1 := Lib.hid s1
  clear s1
  go_wp2_with fail
  refine S1.out.mono ?_
  rintro e w4 ⟨rfl, hu1⟩
  have E1 := HEw3.out.upd hgl hu1
  have V1 := HUw3.out.upd hu1
  have x10 : w4.cell? ⟨g, 10, none⟩ = some (.bool false) := E1.kg.cell 10
  have y10 : w4.frozen? ⟨g, 10, none⟩ = false := E1.kg.frozen 10
  have z10 : g < w4.heap.size := E1.kg.lt
  have HV1 := Lib.hid V1
  clear S1 E1 V1 HEw3 HUw3 q1 hu1
  go_wp2_with fail
  go_quiet (fail)
  go_wp2
  go_ret2
  exact ⟨rfl, ((HV1.out.set 10 _).alloc _).drewN nq⟩
set_option maxRecDepth 100000 in
set_option maxHeartbeats 4000000 in
theorem failedt_no (g gt T F M X : Nat) (tok most ratio : Int) (xs : List Int) (A : Option Addr) (n c : Nat) (tries waits : Int) (r co d : Bool) (code push draw : Int) (refused : Bool) (w : World)
    (hn : xs.length = n) (hcap : n ≤ 1000000) (hx : IntsAt w A xs) (kt : Blk w gt 83 (thrC tok most ratio)) (htok : 0 ≤ tok ∧ tok ≤ 1000000) (hg : Blk w g 74 (callC T F M X (.slice A n c) (.pointer (some ⟨gt, 0, none⟩)) tries waits r co d)) (hd : d = false) (hco : co = false) (hr : (refused && !r) = false) (hli : decide (code ∈ xs) = true) (hpu : push ≠ -2) (htr : tries < T) (hop : (!decide (most < 2 * max 0 (tok - 1000))) = true) :
    Calls Tryd.prog 15 #[.pointer (some ⟨g, 0, none⟩), .int .i64 code, .bool refused, .int .i64 push, .int .i64 draw] w fun e w' => e = .returned (.tuple #[.bool false, .int .i64 0]) ∧ Upd2 w w' g gt (callC T F M X (.slice A n c) (.pointer (some ⟨gt, 0, none⟩)) tries waits r false true) (thrC (max 0 (tok - 1000)) most ratio) := by
  subst hd hco
  have hr1 : (r || refused) = r := by cases r <;> cases refused <;> simp_all
  have hgl := hg.lt
  have HS0 := (steps_any g T F M X xs A n c (.pointer (some ⟨gt, 0, none⟩)) tries waits r false false code push draw refused w hn (by omega) hx hg)
  rw [hli] at HS0
  have HS := Lib.hid HS0
  clear HS0
  go_enter Tryd.func15, Tryd.ntmps15
  go_wp2_with fail
  refine HS.out.mono ?_
  rintro e w1 ⟨rfl, hb1, k0, k1, k2, k3, k4⟩
  have E1 : EnvI w1 w.heap.size g code push draw refused true _ := ⟨k0, k1, k2, k3, k4, hg.below hb1 hgl⟩
  have U1 : Upd2 w w1 g gt _ _ := Upd2.start hb1 hg kt
  have HEw1 := Lib.hid E1
  have HUw1 := Lib.hid U1
  clear k0 k1 k2 k3 k4 hb1 E1 U1 HS hx hg kt
  generalize hh : w.heap.size = h at *
  go_wp2_with fail
  refine wp_loop_rounds 3 ?_
  rw [rounds_succ]
  have q0 : w1.cell? ⟨h + 4, 0, none⟩ = some (.func (.func 48) #[] #[.pointer (some ⟨h, 0, none⟩), .pointer (some ⟨h + 2, 0, none⟩)]) := HEw1.out.k4.cell 0
  have s0 := step1_any h g T F M X (.slice A n c) (.pointer (some ⟨gt, 0, none⟩)) tries waits r false false w1 HEw1.out.k0 HEw1.out.k2 HEw1.out.kg
  rw [Bool.or_false] at s0
  unfold verd at s0
  have S0 := Lib.hid s0
  clear s0
  go_wp2_with fail
  refine S0.out.mono ?_
  rintro e w2 ⟨rfl, hu0⟩
  have E0 := HEw1.out.below hu0
  have V0 := HUw1.out.below hu0
  have HEw2 := Lib.hid E0
  have HVw2 := Lib.hid V0
  clear S0 E0 V0 HEw1 HUw1 q0 hu0
  go_wp2_with fail
  have HEw3 := Lib.hid (HEw2.out.below ((Below.refl _ w2).alloc (Nat.le_refl _) (.cells #[.bool false, .bool false, .int .i64 0] 81)))
  have HUw3 := Lib.hid (HVw2.out.alloc (.cells #[.bool false, .bool false, .int .i64 0] 81))
  clear HEw2 HVw2
  generalize w2.alloc (.cells #[.bool false, .bool false, .int .i64 0] 81) = w3 at *
  rw [rounds_succ]
  have q1 : w3.cell? ⟨h + 4, 1, none⟩ = some (.func (.func 49) #[] #[.pointer (some ⟨h + 1, 0, none⟩), .pointer (some ⟨h, 0, none⟩)]) := HEw3.out.k4.cell 1
  have s1 := step2_any h g T F M X (.slice A n c) (.pointer (some ⟨gt, 0, none⟩)) tries waits r false false code push draw refused w3 HEw3.out.k0 HEw3.out.k1 HEw3.out.kg
  rw [hr, hr1] at s1
  unfold verd at s1
  have S1 := Lib.hid s1
  clear s1
  go_wp2_with fail
  refine S1.out.mono ?_
  rintro e w4 ⟨rfl, hu1⟩
  have E1 := HEw3.out.upd hgl hu1
  have V1 := HUw3.out.upd hu1
  have HEw4 := Lib.hid E1
  have HVw4 := Lib.hid V1
  clear S1 E1 V1 HEw3 HUw3 q1 hu1
  go_wp2_with fail
  have HEw5 := Lib.hid (HEw4.out.below ((Below.refl _ w4).alloc (Nat.le_refl _) (.cells #[.bool false, .bool false, .int .i64 0] 81)))
  have HUw5 := Lib.hid (HVw4.out.alloc (.cells #[.bool false, .bool false, .int .i64 0] 81))
  clear HEw4 HVw4
  generalize w4.alloc (.cells #[.bool false, .bool false, .int .i64 0] 81) = w5 at *
  rw [rounds_succ]
  have q2 : w5.cell? ⟨h + 4, 2, none⟩ = some (.func (.func 50) #[] #[.pointer (some ⟨h, 0, none⟩), .pointer (some ⟨h + 3, 0, none⟩), .pointer (some ⟨h + 1, 0, none⟩), .pointer (some ⟨h + 2, 0, none⟩)]) := HEw5.out.k4.cell 2
  have s2 := step3_thr h g gt T F M X (.slice A n c) tries waits r false false code push draw refused tok most ratio w5 htok hpu htr HEw5.out.k0 HEw5.out.k1 HEw5.out.k2 HEw5.out.k3 HEw5.out.kg HUw5.out.kt
  rw [hop] at s2
  unfold verd at s2
  have S2 := Lib.hid s2
  clear s2
  go_wp2_with fail
  refine S2.out.mono ?_
  rintro e w6 ⟨rfl, kt2, hu2⟩
  have E2 := HEw5.out.thr HUw5.out.kt hu2
  have V2 := HUw5.out.thr kt2 hu2
  have x10 : w6.cell? ⟨g, 10, none⟩ = some (.bool false) := E2.kg.cell 10
  have y10 : w6.frozen? ⟨g, 10, none⟩ = false := E2.kg.frozen 10
  have z10 : g < w6.heap.size := E2.kg.lt
  have HV2 := Lib.hid V2
  clear S2 E2 V2 HEw5 HUw5 q2 hu2 kt2
  go_wp2_with fail
  go_quiet (fail)
  go_wp2
  go_ret2
  exact ⟨rfl, ((HV2.out.set 10 _).alloc _).drewN nq⟩
set_option maxRecDepth 100000 in
set_option maxHeartbeats 4000000 in
theorem failedt_yes (g gt T F M X : Nat) (tok most ratio : Int) (xs : List Int) (A : Option Addr) (n c : Nat) (tries waits : Int) (r co d : Bool) (code push draw : Int) (refused : Bool) (w : World) (hF : F ≤ 1000000) (hM : M ≤ 1000000) (hX : X ≤ 100) (ht : 0 ≤ tries ∧ tries ≤ 1000000000) (hw : 0 ≤ waits ∧ waits ≤ 1000000000)
    (hn : xs.length = n) (hcap : n ≤ 1000000) (hx : IntsAt w A xs) (kt : Blk w gt 83 (thrC tok most ratio)) (htok : 0 ≤ tok ∧ tok ≤ 1000000) (hg : Blk w g 74 (callC T F M X (.slice A n c) (.pointer (some ⟨gt, 0, none⟩)) tries waits r co d)) (hd : d = false) (hco : co = false) (hr : (refused && !r) = false) (hli : decide (code ∈ xs) = true) (hpu : push ≠ -2) (htr : tries < T) (hop : (!decide (most < 2 * max 0 (tok - 1000))) = false) :
    Calls Tryd.prog 15 #[.pointer (some ⟨g, 0, none⟩), .int .i64 code, .bool refused, .int .i64 push, .int .i64 draw] w fun e w' => e = .returned (.tuple #[.bool true, .int .i64 (if 0 ≤ push then push else (waitN F M X (waits + 1) draw : Nat))]) ∧ Upd2 w w' g gt (callC T F M X (.slice A n c) (.pointer (some ⟨gt, 0, none⟩)) (tries + 1) (if 0 ≤ push then 0 else waits + 1) r false false) (thrC (max 0 (tok - 1000)) most ratio) := by
  subst hd hco
  have hr1 : (r || refused) = r := by cases r <;> cases refused <;> simp_all
  obtain ⟨ms, hms⟩ : ∃ ms : Int, ms = (if 0 ≤ push then push else (waitN F M X (waits + 1) draw : Nat)) := ⟨_, rfl⟩
  obtain ⟨wt, hwt⟩ : ∃ wt : Int, wt = (if 0 ≤ push then 0 else waits + 1) := ⟨_, rfl⟩
  rw [← hms, ← hwt]
  have HMS := Lib.hid hms
  have HWT := Lib.hid hwt
  clear hms hwt
  have hgl := hg.lt
  have HS0 := (steps_any g T F M X xs A n c (.pointer (some ⟨gt, 0, none⟩)) tries waits r false false code push draw refused w hn (by omega) hx hg)
  rw [hli] at HS0
  have HS := Lib.hid HS0
  clear HS0
  go_enter Tryd.func15, Tryd.ntmps15
  go_wp2_with fail
  refine HS.out.mono ?_
  rintro e w1 ⟨rfl, hb1, k0, k1, k2, k3, k4⟩
  have E1 : EnvI w1 w.heap.size g code push draw refused true _ := ⟨k0, k1, k2, k3, k4, hg.below hb1 hgl⟩
  have U1 : Upd2 w w1 g gt _ _ := Upd2.start hb1 hg kt
  have HEw1 := Lib.hid E1
  have HUw1 := Lib.hid U1
  clear k0 k1 k2 k3 k4 hb1 E1 U1 HS hx hg kt
  generalize hh : w.heap.size = h at *
  go_wp2_with fail
  refine wp_loop_rounds 4 ?_
  rw [rounds_succ]
  have q0 : w1.cell? ⟨h + 4, 0, none⟩ = some (.func (.func 48) #[] #[.pointer (some ⟨h, 0, none⟩), .pointer (some ⟨h + 2, 0, none⟩)]) := HEw1.out.k4.cell 0
  have s0 := step1_any h g T F M X (.slice A n c) (.pointer (some ⟨gt, 0, none⟩)) tries waits r false false w1 HEw1.out.k0 HEw1.out.k2 HEw1.out.kg
  rw [Bool.or_false] at s0
  unfold verd at s0
  have S0 := Lib.hid s0
  clear s0
  go_wp2_with fail
  refine S0.out.mono ?_
  rintro e w2 ⟨rfl, hu0⟩
  have E0 := HEw1.out.below hu0
  have V0 := HUw1.out.below hu0
  have HEw2 := Lib.hid E0
  have HVw2 := Lib.hid V0
  clear S0 E0 V0 HEw1 HUw1 q0 hu0
  go_wp2_with fail
  have HEw3 := Lib.hid (HEw2.out.below ((Below.refl _ w2).alloc (Nat.le_refl _) (.cells #[.bool false, .bool false, .int .i64 0] 81)))
  have HUw3 := Lib.hid (HVw2.out.alloc (.cells #[.bool false, .bool false, .int .i64 0] 81))
  clear HEw2 HVw2
  generalize w2.alloc (.cells #[.bool false, .bool false, .int .i64 0] 81) = w3 at *
  rw [rounds_succ]
  have q1 : w3.cell? ⟨h + 4, 1, none⟩ = some (.func (.func 49) #[] #[.pointer (some ⟨h + 1, 0, none⟩), .pointer (some ⟨h, 0, none⟩)]) := HEw3.out.k4.cell 1
  have s1 := step2_any h g T F M X (.slice A n c) (.pointer (some ⟨gt, 0, none⟩)) tries waits r false false code push draw refused w3 HEw3.out.k0 HEw3.out.k1 HEw3.out.kg
  rw [hr, hr1] at s1
  unfold verd at s1
  have S1 := Lib.hid s1
  clear s1
  go_wp2_with fail
  refine S1.out.mono ?_
  rintro e w4 ⟨rfl, hu1⟩
  have E1 := HEw3.out.upd hgl hu1
  have V1 := HUw3.out.upd hu1
  have HEw4 := Lib.hid E1
  have HVw4 := Lib.hid V1
  clear S1 E1 V1 HEw3 HUw3 q1 hu1
  go_wp2_with fail
  have HEw5 := Lib.hid (HEw4.out.below ((Below.refl _ w4).alloc (Nat.le_refl _) (.cells #[.bool false, .bool false, .int .i64 0] 81)))
  have HUw5 := Lib.hid (HVw4.out.alloc (.cells #[.bool false, .bool false, .int .i64 0] 81))
  clear HEw4 HVw4
  generalize w4.alloc (.cells #[.bool false, .bool false, .int .i64 0] 81) = w5 at *
  rw [rounds_succ]
  have q2 : w5.cell? ⟨h + 4, 2, none⟩ = some (.func (.func 50) #[] #[.pointer (some ⟨h, 0, none⟩), .pointer (some ⟨h + 3, 0, none⟩), .pointer (some ⟨h + 1, 0, none⟩), .pointer (some ⟨h + 2, 0, none⟩)]) := HEw5.out.k4.cell 2
  have s2 := step3_thr h g gt T F M X (.slice A n c) tries waits r false false code push draw refused tok most ratio w5 htok hpu htr HEw5.out.k0 HEw5.out.k1 HEw5.out.k2 HEw5.out.k3 HEw5.out.kg HUw5.out.kt
  rw [hop] at s2
  unfold verd at s2
  have S2 := Lib.hid s2
  clear s2
  go_wp2_with fail
  refine S2.out.mono ?_
  rintro e w6 ⟨rfl, kt2, hu2⟩
  have E2 := HEw5.out.thr HUw5.out.kt hu2
  have V2 := HUw5.out.thr kt2 hu2
  have HEw6 := Lib.hid E2
  have HVw6 := Lib.hid V2
  clear S2 E2 V2 HEw5 HUw5 q2 hu2 kt2
  go_wp2_with fail
  have HEw7 := Lib.hid (HEw6.out.below ((Below.refl _ w6).alloc (Nat.le_refl _) (.cells #[.bool false, .bool false, .int .i64 0] 81)))
  have HUw7 := Lib.hid (HVw6.out.alloc (.cells #[.bool false, .bool false, .int .i64 0] 81))
  clear HEw6 HVw6
  generalize w6.alloc (.cells #[.bool false, .bool false, .int .i64 0] 81) = w7 at *
  rw [rounds_succ]
  have q3 : w7.cell? ⟨h + 4, 3, none⟩ = some (.func (.func 51) #[] #[.pointer (some ⟨h, 0, none⟩), .pointer (some ⟨h + 1, 0, none⟩)]) := HEw7.out.k4.cell 3
  have s3 := step4_any h g T F M X A n c (.pointer (some ⟨gt, 0, none⟩)) tries waits r false false code push draw refused w7 hF hM hX ht hw HEw7.out.k0 HEw7.out.k1 hgl HEw7.out.kg
  rw [← HMS.out, ← HWT.out] at s3
  unfold verd at s3
  have S3 := Lib.hid s3
  clear s3
  go_wp2_with fail
  refine S3.out.mono ?_
  rintro e w8 ⟨rfl, hu3⟩
  have E3 := HEw7.out.upd hgl hu3
  have V3 := HUw7.out.upd hu3
  have x10 : w8.cell? ⟨g, 10, none⟩ = some (.bool false) := E3.kg.cell 10
  have y10 : w8.frozen? ⟨g, 10, none⟩ = false := E3.kg.frozen 10
  have z10 : g < w8.heap.size := E3.kg.lt
  have HV3 := Lib.hid V3
  clear S3 E3 V3 HEw7 HUw7 q3 hu3
  go_wp2_with fail
  go_quiet (fail)
  go_wp2
  go_ret2
  exact ⟨rfl, ((HV3.out.set 10 _).alloc _).drewN nq⟩
end Go.Proofs.YtnmcjdiihebagaaDoor.Pol
