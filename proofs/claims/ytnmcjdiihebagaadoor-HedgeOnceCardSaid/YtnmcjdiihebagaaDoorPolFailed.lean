/-
  The walk of Failed, without a throttle: four ways.
-/
import Derived.Test.YtnmcjdiihebagaaDoorPolClos
import Derived.Deep.QuietTactic
import Derived.BigQuiet
namespace Go.Proofs.YtnmcjdiihebagaaDoor.Pol
open Go.RowKit
/-- what the rounds stand on -/
structure EnvI (w : World) (h g : Nat) (code push draw : Int) (refused listed : Bool) (cs : Array Value) : Prop where
  k0 : Blk w h 34 #[.pointer (some ⟨g, 0, none⟩)]
  k1 : Blk w (h + 1) 78 #[.int .i64 code, .int .i64 push, .int .i64 draw, .bool refused]
  k2 : Blk w (h + 2) 81 (verd true false 0)
  k3 : Blk w (h + 3) 4 #[.bool listed]
  k4 : Blk w (h + 4) 79 (stepsV h)
  kg : Blk w g 74 cs
section
variable {w w' : World} {h g : Nat} {code push draw : Int} {refused listed : Bool} {cs cs' : Array Value}
theorem EnvI.below (e : EnvI w h g code push draw refused listed cs) (hb : Below w.heap.size w w') : EnvI w' h g code push draw refused listed cs :=
  ⟨e.k0.below hb e.k0.lt, e.k1.below hb e.k1.lt, e.k2.below hb e.k2.lt, e.k3.below hb e.k3.lt, e.k4.below hb e.k4.lt, e.kg.below hb e.kg.lt⟩
theorem EnvI.upd (e : EnvI w h g code push draw refused listed cs) (hgh : g < h) (u : Upd w w' g cs') : EnvI w' h g code push draw refused listed cs' :=
  ⟨e.k0.grown u.2 (fun x => by injection x; omega), e.k1.grown u.2 (fun x => by injection x; omega), e.k2.grown u.2 (fun x => by injection x; omega), e.k3.grown u.2 (fun x => by injection x; omega), e.k4.grown u.2 (fun x => by injection x; omega), u.1⟩
theorem Upd.below {w0 : World} (u : Upd w0 w g cs) (hb : Below w.heap.size w w') : Upd w0 w' g cs := ⟨u.1.below hb u.1.lt, only_below u.2 hb⟩
theorem Upd.trans {w0 : World} (u : Upd w0 w g cs) (v : Upd w w' g cs') : Upd w0 w' g cs' :=
  ⟨v.1, v.2.os.trans u.2.os, v.2.tape.trans u.2.tape, v.2.output.trans u.2.output, Nat.le_trans u.2.size v.2.size, fun i hi hn => (v.2.block i (Nat.lt_of_lt_of_le hi u.2.size) hn).trans (u.2.block i hi hn)⟩
theorem Upd.alloc {w0 : World} (u : Upd w0 w g cs) (o : Obj) : Upd w0 (w.alloc o) g cs := u.below ((Below.refl _ w).alloc (Nat.le_refl _) o)
theorem Upd.set {w0 : World} (u : Upd w0 w g cs) (i : Nat) (x : Value) : Upd w0 (w.setCell ⟨g, i, none⟩ x) g (cs.setIfInBounds i x) := ⟨u.1.set_ i x, only_setCell u.2 (Or.inl rfl) x⟩
theorem Upd.drewN {w0 : World} (u : Upd w0 w g cs) (n : Nat) : Upd w0 (w.drewN n) g cs := ⟨u.1.drewN n, only_drewN u.2 n⟩
end
set_option maxRecDepth 100000 in
set_option maxHeartbeats 4000000 in
theorem failed_done (g T F M X : Nat) (xs : List Int) (A : Option Addr) (n c : Nat) (tries waits : Int) (r co d : Bool) (code push draw : Int) (refused : Bool) (w : World)
    (hn : xs.length = n) (hcap : n ≤ 1000000) (hx : IntsAt w A xs) (hg : Blk w g 74 (callC T F M X (.slice A n c) (.pointer none) tries waits r co d)) (hd : d = true) :
    Calls Tryd.prog 15 #[.pointer (some ⟨g, 0, none⟩), .int .i64 code, .bool refused, .int .i64 push, .int .i64 draw] w fun e w' => e = .returned (.tuple #[.bool false, .int .i64 0]) ∧ Upd w w' g (callC T F M X (.slice A n c) (.pointer none) tries waits r co true) := by
  subst hd
  have hgl := hg.lt
  have HS := Lib.hid (steps_any g T F M X xs A n c (.pointer none) tries waits r co true code push draw refused w hn (by omega) hx hg)
  go_enter Tryd.func15, Tryd.ntmps15
  go_wp2_with fail
  refine HS.out.mono ?_
  rintro e w1 ⟨rfl, hb1, k0, k1, k2, k3, k4⟩
  have E1 : EnvI w1 w.heap.size g code push draw refused (decide (code ∈ xs)) _ := ⟨k0, k1, k2, k3, k4, hg.below hb1 hgl⟩
  have U1 : Upd w w1 g _ := ⟨hg.below hb1 hgl, only_of_below hb1 _⟩
  have HEw1 := Lib.hid E1
  have HUw1 := Lib.hid U1
  clear k0 k1 k2 k3 k4 hb1 E1 U1 HS hx hg
  generalize hh : w.heap.size = h at *
  go_wp2_with fail
  refine wp_loop_rounds 1 ?_
  rw [rounds_succ]
  have q0 : w1.cell? ⟨h + 4, 0, none⟩ = some (.func (.func 48) #[] #[.pointer (some ⟨h, 0, none⟩), .pointer (some ⟨h + 2, 0, none⟩)]) := HEw1.out.k4.cell 0
  have s0 := step1_any h g T F M X (.slice A n c) (.pointer none) tries waits r co true w1 HEw1.out.k0 HEw1.out.k2 HEw1.out.kg
  rw [Bool.or_true] at s0
  unfold verd at s0
  have S0 := Lib.hid s0
  clear s0
  go_wp2_with fail
  refine S0.out.mono ?_
  rintro e w2 ⟨rfl, hu0⟩
  have E0 := HEw1.out.below hu0
  have V0 := HUw1.out.below hu0
  have x10 : w2.cell? ⟨g, 10, none⟩ = some (.bool true) := E0.kg.cell 10
  have y10 : w2.frozen? ⟨g, 10, none⟩ = false := E0.kg.frozen 10
  have z10 : g < w2.heap.size := E0.kg.lt
  have HV0 := Lib.hid V0
  clear S0 E0 V0 HEw1 HUw1 q0 hu0
  go_wp2_with fail
  go_quiet (fail)
  go_wp2
  go_ret2
  exact ⟨rfl, ((HV0.out.set 10 _).alloc _).drewN nq⟩
set_option maxRecDepth 100000 in
set_option maxHeartbeats 4000000 in
theorem failed_com (g T F M X : Nat) (xs : List Int) (A : Option Addr) (n c : Nat) (tries waits : Int) (r co d : Bool) (code push draw : Int) (refused : Bool) (w : World)
    (hn : xs.length = n) (hcap : n ≤ 1000000) (hx : IntsAt w A xs) (hg : Blk w g 74 (callC T F M X (.slice A n c) (.pointer none) tries waits r co d)) (hd : d = false) (hco : co = true) :
    Calls Tryd.prog 15 #[.pointer (some ⟨g, 0, none⟩), .int .i64 code, .bool refused, .int .i64 push, .int .i64 draw] w fun e w' => e = .returned (.tuple #[.bool false, .int .i64 0]) ∧ Upd w w' g (callC T F M X (.slice A n c) (.pointer none) tries waits r true true) := by
  subst hd hco
  have hgl := hg.lt
  have HS := Lib.hid (steps_any g T F M X xs A n c (.pointer none) tries waits r true false code push draw refused w hn (by omega) hx hg)
  go_enter Tryd.func15, Tryd.ntmps15
  go_wp2_with fail
  refine HS.out.mono ?_
  rintro e w1 ⟨rfl, hb1, k0, k1, k2, k3, k4⟩
  have E1 : EnvI w1 w.heap.size g code push draw refused (decide (code ∈ xs)) _ := ⟨k0, k1, k2, k3, k4, hg.below hb1 hgl⟩
  have U1 : Upd w w1 g _ := ⟨hg.below hb1 hgl, only_of_below hb1 _⟩
  have HEw1 := Lib.hid E1
  have HUw1 := Lib.hid U1
  clear k0 k1 k2 k3 k4 hb1 E1 U1 HS hx hg
  generalize hh : w.heap.size = h at *
  go_wp2_with fail
  refine wp_loop_rounds 1 ?_
  rw [rounds_succ]
  have q0 : w1.cell? ⟨h + 4, 0, none⟩ = some (.func (.func 48) #[] #[.pointer (some ⟨h, 0, none⟩), .pointer (some ⟨h + 2, 0, none⟩)]) := HEw1.out.k4.cell 0
  have s0 := step1_any h g T F M X (.slice A n c) (.pointer none) tries waits r true false w1 HEw1.out.k0 HEw1.out.k2 HEw1.out.kg
  rw [Bool.true_or] at s0
  unfold verd at s0
  have S0 := Lib.hid s0
  clear s0
  go_wp2_with fail
  refine S0.out.mono ?_
  rintro e w2 ⟨rfl, hu0⟩
  have E0 := HEw1.out.below hu0
  have V0 := HUw1.out.below hu0
  have x10 : w2.cell? ⟨g, 10, none⟩ = some (.bool false) := E0.kg.cell 10
  have y10 : w2.frozen? ⟨g, 10, none⟩ = false := E0.kg.frozen 10
  have z10 : g < w2.heap.size := E0.kg.lt
  have HV0 := Lib.hid V0
  clear S0 E0 V0 HEw1 HUw1 q0 hu0
  go_wp2_with fail
  go_quiet (fail)
  go_wp2
  go_ret2
  exact ⟨rfl, ((HV0.out.set 10 _).alloc _).drewN nq⟩
set_option maxRecDepth 100000 in
set_option maxHeartbeats 4000000 in
theorem failed_ref (g T F M X : Nat) (xs : List Int) (A : Option Addr) (n c : Nat) (tries waits : Int) (r co d : Bool) (code push draw : Int) (refused : Bool) (w : World)
    (hn : xs.length = n) (hcap : n ≤ 1000000) (hx : IntsAt w A xs) (hg : Blk w g 74 (callC T F M X (.slice A n c) (.pointer none) tries waits r co d)) (hd : d = false) (hco : co = false) (hr : (refused && !r) = true) :
    Calls Tryd.prog 15 #[.pointer (some ⟨g, 0, none⟩), .int .i64 code, .bool refused, .int .i64 push, .int .i64 draw] w fun e w' => e = .returned (.tuple #[.bool true, .int .i64 0]) ∧ Upd w w' g (callC T F M X (.slice A n c) (.pointer none) tries waits true false false) := by
  subst hd hco
  have hr1 : (r || refused) = true := by cases r <;> cases refused <;> simp_all
  have hgl := hg.lt
  have HS := Lib.hid (steps_any g T F M X xs A n c (.pointer none) tries waits r false false code push draw refused w hn (by omega) hx hg)
  go_enter Tryd.func15, Tryd.ntmps15
  go_wp2_with fail
  refine HS.out.mono ?_
  rintro e w1 ⟨rfl, hb1, k0, k1, k2, k3, k4⟩
  have E1 : EnvI w1 w.heap.size g code push draw refused (decide (code ∈ xs)) _ := ⟨k0, k1, k2, k3, k4, hg.below hb1 hgl⟩
  have U1 : Upd w w1 g _ := ⟨hg.below hb1 hgl, only_of_below hb1 _⟩
  have HEw1 := Lib.hid E1
  have HUw1 := Lib.hid U1
  clear k0 k1 k2 k3 k4 hb1 E1 U1 HS hx hg
  generalize hh : w.heap.size = h at *
  go_wp2_with fail
  refine wp_loop_rounds 2 ?_
  rw [rounds_succ]
  have q0 : w1.cell? ⟨h + 4, 0, none⟩ = some (.func (.func 48) #[] #[.pointer (some ⟨h, 0, none⟩), .pointer (some ⟨h + 2, 0, none⟩)]) := HEw1.out.k4.cell 0
  have s0 := step1_any h g T F M X (.slice A n c) (.pointer none) tries waits r false false w1 HEw1.out.k0 HEw1.out.k2 HEw1.out.kg
  rw [Bool.or_false] at s0
  unfold verd at s0
  have S0 := Lib.hid s0
  clear s0
  go_wp2_with fail
  refine S0.out.mono ?_
  rintro e w2 ⟨rfl, hu0⟩
  have E0 := HEw1.out.below hu0
  have V0 := HUw1.out.below hu0
  have HEw2 := Lib.hid E0
  have HVw2 := Lib.hid V0
  clear S0 E0 V0 HEw1 HUw1 q0 hu0
  go_wp2_with fail
  have HEw3 := Lib.hid (HEw2.out.below ((Below.refl _ w2).alloc (Nat.le_refl _) (.cells #[.bool false, .bool false, .int .i64 0] 81)))
  have HUw3 := Lib.hid (HVw2.out.alloc (.cells #[.bool false, .bool false, .int .i64 0] 81))
  clear HEw2 HVw2
  generalize w2.alloc (.cells #[.bool false, .bool false, .int .i64 0] 81) = w3 at *
  rw [rounds_succ]
  have q1 : w3.cell? ⟨h + 4, 1, none⟩ = some (.func (.func 49) #[] #[.pointer (some ⟨h + 1, 0, none⟩), .pointer (some ⟨h, 0, none⟩)]) := HEw3.out.k4.cell 1
  have s1 := step2_any h g T F M X (.slice A n c) (.pointer none) tries waits r false false code push draw refused w3 HEw3.out.k0 HEw3.out.k1 HEw3.out.kg
  rw [hr, hr1] at s1
  unfold verd at s1
  have S1 := Lib.hid s1
  clear s1
  go_wp2_with fail
  refine S1.out.mono ?_
  rintro e w4 ⟨rfl, hu1⟩
  have E1 := HEw3.out.upd hgl hu1
  have V1 := HUw3.out.trans hu1
  have x10 : w4.cell? ⟨g, 10, none⟩ = some (.bool false) := E1.kg.cell 10
  have y10 : w4.frozen? ⟨g, 10, none⟩ = false := E1.kg.frozen 10
  have z10 : g < w4.heap.size := E1.kg.lt
  have HV1 := Lib.hid V1
  clear S1 E1 V1 HEw3 HUw3 q1 hu1
  go_wp2_with fail
  go_quiet (fail)
  go_wp2
  go_ret2
  exact ⟨rfl, ((HV1.out.set 10 _).alloc _).drewN nq⟩
set_option maxRecDepth 100000 in
set_option maxHeartbeats 4000000 in
theorem failed_no (g T F M X : Nat) (xs : List Int) (A : Option Addr) (n c : Nat) (tries waits : Int) (r co d : Bool) (code push draw : Int) (refused : Bool) (w : World)
    (hn : xs.length = n) (hcap : n ≤ 1000000) (hx : IntsAt w A xs) (hg : Blk w g 74 (callC T F M X (.slice A n c) (.pointer none) tries waits r co d)) (hd : d = false) (hco : co = false) (hr : (refused && !r) = false) (hno : (!(decide (code ∈ xs)) || decide (push = -2) || decide ((T : Int) ≤ tries)) = true) :
    Calls Tryd.prog 15 #[.pointer (some ⟨g, 0, none⟩), .int .i64 code, .bool refused, .int .i64 push, .int .i64 draw] w fun e w' => e = .returned (.tuple #[.bool false, .int .i64 0]) ∧ Upd w w' g (callC T F M X (.slice A n c) (.pointer none) tries waits r false true) := by
  subst hd hco
  have hr1 : (r || refused) = r := by cases r <;> cases refused <;> simp_all
  have hgl := hg.lt
  have HS := Lib.hid (steps_any g T F M X xs A n c (.pointer none) tries waits r false false code push draw refused w hn (by omega) hx hg)
  go_enter Tryd.func15, Tryd.ntmps15
  go_wp2_with fail
  refine HS.out.mono ?_
  rintro e w1 ⟨rfl, hb1, k0, k1, k2, k3, k4⟩
  have E1 : EnvI w1 w.heap.size g code push draw refused (decide (code ∈ xs)) _ := ⟨k0, k1, k2, k3, k4, hg.below hb1 hgl⟩
  have U1 : Upd w w1 g _ := ⟨hg.below hb1 hgl, only_of_below hb1 _⟩
  have HEw1 := Lib.hid E1
  have HUw1 := Lib.hid U1
  clear k0 k1 k2 k3 k4 hb1 E1 U1 HS hx hg
  generalize hh : w.heap.size = h at *
  go_wp2_with fail
  refine wp_loop_rounds 3 ?_
  rw [rounds_succ]
  have q0 : w1.cell? ⟨h + 4, 0, none⟩ = some (.func (.func 48) #[] #[.pointer (some ⟨h, 0, none⟩), .pointer (some ⟨h + 2, 0, none⟩)]) := HEw1.out.k4.cell 0
  have s0 := step1_any h g T F M X (.slice A n c) (.pointer none) tries waits r false false w1 HEw1.out.k0 HEw1.out.k2 HEw1.out.kg
  rw [Bool.or_false] at s0
  unfold verd at s0
  have S0 := Lib.hid s0
  clear s0
  go_wp2_with fail
  refine S0.out.mono ?_
  rintro e w2 ⟨rfl, hu0⟩
  have E0 := HEw1.out.below hu0
  have V0 := HUw1.out.below hu0
  have HEw2 := Lib.hid E0
  have HVw2 := Lib.hid V0
  clear S0 E0 V0 HEw1 HUw1 q0 hu0
  go_wp2_with fail
  have HEw3 := Lib.hid (HEw2.out.below ((Below.refl _ w2).alloc (Nat.le_refl _) (.cells #[.bool false, .bool false, .int .i64 0] 81)))
  have HUw3 := Lib.hid (HVw2.out.alloc (.cells #[.bool false, .bool false, .int .i64 0] 81))
  clear HEw2 HVw2
  generalize w2.alloc (.cells #[.bool false, .bool false, .int .i64 0] 81) = w3 at *
  rw [rounds_succ]
  have q1 : w3.cell? ⟨h + 4, 1, none⟩ = some (.func (.func 49) #[] #[.pointer (some ⟨h + 1, 0, none⟩), .pointer (some ⟨h, 0, none⟩)]) := HEw3.out.k4.cell 1
  have s1 := step2_any h g T F M X (.slice A n c) (.pointer none) tries waits r false false code push draw refused w3 HEw3.out.k0 HEw3.out.k1 HEw3.out.kg
  rw [hr, hr1] at s1
  unfold verd at s1
  have S1 := Lib.hid s1
  clear s1
  go_wp2_with fail
  refine S1.out.mono ?_
  rintro e w4 ⟨rfl, hu1⟩
  have E1 := HEw3.out.upd hgl hu1
  have V1 := HUw3.out.trans hu1
  have HEw4 := Lib.hid E1
  have HVw4 := Lib.hid V1
  clear S1 E1 V1 HEw3 HUw3 q1 hu1
  go_wp2_with fail
  have HEw5 := Lib.hid (HEw4.out.below ((Below.refl _ w4).alloc (Nat.le_refl _) (.cells #[.bool false, .bool false, .int .i64 0] 81)))
  have HUw5 := Lib.hid (HVw4.out.alloc (.cells #[.bool false, .bool false, .int .i64 0] 81))
  clear HEw4 HVw4
  generalize w4.alloc (.cells #[.bool false, .bool false, .int .i64 0] 81) = w5 at *
  rw [rounds_succ]
  have q2 : w5.cell? ⟨h + 4, 2, none⟩ = some (.func (.func 50) #[] #[.pointer (some ⟨h, 0, none⟩), .pointer (some ⟨h + 3, 0, none⟩), .pointer (some ⟨h + 1, 0, none⟩), .pointer (some ⟨h + 2, 0, none⟩)]) := HEw5.out.k4.cell 2
  have s2 := step3_nil h g T F M X (.slice A n c) tries waits r false false code push draw refused (decide (code ∈ xs)) w5 HEw5.out.k0 HEw5.out.k1 HEw5.out.k2 HEw5.out.k3 HEw5.out.kg
  rw [hno] at s2
  unfold verd at s2
  have S2 := Lib.hid s2
  clear s2
  go_wp2_with fail
  refine S2.out.mono ?_
  rintro e w6 ⟨rfl, hu2⟩
  have E2 := HEw5.out.below hu2
  have V2 := HUw5.out.below hu2
  have x10 : w6.cell? ⟨g, 10, none⟩ = some (.bool false) := E2.kg.cell 10
  have y10 : w6.frozen? ⟨g, 10, none⟩ = false := E2.kg.frozen 10
  have z10 : g < w6.heap.size := E2.kg.lt
  have HV2 := Lib.hid V2
  clear S2 E2 V2 HEw5 HUw5 q2 hu2
  go_wp2_with fail
  go_quiet (fail)
  go_wp2
  go_ret2
  exact ⟨rfl, ((HV2.out.set 10 _).alloc _).drewN nq⟩
set_option maxRecDepth 100000 in
set_option maxHeartbeats 4000000 in
theorem failed_yes (g T F M X : Nat) (xs : List Int) (A : Option Addr) (n c : Nat) (tries waits : Int) (r co d : Bool) (code push draw : Int) (refused : Bool) (w : World) (hF : F ≤ 1000000) (hM : M ≤ 1000000) (hX : X ≤ 100) (ht : 0 ≤ tries ∧ tries ≤ 1000000000) (hw : 0 ≤ waits ∧ waits ≤ 1000000000)
    (hn : xs.length = n) (hcap : n ≤ 1000000) (hx : IntsAt w A xs) (hg : Blk w g 74 (callC T F M X (.slice A n c) (.pointer none) tries waits r co d)) (hd : d = false) (hco : co = false) (hr : (refused && !r) = false) (hno : (!(decide (code ∈ xs)) || decide (push = -2) || decide ((T : Int) ≤ tries)) = false) :
    Calls Tryd.prog 15 #[.pointer (some ⟨g, 0, none⟩), .int .i64 code, .bool refused, .int .i64 push, .int .i64 draw] w fun e w' => e = .returned (.tuple #[.bool true, .int .i64 (if 0 ≤ push then push else (waitN F M X (waits + 1) draw : Nat))]) ∧ Upd w w' g (callC T F M X (.slice A n c) (.pointer none) (tries + 1) (if 0 ≤ push then 0 else waits + 1) r false false) := by
  subst hd hco
  have hr1 : (r || refused) = r := by cases r <;> cases refused <;> simp_all
  obtain ⟨ms, hms⟩ : ∃ ms : Int, ms = (if 0 ≤ push then push else (waitN F M X (waits + 1) draw : Nat)) := ⟨_, rfl⟩
  obtain ⟨wt, hwt⟩ : ∃ wt : Int, wt = (if 0 ≤ push then 0 else waits + 1) := ⟨_, rfl⟩
  rw [← hms, ← hwt]
  have HMS := Lib.hid hms
  have HWT := Lib.hid hwt
  clear hms hwt
  have hgl := hg.lt
  have HS := Lib.hid (steps_any g T F M X xs A n c (.pointer none) tries waits r false false code push draw refused w hn (by omega) hx hg)
  go_enter Tryd.func15, Tryd.ntmps15
  go_wp2_with fail
  refine HS.out.mono ?_
  rintro e w1 ⟨rfl, hb1, k0, k1, k2, k3, k4⟩
  have E1 : EnvI w1 w.heap.size g code push draw refused (decide (code ∈ xs)) _ := ⟨k0, k1, k2, k3, k4, hg.below hb1 hgl⟩
  have U1 : Upd w w1 g _ := ⟨hg.below hb1 hgl, only_of_below hb1 _⟩
  have HEw1 := Lib.hid E1
  have HUw1 := Lib.hid U1
  clear k0 k1 k2 k3 k4 hb1 E1 U1 HS hx hg
  generalize hh : w.heap.size = h at *
  go_wp2_with fail
  refine wp_loop_rounds 4 ?_
  rw [rounds_succ]
  have q0 : w1.cell? ⟨h + 4, 0, none⟩ = some (.func (.func 48) #[] #[.pointer (some ⟨h, 0, none⟩), .pointer (some ⟨h + 2, 0, none⟩)]) := HEw1.out.k4.cell 0
  have s0 := step1_any h g T F M X (.slice A n c) (.pointer none) tries waits r false false w1 HEw1.out.k0 HEw1.out.k2 HEw1.out.kg
  rw [Bool.or_false] at s0
  unfold verd at s0
  have S0 := Lib.hid s0
  clear s0
  go_wp2_with fail
  refine S0.out.mono ?_
  rintro e w2 ⟨rfl, hu0⟩
  have E0 := HEw1.out.below hu0
  have V0 := HUw1.out.below hu0
  have HEw2 := Lib.hid E0
  have HVw2 := Lib.hid V0
  clear S0 E0 V0 HEw1 HUw1 q0 hu0
  go_wp2_with fail
  have HEw3 := Lib.hid (HEw2.out.below ((Below.refl _ w2).alloc (Nat.le_refl _) (.cells #[.bool false, .bool false, .int .i64 0] 81)))
  have HUw3 := Lib.hid (HVw2.out.alloc (.cells #[.bool false, .bool false, .int .i64 0] 81))
  clear HEw2 HVw2
  generalize w2.alloc (.cells #[.bool false, .bool false, .int .i64 0] 81) = w3 at *
  rw [rounds_succ]
  have q1 : w3.cell? ⟨h + 4, 1, none⟩ = some (.func (.func 49) #[] #[.pointer (some ⟨h + 1, 0, none⟩), .pointer (some ⟨h, 0, none⟩)]) := HEw3.out.k4.cell 1
  have s1 := step2_any h g T F M X (.slice A n c) (.pointer none) tries waits r false false code push draw refused w3 HEw3.out.k0 HEw3.out.k1 HEw3.out.kg
  rw [hr, hr1] at s1
  unfold verd at s1
  have S1 := Lib.hid s1
  clear s1
  go_wp2_with fail
  refine S1.out.mono ?_
  rintro e w4 ⟨rfl, hu1⟩
  have E1 := HEw3.out.upd hgl hu1
  have V1 := HUw3.out.trans hu1
  have HEw4 := Lib.hid E1
  have HVw4 := Lib.hid V1
  clear S1 E1 V1 HEw3 HUw3 q1 hu1
  go_wp2_with fail
  have HEw5 := Lib.hid (HEw4.out.below ((Below.refl _ w4).alloc (Nat.le_refl _) (.cells #[.bool false, .bool false, .int .i64 0] 81)))
  have HUw5 := Lib.hid (HVw4.out.alloc (.cells #[.bool false, .bool false, .int .i64 0] 81))
  clear HEw4 HVw4
  generalize w4.alloc (.cells #[.bool false, .bool false, .int .i64 0] 81) = w5 at *
  rw [rounds_succ]
  have q2 : w5.cell? ⟨h + 4, 2, none⟩ = some (.func (.func 50) #[] #[.pointer (some ⟨h, 0, none⟩), .pointer (some ⟨h + 3, 0, none⟩), .pointer (some ⟨h + 1, 0, none⟩), .pointer (some ⟨h + 2, 0, none⟩)]) := HEw5.out.k4.cell 2
  have s2 := step3_nil h g T F M X (.slice A n c) tries waits r false false code push draw refused (decide (code ∈ xs)) w5 HEw5.out.k0 HEw5.out.k1 HEw5.out.k2 HEw5.out.k3 HEw5.out.kg
  rw [hno] at s2
  unfold verd at s2
  have S2 := Lib.hid s2
  clear s2
  go_wp2_with fail
  refine S2.out.mono ?_
  rintro e w6 ⟨rfl, hu2⟩
  have E2 := HEw5.out.below hu2
  have V2 := HUw5.out.below hu2
  have HEw6 := Lib.hid E2
  have HVw6 := Lib.hid V2
  clear S2 E2 V2 HEw5 HUw5 q2 hu2
  go_wp2_with fail
  have HEw7 := Lib.hid (HEw6.out.below ((Below.refl _ w6).alloc (Nat.le_refl _) (.cells #[.bool false, .bool false, .int .i64 0] 81)))
  have HUw7 := Lib.hid (HVw6.out.alloc (.cells #[.bool false, .bool false, .int .i64 0] 81))
  clear HEw6 HVw6
  generalize w6.alloc (.cells #[.bool false, .bool false, .int .i64 0] 81) = w7 at *
  rw [rounds_succ]
  have q3 : w7.cell? ⟨h + 4, 3, none⟩ = some (.func (.func 51) #[] #[.pointer (some ⟨h, 0, none⟩), .pointer (some ⟨h + 1, 0, none⟩)]) := HEw7.out.k4.cell 3
  have s3 := step4_any h g T F M X A n c (.pointer none) tries waits r false false code push draw refused w7 hF hM hX ht hw HEw7.out.k0 HEw7.out.k1 hgl HEw7.out.kg
  rw [← HMS.out, ← HWT.out] at s3
  unfold verd at s3
  have S3 := Lib.hid s3
  clear s3
  go_wp2_with fail
  refine S3.out.mono ?_
  rintro e w8 ⟨rfl, hu3⟩
  have E3 := HEw7.out.upd hgl hu3
  have V3 := HUw7.out.trans hu3
  have x10 : w8.cell? ⟨g, 10, none⟩ = some (.bool false) := E3.kg.cell 10
  have y10 : w8.frozen? ⟨g, 10, none⟩ = false := E3.kg.frozen 10
  have z10 : g < w8.heap.size := E3.kg.lt
  have HV3 := Lib.hid V3
  clear S3 E3 V3 HEw7 HUw7 q3 hu3
  go_wp2_with fail
  go_quiet (fail)
  go_wp2
  go_ret2
  exact ⟨rfl, ((HV3.out.set 10 _).alloc _).drewN nq⟩
end Go.Proofs.YtnmcjdiihebagaaDoor.Pol
