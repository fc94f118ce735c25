/-
  The throttle's Good and refusal; the third closure with a throttle.
-/
import Derived.Test.YtnmcjdiihebagaaDoorPolMore
import Derived.StillTailTactics
namespace Go.Proofs.YtnmcjdiihebagaaDoor.Pol
open Go.RowKit
/-- a throttle's cells -/
def thrC (tok most ratio : Int) : Array Value := #[.int .i64 tok, .int .i64 most, .int .i64 ratio]
set_option maxRecDepth 100000 in
theorem newthr_no (m r : Int) (v : Value) (w : World) (h : ¬ (1 ≤ m ∧ m ≤ 1000) ∨ ¬ (1 ≤ r ∧ r ≤ 1000000)) (hv : w.cell? ⟨0, 0, none⟩ = some v) :
    Calls Tryd.prog 17 #[.int .i64 m, .int .i64 r] w fun e w' => e = .returned (.tuple #[.pointer none, v]) ∧ ∃ q, w' = w.drewN q := by
  have h1 := fun W => within_any m 1 1000 W
  have h2 := fun W => within_any r 1 1000000 W
  by_cases hm : 1 ≤ m ∧ m ≤ 1000
  · rw [decide_eq_true hm] at h1
    rw [decide_eq_false (by omega)] at h2
    have H1 := fun W => Lib.hid (h1 W)
    have H2 := fun W => Lib.hid (h2 W)
    clear h1 h2 h hm
    go_enter Tryd.func17, Tryd.ntmps17
    go_wp2_with fail
    refine (H1 _).out.mono ?_
    rintro e w' ⟨rfl, rfl⟩
    go_wp2_with fail
    refine (H2 _).out.mono ?_
    rintro e w' ⟨rfl, rfl⟩
    go_wp2_with fail
    go_quiet (fail)
    go_wp2
    go_ret2
    exact ⟨rfl, nq, rfl⟩
  · rw [decide_eq_false hm] at h1
    have H1 := fun W => Lib.hid (h1 W)
    clear h1 h2 h hm
    go_enter Tryd.func17, Tryd.ntmps17
    go_wp2_with fail
    refine (H1 _).out.mono ?_
    rintro e w' ⟨rfl, rfl⟩
    go_wp2_with fail
    go_quiet (fail)
    go_wp2
    go_ret2
    exact ⟨rfl, nq, rfl⟩
set_option maxRecDepth 100000 in
set_option maxHeartbeats 1000000 in
theorem good_any (g : Nat) (tok most ratio : Int) (w : World) (ht : 0 ≤ tok ∧ tok ≤ 1000000) (hr : 0 ≤ ratio ∧ ratio ≤ 1000000) (h : Blk w g 83 (thrC tok most ratio)) :
    Calls Tryd.prog 19 #[.pointer (some ⟨g, 0, none⟩)] w fun e w' => e = .returned (.tuple #[]) ∧ Blk w' g 83 (thrC (min most (tok + ratio)) most ratio) ∧ w.grownBy w' (some g) := by
  have c0 : w.cell? ⟨g, 0, none⟩ = some (.int .i64 tok) := h.cell 0
  have c1 : w.cell? ⟨g, 1, none⟩ = some (.int .i64 most) := h.cell 1
  have c2 : w.cell? ⟨g, 2, none⟩ = some (.int .i64 ratio) := h.cell 2
  have f0 : w.frozen? ⟨g, 0, none⟩ = false := h.frozen 0
  have H := Lib.hid h
  have hs : IntKind.i64.wrap (tok + ratio) = tok + ratio := by rw [IntKind.wrap_i64]; omega
  clear h
  by_cases hm : tok + ratio < most
  · have e : min most (tok + ratio) = tok + ratio := by omega
    rw [e]
    clear e
    go_enter Tryd.func19, Tryd.ntmps19
    go_wp2
    go_region
    all_goals
      go_end0
      exact ⟨rfl, H.out.drew.set_ 0 _, only_setCell (only_drew (World.grownBy.refl w (some g))) (Or.inl rfl) _⟩
  · have e : min most (tok + ratio) = most := by omega
    rw [e]
    clear e
    go_enter Tryd.func19, Tryd.ntmps19
    go_wp2
    go_region
    all_goals
      go_end0
      exact ⟨rfl, H.out.drew.set_ 0 _, only_setCell (only_drew (World.grownBy.refl w (some g))) (Or.inl rfl) _⟩
set_option maxRecDepth 100000 in
set_option maxHeartbeats 2000000 in
theorem step3_thr (h g gt : Nat) (T F M X : Int) (l : Value) (tries waits : Int) (r co d : Bool) (code push draw : Int) (refused : Bool) (tok most ratio : Int) (w : World) (ht : 0 ≤ tok ∧ tok ≤ 1000000) (hp : push ≠ -2) (htr : tries < T)
    (k0 : Blk w h 34 #[.pointer (some ⟨g, 0, none⟩)]) (k1 : Blk w (h + 1) 78 #[.int .i64 code, .int .i64 push, .int .i64 draw, .bool refused]) (k2 : Blk w (h + 2) 81 (verd true false 0)) (k3 : Blk w (h + 3) 4 #[.bool true]) (kg : Blk w g 74 (callC T F M X l (.pointer (some ⟨gt, 0, none⟩)) tries waits r co d)) (kt : Blk w gt 83 (thrC tok most ratio)) :
    Calls Tryd.prog 50 #[.pointer (some ⟨h, 0, none⟩), .pointer (some ⟨h + 3, 0, none⟩), .pointer (some ⟨h + 1, 0, none⟩), .pointer (some ⟨h + 2, 0, none⟩)] w fun e w' =>
      e = .returned (.agg (verd (!decide (most < 2 * max 0 (tok - 1000))) false 0)) ∧ Blk w' gt 83 (thrC (max 0 (tok - 1000)) most ratio) ∧ w.grownBy w' (some gt) := by
  obtain ⟨tok', htk⟩ : ∃ t : Int, t = max 0 (tok - 1000) := ⟨_, rfl⟩
  rw [← htk]
  obtain ⟨q, hq⟩ : ∃ q : Bool, q = decide (most < 2 * tok') := ⟨_, rfl⟩
  rw [← hq]
  have hok : ∀ W : World, Blk W gt 83 (thrC tok' most ratio) → Hid (Calls Tryd.prog 21 #[.pointer (some ⟨gt, 0, none⟩)] W fun e w' => e = .returned (.bool q) ∧ ∃ n, w' = W.drewN n) := by
    intro W hk
    rw [hq]
    exact Lib.hid (open_any gt tok' most ratio W (by omega) hk)
  have HO := Lib.hid hok
  have HTK := Lib.hid htk
  clear hok hq htk
  have n0 := Blk.ne_ k0 kt (by decide)
  have n1 := Blk.ne_ k1 kt (by decide)
  have n2 := Blk.ne_ k2 kt (by decide)
  have n3 := Blk.ne_ k3 kt (by decide)
  have ng := Blk.ne_ kg kt (by decide)
  have hp2 : (push == -2) = false := beq_eq_false_iff_ne.2 hp
  have htr2 : decide (T ≤ tries) = false := decide_eq_false (by omega)
  have c0 : w.cell? ⟨h, 0, none⟩ = some (.pointer (some ⟨g, 0, none⟩)) := k0.cell 0
  have g5 : w.cell? ⟨g, 5, none⟩ = some (.pointer (some ⟨gt, 0, none⟩)) := kg.cell 5
  have b0 : w.cell? ⟨h + 3, 0, none⟩ = some (.bool true) := k3.cell 0
  have l0 := k0.lt
  have l1 := k1.lt
  have l2 := k2.lt
  have l3 := k3.lt
  have lg := kg.lt
  have lt := kt.lt
  have K0 := Lib.hid k0
  have K1 := Lib.hid k1
  have K2 := Lib.hid k2
  have K3 := Lib.hid k3
  have KG := Lib.hid kg
  have KT := Lib.hid (kt.alloc (.cells (verd false false 0) 81))
  have HG0 := Lib.hid (only_alloc (World.grownBy.refl w (some gt)) (.cells (verd false false 0) 81))
  clear k0 k1 k2 k3 kg kt
  go_enter Tryd.func50, Tryd.ntmps50
  go_wp2_with fail
  have hFA := fail_any gt tok most ratio (w.alloc (.cells (verd false false 0) 81)) ht KT.out
  have HFA := Lib.hid hFA
  clear hFA
  unfold verd at HFA
  refine HFA.out.mono ?_
  rintro e w2 ⟨rfl, hw2⟩
  have kt2 : Blk w2 gt 83 (thrC tok' most ratio) := by rw [hw2, HTK.out]; exact KT.out.set_ 0 _
  have hg2 : w.grownBy w2 (some gt) := by rw [hw2]; exact only_setCell HG0.out (Or.inl rfl) _
  have kv2 : Blk w2 w.heap.size 81 (verd false false 0) := by rw [hw2]; exact (Blk.new w 81 (verd false false 0)).far (p := ⟨gt, 0, none⟩) (by show w.heap.size ≠ gt; omega) _
  have hsz : w.heap.size < w2.heap.size := kv2.lt
  have keep : ∀ (b o : Nat), b < w.heap.size → b ≠ gt → w2.cell? ⟨b, o, none⟩ = w.cell? ⟨b, o, none⟩ := fun b o hb hne => World.cell?_of_block (hg2.block b hb (fun e => hne (by injection e)))
  have d0 := (keep h 0 l0 n0).trans c0
  have d5 := (keep g 5 lg ng).trans g5
  have d6 : w2.cell? ⟨g, 6, none⟩ = some (.int .i64 tries) := (keep g 6 lg ng).trans (KG.out.cell 6)
  have dT : w2.cell? ⟨g, 0, none⟩ = some (.int .i64 T) := (keep g 0 lg ng).trans (KG.out.cell 0)
  have dp : w2.cell? ⟨h + 1, 1, none⟩ = some (.int .i64 push) := (keep (h + 1) 1 l1 n1).trans (K1.out.cell 1)
  have db := (keep (h + 3) 0 l3 n3).trans b0
  have v0 : w2.cell? ⟨h + 2, 0, none⟩ = some (.bool true) := (keep (h + 2) 0 l2 n2).trans (K2.out.cell 0)
  have v1 : w2.cell? ⟨h + 2, 1, none⟩ = some (.bool false) := (keep (h + 2) 1 l2 n2).trans (K2.out.cell 1)
  have v2 : w2.cell? ⟨h + 2, 2, none⟩ = some (.int .i64 0) := (keep (h + 2) 2 l2 n2).trans (K2.out.cell 2)
  have r0 : w2.cell? ⟨w.heap.size, 0, none⟩ = some (.bool false) := kv2.cell 0
  have r1 : w2.cell? ⟨w.heap.size, 1, none⟩ = some (.bool false) := kv2.cell 1
  have r2 : w2.cell? ⟨w.heap.size, 2, none⟩ = some (.int .i64 0) := kv2.cell 2
  have s0 : w2.frozen? ⟨w.heap.size, 0, none⟩ = false := kv2.frozen 0
  have s1 : w2.frozen? ⟨w.heap.size, 1, none⟩ = false := kv2.frozen 1
  have s2 : w2.frozen? ⟨w.heap.size, 2, none⟩ = false := kv2.frozen 2
  have HK2 := Lib.hid kt2
  have HG2 := Lib.hid hg2
  have HV2 := Lib.hid kv2
  clear kt2 hg2 kv2 keep hw2 c0 g5 b0 HFA KT HG0
  cases q with
  | true =>
    go_wp2_with fail
    go_quiet ((go_at_call 21; exact Calls.quiet_of (HO.out _ (HK2.out.drewN _)).out))
    go_wp2_with fail
    refine verd_ret rfl rfl rfl (b := w.heap.size) ((((HV2.out.drewN nq).set_ 0 (.bool false)).set_ 1 (.bool false)).set_ 2 (.int .i64 0)) ⟨rfl, ?_, ?_⟩
    · exact (((HK2.out.drewN nq).far (p := ⟨w.heap.size, 0, none⟩) (by show gt ≠ w.heap.size; omega) _).far (p := ⟨w.heap.size, 1, none⟩) (by show gt ≠ w.heap.size; omega) _).far (p := ⟨w.heap.size, 2, none⟩) (by show gt ≠ w.heap.size; omega) _
    · exact only_setCell (only_setCell (only_setCell (only_drewN HG2.out nq) (Or.inr (Nat.le_refl _)) _) (Or.inr (Nat.le_refl _)) _) (Or.inr (Nat.le_refl _)) _
  | false =>
    go_wp2_with fail
    go_quiet ((go_at_call 21; exact Calls.quiet_of (HO.out _ (HK2.out.drewN _)).out))
    go_wp2_with fail
    refine verd_ret rfl rfl rfl (b := w.heap.size) ((((HV2.out.drewN nq).set_ 0 (.bool true)).set_ 1 (.bool false)).set_ 2 (.int .i64 0)) ⟨rfl, ?_, ?_⟩
    · exact (((HK2.out.drewN nq).far (p := ⟨w.heap.size, 0, none⟩) (by show gt ≠ w.heap.size; omega) _).far (p := ⟨w.heap.size, 1, none⟩) (by show gt ≠ w.heap.size; omega) _).far (p := ⟨w.heap.size, 2, none⟩) (by show gt ≠ w.heap.size; omega) _
    · exact only_setCell (only_setCell (only_setCell (only_drewN HG2.out nq) (Or.inr (Nat.le_refl _)) _) (Or.inr (Nat.le_refl _)) _) (Or.inr (Nat.le_refl _)) _
end Go.Proofs.YtnmcjdiihebagaaDoor.Pol
