/-
  The hedge's New once more, and its refusal; made.
-/
import Derived.Test.YtnmcjdiihebagaaDoorHdgTold2
namespace Go.Proofs.YtnmcjdiihebagaaDoor.Hdg
open Go.RowKit
open Pol (intsV IntsAt codeOk)
theorem hmade_any (T D : Int) (A : Option Addr) (n c : Nat) (w : World) :
    Calls Tryd.prog 29 #[.agg #[.int .i64 T, .int .i64 D, .slice A n c]] w fun e w' => e = .returned (.agg #[.int .i64 T, .int .i64 D, .slice A n c]) ∧ Below w.heap.size w w' := by
  go_enter Tryd.func29, Tryd.ntmps29
  go_wp2
  have hR : (((w.alloc (.cells #[.int .i64 T, .int .i64 D, .slice A n c] 63)).alloc (.cells #[.int .i64 T, .int .i64 D, .slice A n c] 49))).heap[w.heap.size + 1]? = some (.cells #[.int .i64 T, .int .i64 D, .slice A n c] 49 (0, 0)) := by
    have := heap_alloc_new (w.alloc (.cells #[.int .i64 T, .int .i64 D, .slice A n c] 63)) (.cells #[.int .i64 T, .int .i64 D, .slice A n c] 49)
    simpa using this
  refine bodyPost_ret (results_cell_row (P := Tryd.prog) rfl _ _ (w.heap.size + 1) 49 _ (0, 0) _ rfl hR Tryd.underlying49 rfl (by kernel_rfl)) rfl ⟨rfl, ?_⟩
  exact ((Below.refl _ _).alloc (Nat.le_refl _) _).alloc (by simp) _
set_option maxRecDepth 100000 in
set_option maxHeartbeats 1000000 in
theorem hnew_no (T D : Int) (xs : List Int) (A : Option Addr) (n c : Nat) (hn : xs.length = n) (hcap : n ≤ 1000000) (tp : Option Addr) (v : Value) (hie : IsErr v) (w : World) (hx : IntsAt w A xs) (hok : hOk T D xs = false) (hv : w.cell? ⟨0, 0, none⟩ = some v) (hg : 0 < w.heap.size) :
    Calls Tryd.prog 23 #[.agg #[.int .i64 T, .int .i64 D, .slice A n c], .pointer tp] w fun e w' => e = .returned (.tuple #[.pointer none, .slice none 0 0, v]) ∧ Below w.heap.size w w' := by
  have hB0 : Below w.heap.size w (w.alloc (.cells #[.int .i64 T, .int .i64 D, .slice A n c] 49)) := (Below.refl _ _).alloc (Nat.le_refl _) _
  have hx1 := hx.below hB0
  have hv1 := (hB0.cell (p := ⟨0, 0, none⟩) hg).trans hv
  have hg1 : 0 < (w.alloc (.cells #[.int .i64 T, .int .i64 D, .slice A n c] 49)).heap.size := Nat.lt_of_lt_of_le hg hB0.size
  have HV := Lib.hid (hvalid_any T D xs A n c hn (by omega) v _ hx1 hv1 hg1)
  rw [hok, show hres false v = v from rfl] at HV
  obtain ⟨t, u, rfl⟩ := hie
  go_enter Tryd.func23, Tryd.ntmps23
  go_wp2_with fail
  refine HV.out.mono ?_
  rintro e w2 ⟨rfl, hb2⟩
  have hB2 := Lib.hid (hB0.trans (hb2.mono hB0.size))
  clear hB0 hb2 hx1 hv1 hg1 hx hv
  go_wp2_with fail
  go_ret3
  exact ⟨rfl, hB2.out⟩
set_option maxRecDepth 100000 in
set_option maxHeartbeats 4000000 in
theorem hnew_ok2 (T D : Int) (xs : List Int) (A : Option Addr) (n c : Nat) (hn : xs.length = n) (hcap : n ≤ 1000000) (h0 : A = none → c = 0) (tp : Option Addr) (v : Value) (w : World) (hx : IntsAt w A xs) (hok : hOk T D xs = true) (hv : w.cell? ⟨0, 0, none⟩ = some v) (hg : 0 < w.heap.size) :
    Calls Tryd.prog 23 #[.agg #[.int .i64 T, .int .i64 D, .slice A n c], .pointer tp] w fun e w' => ∃ g A' c' rv b, e = .returned (.tuple #[.pointer (some ⟨g, 0, none⟩), .slice (some ⟨b, 0, none⟩) 1 1, .nilIface]) ∧ w.heap.size ≤ g ∧ IntsAt w' A' xs ∧ (∀ ad, A' = some ad → w.heap.size ≤ ad.block ∧ ad.block ≠ g ∧ rv.ownBlock ≠ some ad.block ∧ ad.block < w'.heap.size) ∧
      Blk w' g 91 (hcC T D (.slice A' n c') (.pointer tp) 0 1 (nxV g (decide (1 < T))) D rv (-1) false 0) ∧ w'.ownsRow w.heap.size 3 1 rv [(0 : Int)].length (intsV [0]) ∧ w'.ownsRow w.heap.size 56 4 (.slice (some ⟨b, 0, none⟩) 1 1) 1 (evV [⟨1, 0, 0, 0⟩]) ∧ Below w.heap.size w w' := by
  have hB0 : Below w.heap.size w (w.alloc (.cells #[.int .i64 T, .int .i64 D, .slice A n c] 49)) := (Below.refl _ _).alloc (Nat.le_refl _) _
  have hx1 := hx.below hB0
  have hnum : hnums T D := by
    have h2 : (decide (hnums T D) && xs.all codeOk) = true := hok
    rw [Bool.and_eq_true] at h2
    exact of_decide_eq_true h2.1
  obtain ⟨t1, t2, q1, q2⟩ := hnum
  have hv1 := (hB0.cell (p := ⟨0, 0, none⟩) hg).trans hv
  have hg1 : 0 < (w.alloc (.cells #[.int .i64 T, .int .i64 D, .slice A n c] 49)).heap.size := Nat.lt_of_lt_of_le hg hB0.size
  have HV := Lib.hid (hvalid_any T D xs A n c hn (by omega) v _ hx1 hv1 hg1)
  rw [hok, show hres true v = .nilIface from rfl] at HV
  go_enter Tryd.func23, Tryd.ntmps23
  go_wp2_with fail
  refine HV.out.mono ?_
  rintro e w2 ⟨rfl, hb2⟩
  have hP2 : Blk w2 w.heap.size 49 #[.int .i64 T, .int .i64 D, .slice A n c] := (Blk.new w 49 #[.int .i64 T, .int .i64 D, .slice A n c]).below hb2 (by simp)
  have hB2 : Below w.heap.size w w2 := hB0.trans (hb2.mono hB0.size)
  have hx2 := hx1.below hb2
  have hc2 : w2.cell? ⟨w.heap.size, 2, none⟩ = some (.slice A n c) := hP2.cell 2
  clear hx1 hv1 hg1 HV
  go_wp2_with fail
  refine (Pol.clone_any xs A n c hn hcap w2 hx2 h0).mono ?_
  rintro e w3 ⟨v2, rfl, ho, hb3⟩
  have hlt2 : w.heap.size < w2.heap.size := hP2.lt
  have hP3 := hP2.below hb3 hlt2
  have hB3 : Below w.heap.size w w3 := hB2.trans (hb3.mono hB2.size)
  obtain ⟨A', c', rfl, hx3⟩ := Pol.own_ints hn ho
  have d0 : w3.cell? ⟨w.heap.size, 0, none⟩ = some (.int .i64 T) := hP3.cell 0
  have d1 : w3.cell? ⟨w.heap.size, 1, none⟩ = some (.int .i64 D) := hP3.cell 1
  have d2 : w3.cell? ⟨w.heap.size, 2, none⟩ = some (.slice A n c) := hP3.cell 2
  have f2 : w3.frozen? ⟨w.heap.size, 2, none⟩ = false := hP3.frozen 2
  have HP3 := Lib.hid hP3
  clear hP2 hc2 hx2 hb2 hb3 hP3
  go_wp2_with fail
  have hge : ∀ ad, A' = some ad → w2.heap.size ≤ ad.block := by
    rintro ad rfl
    exact Pol.own_ge ho _ rfl
  have hlt3 : ∀ ad, A' = some ad → ad.block < w3.heap.size := by
    rintro ad rfl
    exact Pol.own_lt ho _ rfl
  have hs3 : (w3.setCell ⟨w.heap.size, 2, none⟩ (.slice A' n c')).heap.size = w3.heap.size := by simp
  have hB4 := (hB3.setCell (p := ⟨w.heap.size, 2, none⟩) (Nat.le_refl _) (.slice A' n c')).alloc (by rw [hs3]; exact hB3.size) (.cells (hcC T D (.slice A' n c') (.pointer tp) 0 0 .nilFunc 0 (.slice none 0 0) (-1) false 0) 91)
  have hx4 := hx3.setCell (p := ⟨w.heap.size, 2, none⟩) (fun ad e => by have := hge ad e; show ad.block ≠ w.heap.size; omega) (.slice A' n c')
  have hx5 := hx4.below ((Below.refl _ _).alloc (Nat.le_refl _) (.cells (hcC T D (.slice A' n c') (.pointer tp) 0 0 .nilFunc 0 (.slice none 0 0) (-1) false 0) 91))
  have hK : Blk ((w3.setCell ⟨w.heap.size, 2, none⟩ (.slice A' n c')).alloc (.cells (hcC T D (.slice A' n c') (.pointer tp) 0 0 .nilFunc 0 (.slice none 0 0) (-1) false 0) 91)) w3.heap.size 91 (hcC T D (.slice A' n c') (.pointer tp) 0 0 .nilFunc 0 (.slice none 0 0) (-1) false 0) := Pol.blk_set_new w3 _ _ _ _
  have hsz : w3.heap.size < ((w3.setCell ⟨w.heap.size, 2, none⟩ (.slice A' n c')).alloc (.cells (hcC T D (.slice A' n c') (.pointer tp) 0 0 .nilFunc 0 (.slice none 0 0) (-1) false 0) 91)).heap.size := hK.lt
  have ST := start_any w.heap.size w3.heap.size T D (.slice A' n c') (.pointer tp) 0 0 .nilFunc 0 (.slice none 0 0) [] (-1) false 0 _ hK (World.ownsRow_nil _ _ _ _) hB4.size (by simp) (by omega) (by omega) (by omega)
  have HST := Lib.hid ST
  have HB4 := Lib.hid hB4
  have HX5 := Lib.hid hx5
  have HGE := Lib.hid hge
  have HLT := Lib.hid hlt3
  have hw3 := hB3.size
  unfold hcC at HST HB4 HX5 hsz
  clear ST hB4 hx4 hx5 hK hge hlt3 hs3 ho hx3 hB3 hB2 hB0 d0 d1 d2 f2 HP3
  generalize (w3.setCell ⟨w.heap.size, 2, none⟩ (.slice A' n c')).alloc (.cells #[.int .i64 T, .int .i64 D, .slice A' n c', .pointer tp, .int .i64 0, .int .i64 0, .nilFunc, .int .i64 0, .slice none 0 0, .int .i64 (-1), .bool false, .int .i64 0] 91) = w5 at *
  refine HST.out.mono ?_
  rintro e w6 ⟨rv', b, rfl, hb, he6, hM6⟩
  have hx6 := hmid_own hM6 HX5.out (fun ad e => ⟨by have := HLT.out ad e; omega, fun h => by cases h⟩)
  have hne6 : ∀ ad, A' = some ad → w.heap.size ≤ ad.block ∧ ad.block ≠ w3.heap.size ∧ rv'.ownBlock ≠ some ad.block ∧ ad.block < w6.heap.size := fun ad e => by
    have h1 := HLT.out ad e
    have h2 := HGE.out ad e
    have hs6 := hM6.up.size
    refine ⟨by omega, by omega, fun h => ?_, by omega⟩
    rcases hM6.fresh _ h with h3 | h3
    · cases h3
    · omega
  have hB6 := hM6.up.below (B := w.heap.size) (fun i hi => by rcases hi with h | h; omega; cases h) HB4.out.size
  have HR := Lib.hid hM6.kr
  have HK := Lib.hid hM6.kg
  have HX6 := Lib.hid hx6
  have HNE := Lib.hid hne6
  have HE6 := Lib.hid (own_base he6 HB4.out.size)
  have HB6 := Lib.hid (HB4.out.trans hB6)
  clear hM6 he6 hx6 hne6 hB6 HST HB4 HX5 HGE HLT
  go_wp2_with fail
  go_ret3
  refine ⟨_, A', c', rv', b, rfl, by omega, HX6.out, HNE.out, ?_, HR.out, HE6.out, HB6.out⟩
  have h := HK.out
  rw [show (0 : Int) + 1 = 1 from rfl, show (0 : Int) + D = D by omega] at h
  exact h
end Go.Proofs.YtnmcjdiihebagaaDoor.Hdg
