/-
  The hedge's Tick, without a throttle and with one that is shut.
-/
import Derived.Test.YtnmcjdiihebagaaDoorHdgStarts
import Derived.Test.YtnmcjdiihebagaaDoorPolThr2
namespace Go.Proofs.YtnmcjdiihebagaaDoor.Hdg
open Go.RowKit
open Pol (intsV IntsAt thrC)
theorem hmid_clock {w : World} {B g : Nat} {T D : Int} {fv tp : Value} {now started : Int} {nf : Value} {due : Int} {rv : Value} {run : List Int} {ans : Int} {done : Bool} {code : Int} (h : Blk w g 91 (hcC T D fv tp now started nf due rv ans done code))
    (hr : w.ownsRow B 3 1 rv run.length (intsV run)) (hB : B ≤ w.heap.size) (n : Int) : HMid w (w.setCell ⟨g, 4, none⟩ (.int .i64 (max now n))) B g rv.ownBlock (hcC T D fv tp (max now n) started nf due rv ans done code) rv run :=
  (HMid.start h hr hB).set 4 (.int .i64 (max now n))
set_option maxRecDepth 100000 in
set_option maxHeartbeats 4000000 in
theorem tick_any (B g : Nat) (T D : Int) (fv : Value) (now started : Int) (nx : Bool) (due : Int) (rv : Value) (run : List Int) (ans : Int) (done : Bool) (code : Int) (n : Int) (w : World) (h : Blk w g 91 (hcC T D fv (.pointer none) now started (nxV g nx) due rv ans done code))
    (hr : w.ownsRow B 3 1 rv run.length (intsV run)) (hB : B ≤ w.heap.size) (hl : run.length ≤ 500) (hst : 0 ≤ started ∧ started ≤ 5) (hT : T ≤ 5) (hnx : nx = true → started < T) (hD : 0 ≤ D ∧ D ≤ 1000000) (hnow : 0 ≤ now ∧ now ≤ 4503599627370496) (hn : n ≤ 4503599627370496) :
    Calls Tryd.prog 24 #[.pointer (some ⟨g, 0, none⟩), .int .i64 n] w fun e w' => ∃ j rv' v, e = .returned v ∧ Started T D (max now n) started due nx j ∧ w'.ownsRow w.heap.size 56 4 v j (evV (newEvs started (max now n) j)) ∧
      HMid w w' B g rv.ownBlock (hcC T D fv (.pointer none) (max now n) (started + (j : Int)) (nxV g (nxAt T started nx j)) (dueAt D (max now n) due j) rv' ans done code) rv' (run ++ newTries started j) := by
  have hM := hmid_clock h hr hB n
  have HC := Lib.hid (clock_any g T D fv (.pointer none) now started (nxV g nx) due rv ans done code n w h)
  have hsz : (w.setCell ⟨g, 4, none⟩ (.int .i64 (max now n))).heap.size = w.heap.size := by simp
  have ST := starts_any B g T D fv (max now n) started nx due rv run ans done code _ hM.kg hM.kr hM.hB hl hst hT hnx hD (by omega)
  rw [hsz] at ST
  have HST := Lib.hid ST
  have HM := Lib.hid hM
  clear h hr hM ST hsz
  go_enter Tryd.func24, Tryd.ntmps24
  go_wp2_with fail
  refine HC.out.mono ?_
  rintro e w2 ⟨rfl, rfl⟩
  go_wp2_with fail
  refine HST.out.mono ?_
  rintro e w3 ⟨j, rv', v, rfl, hS, hev, hM3⟩
  have HS := Lib.hid hS
  have HE := Lib.hid hev
  have HM3 := Lib.hid (HM.out.trans hM3)
  clear hS hev hM3 HST HC HM
  go_wp2_with fail
  go_ret
  exact ⟨j, rv', v, rfl, HS.out, HE.out, HM3.out⟩
/-- with a throttle that is shut no try starts -/
theorem starts_shut (B g gt : Nat) (T D : Int) (fv : Value) (now started : Int) (nx : Bool) (due : Int) (rv : Value) (run : List Int) (ans : Int) (done : Bool) (code : Int) (tok most ratio : Int) (w : World) (h : Blk w g 91 (hcC T D fv (.pointer (some ⟨gt, 0, none⟩)) now started (nxV g nx) due rv ans done code))
    (hr : w.ownsRow B 3 1 rv run.length (intsV run)) (hB : B ≤ w.heap.size) (kt : Blk w gt 83 (thrC tok most ratio)) (htk : 0 ≤ tok ∧ tok ≤ 1000000) (hsh : 2 * tok ≤ most) :
    Calls Tryd.prog 41 #[.pointer (some ⟨g, 0, none⟩)] w fun e w' => ∃ nx', e = .returned (.slice none 0 0) ∧ HMid w w' B g rv.ownBlock (hcC T D fv (.pointer (some ⟨gt, 0, none⟩)) now started (nxV g nx') due rv ans done code) rv run ∧ (nx' = true → now < due) := by
  have hM := HMid.start h hr hB
  cases nx with
  | false =>
    have c6 : w.cell? ⟨g, 6, none⟩ = some (.func (.func 45) #[.pointer (some ⟨g, 0, none⟩)] #[]) := h.cell 6
    have HM := Lib.hid hM
    clear h hr hM kt
    go_enter Tryd.func41, Tryd.ntmps41
    go_wp2_with fail
    refine wp_loop_rounds 1 ?_
    rw [rounds_succ]
    go_wp2_with fail
    refine (none_any g w).mono ?_
    rintro e w' ⟨rfl, rfl⟩
    go_wp2_with fail
    go_ret
    exact ⟨false, rfl, HM.out, fun h => by cases h⟩
  | true =>
    have c6 : w.cell? ⟨g, 6, none⟩ = some (.func (.func 53) #[.pointer (some ⟨g, 0, none⟩)] #[]) := h.cell 6
    have c4 : w.cell? ⟨g, 4, none⟩ = some (.int .i64 now) := h.cell 4
    have c3 : w.cell? ⟨g, 3, none⟩ = some (.pointer (some ⟨gt, 0, none⟩)) := h.cell 3
    have HSM := Lib.hid (some_any g _ _ _ _ _ _ _ _ _ _ _ _ w h)
    have HO := Lib.hid (Pol.open_any gt tok most ratio w htk kt)
    rw [decide_eq_false (by omega)] at HO
    have HM := Lib.hid hM
    clear h hr hM kt
    by_cases hdn : now < due
    · go_enter Tryd.func41, Tryd.ntmps41
      go_wp2_with fail
      refine wp_loop_rounds 1 ?_
      rw [rounds_succ]
      go_wp2_with fail
      refine HSM.out.mono ?_
      rintro e w' ⟨rfl, rfl⟩
      go_wp2_with fail
      go_ret
      exact ⟨true, rfl, HM.out, fun _ => hdn⟩
    · go_enter Tryd.func41, Tryd.ntmps41
      go_wp2_with fail
      refine wp_loop_rounds 1 ?_
      rw [rounds_succ]
      go_wp2_with fail
      refine HSM.out.mono ?_
      rintro e w' ⟨rfl, rfl⟩
      go_wp2_with fail
      refine HO.out.mono ?_
      rintro e w' ⟨rfl, nq, rfl⟩
      have hM2 := HM.out.drewN nq
      have c7 : (w.drewN nq).cell? ⟨g, 6, none⟩ = some (.func (.func 53) #[.pointer (some ⟨g, 0, none⟩)] #[]) := hM2.kg.cell 6
      have f7 : (w.drewN nq).frozen? ⟨g, 6, none⟩ = false := hM2.kg.frozen 6
      have hgl := hM2.kg.lt
      have HM3 := Lib.hid (hM2.set 6 (nxV g false))
      clear HM hM2 HSM HO c6 c4 c3
      generalize w.drewN nq = w2 at *
      go_wp2_with fail
      go_ret
      exact ⟨false, rfl, HM3.out, fun h => by cases h⟩
theorem tick_shut (B g gt : Nat) (T D : Int) (fv : Value) (now started : Int) (nx : Bool) (due : Int) (rv : Value) (run : List Int) (ans : Int) (done : Bool) (code : Int) (tok most ratio : Int) (n : Int) (w : World) (h : Blk w g 91 (hcC T D fv (.pointer (some ⟨gt, 0, none⟩)) now started (nxV g nx) due rv ans done code))
    (hr : w.ownsRow B 3 1 rv run.length (intsV run)) (hB : B ≤ w.heap.size) (kt : Blk w gt 83 (thrC tok most ratio)) (htk : 0 ≤ tok ∧ tok ≤ 1000000) (hsh : 2 * tok ≤ most) :
    Calls Tryd.prog 24 #[.pointer (some ⟨g, 0, none⟩), .int .i64 n] w fun e w' => ∃ nx', e = .returned (.slice none 0 0) ∧ HMid w w' B g rv.ownBlock (hcC T D fv (.pointer (some ⟨gt, 0, none⟩)) (max now n) started (nxV g nx') due rv ans done code) rv run ∧ (nx' = true → max now n < due) := by
  have hM := hmid_clock h hr hB n
  have HC := Lib.hid (clock_any g T D fv (.pointer (some ⟨gt, 0, none⟩)) now started (nxV g nx) due rv ans done code n w h)
  have hgt : gt ≠ g := Blk.ne_ kt h (by decide)
  have ST := starts_shut B g gt T D fv (max now n) started nx due rv run ans done code tok most ratio _ hM.kg hM.kr hM.hB (kt.far (p := ⟨g, 4, none⟩) hgt _) htk hsh
  have HST := Lib.hid ST
  have HM := Lib.hid hM
  clear h hr hM ST kt
  go_enter Tryd.func24, Tryd.ntmps24
  go_wp2_with fail
  refine HC.out.mono ?_
  rintro e w2 ⟨rfl, rfl⟩
  go_wp2_with fail
  refine HST.out.mono ?_
  rintro e w3 ⟨nx', rfl, hM3, hS⟩
  have HS := Lib.hid hS
  have HM3 := Lib.hid (HM.out.trans hM3)
  clear hS hM3 HST HC HM
  go_wp2_with fail
  go_ret
  exact ⟨nx', rfl, HM3.out, HS.out⟩
end Go.Proofs.YtnmcjdiihebagaaDoor.Hdg
