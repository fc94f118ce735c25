/-
  The hedge's Failed, Answered, Ended, Stop with no throttle, all their ways; told.
-/
import Derived.Test.YtnmcjdiihebagaaDoorHdgOnceLaw
import Derived.Test.YtnmcjdiihebagaaDoorHdgFirst
namespace Go.Proofs.YtnmcjdiihebagaaDoor.Hdg
open Go.RowKit
open Pol (intsV IntsAt codeOk)
def HS.cells (s : HS) (g : Nat) (T D : Int) (fv rv : Value) : Array Value := hcC T D fv (.pointer none) s.now s.started (nxV g s.nx) s.due rv s.ans s.done s.code
/-- what a call that is told something leaves -/
def ToldPost (w : World) (B g : Nat) (T D : Int) (fv rv : Value) (s : HS) (m : Int) (e : Ending) (w' : World) : Prop :=
  ∃ s' E rv' v, e = .returned v ∧ Told T D s m E s' ∧ w'.ownsRow w.heap.size 56 4 v E.length (evV E) ∧ HMid w w' B g rv.ownBlock (s'.cells g T D fv rv') rv' s'.run
section
variable {w w' : World} {B g : Nat} {T D : Int} {fv rv : Value} {now started : Int} {nx : Bool} {due : Int} {run : List Int} {ans : Int} {done : Bool} {code m : Int}
theorem told_quiet (h : HMid w w' B g rv.ownBlock (hcC T D fv (.pointer none) m started (nxV g nx) due rv ans done code) rv run) : ToldPost w B g T D fv rv ⟨now, started, nx, due, run, ans, done, code⟩ m (.returned (.slice none 0 0)) w' :=
  ⟨_, [], rv, _, rfl, .quiet, World.ownsRow_nil _ _ _ _, h⟩
end
set_option maxRecDepth 100000 in
set_option maxHeartbeats 4000000 in
theorem failed_quiet (B g : Nat) (T D : Int) (fv : Value) (now started : Int) (nx : Bool) (due : Int) (rv : Value) (run : List Int) (ans : Int) (done : Bool) (code : Int) (try_ cd push n : Int) (w : World) (h : Blk w g 91 (hcC T D fv (.pointer none) now started (nxV g nx) due rv ans done code))
    (hr : w.ownsRow B 3 1 rv run.length (intsV run)) (hB : B ≤ w.heap.size) (hl : run.length ≤ 500) (hq : done = true ∨ ¬ try_ ∈ run) :
    Calls Tryd.prog 25 #[.pointer (some ⟨g, 0, none⟩), .int .i64 try_, .int .i64 cd, .int .i64 push, .int .i64 n] w (ToldPost w B g T D fv rv ⟨now, started, nx, due, run, ans, done, code⟩ (max now n)) := by
  have hM := hmid_clock h hr hB n
  have HC := Lib.hid (clock_any g _ _ _ _ now started _ due rv ans done code n w h)
  have HM := Lib.hid hM
  clear h hr hM
  go_enter Tryd.func25, Tryd.ntmps25
  go_wp2_with fail
  refine HC.out.mono ?_
  rintro e w1 ⟨rfl, rfl⟩
  generalize w.setCell ⟨g, 4, none⟩ (.int .i64 (max now n)) = w1 at *
  have c10 : w1.cell? ⟨g, 10, none⟩ = some (.bool done) := HM.out.kg.cell 10
  cases done with
  | true =>
    go_wp2_with fail
    go_ret
    exact told_quiet HM.out
  | false =>
    have RN := Lib.hid (runs_no B g _ _ _ _ _ _ _ _ rv run _ _ _ try_ w1 HM.out.kg HM.out.kr hl (hq.resolve_left (by simp)))
    clear hq
    go_wp2_with fail
    refine RN.out.mono ?_
    rintro e w2 ⟨rfl, rfl⟩
    go_wp2_with fail
    go_ret
    exact told_quiet HM.out
set_option maxRecDepth 100000 in
set_option maxHeartbeats 4000000 in
theorem answered_quiet (B g : Nat) (T D : Int) (fv : Value) (now started : Int) (nx : Bool) (due : Int) (rv : Value) (run : List Int) (ans : Int) (done : Bool) (code : Int) (try_ n : Int) (w : World) (h : Blk w g 91 (hcC T D fv (.pointer none) now started (nxV g nx) due rv ans done code))
    (hr : w.ownsRow B 3 1 rv run.length (intsV run)) (hB : B ≤ w.heap.size) (hl : run.length ≤ 500) (hq : done = true ∨ 0 ≤ ans ∨ ¬ try_ ∈ run) :
    Calls Tryd.prog 35 #[.pointer (some ⟨g, 0, none⟩), .int .i64 try_, .int .i64 n] w (ToldPost w B g T D fv rv ⟨now, started, nx, due, run, ans, done, code⟩ (max now n)) := by
  have hM := hmid_clock h hr hB n
  have HC := Lib.hid (clock_any g _ _ _ _ now started _ due rv ans done code n w h)
  have HM := Lib.hid hM
  clear h hr hM
  go_enter Tryd.func35, Tryd.ntmps35
  go_wp2_with fail
  refine HC.out.mono ?_
  rintro e w1 ⟨rfl, rfl⟩
  generalize w.setCell ⟨g, 4, none⟩ (.int .i64 (max now n)) = w1 at *
  have c10 : w1.cell? ⟨g, 10, none⟩ = some (.bool done) := HM.out.kg.cell 10
  have c9 : w1.cell? ⟨g, 9, none⟩ = some (.int .i64 ans) := HM.out.kg.cell 9
  cases done with
  | true =>
    go_wp2_with fail
    go_ret
    exact told_quiet HM.out
  | false =>
    by_cases ha : 0 ≤ ans
    · have hda : decide (0 ≤ ans) = true := decide_eq_true ha
      go_wp2_with fail
      go_ret
      exact told_quiet HM.out
    · have hda : decide (0 ≤ ans) = false := decide_eq_false ha
      have hm : ¬ try_ ∈ run := (hq.resolve_left (by simp)).resolve_left ha
      obtain ⟨A, cap, rfl, hx⟩ := Pol.own_ints rfl HM.out.kr
      have c8 : w1.cell? ⟨g, 8, none⟩ = some (.slice A run.length cap) := HM.out.kg.cell 8
      have HCT := Pol.contains_any run A run.length cap try_ rfl (by omega) w1 hx
      rw [decide_eq_false hm] at HCT
      have HCT2 := Lib.hid HCT
      clear hq HCT hx
      go_wp2_with fail
      refine HCT2.out.mono ?_
      rintro e w2 ⟨rfl, rfl⟩
      go_wp2_with fail
      go_ret
      exact told_quiet HM.out
set_option maxRecDepth 100000 in
set_option maxHeartbeats 4000000 in
theorem ended_any (B g : Nat) (T D : Int) (fv : Value) (now started : Int) (nx : Bool) (due : Int) (rv : Value) (run : List Int) (ans : Int) (done : Bool) (code : Int) (try_ cd n : Int) (w : World) (h : Blk w g 91 (hcC T D fv (.pointer none) now started (nxV g nx) due rv ans done code))
    (hr : w.ownsRow B 3 1 rv run.length (intsV run)) (hB : B ≤ w.heap.size) (hl : run.length ≤ 500) :
    Calls Tryd.prog 46 #[.pointer (some ⟨g, 0, none⟩), .int .i64 try_, .int .i64 cd, .int .i64 n] w (ToldPost w B g T D fv rv ⟨now, started, nx, due, run, ans, done, code⟩ (max now n)) := by
  have hM := hmid_clock h hr hB n
  have HC := Lib.hid (clock_any g _ _ _ _ now started _ due rv ans done code n w h)
  have HM := Lib.hid hM
  clear h hr hM
  go_enter Tryd.func46, Tryd.ntmps46
  go_wp2_with fail
  refine HC.out.mono ?_
  rintro e w1 ⟨rfl, rfl⟩
  generalize w.setCell ⟨g, 4, none⟩ (.int .i64 (max now n)) = w1 at *
  have c10 : w1.cell? ⟨g, 10, none⟩ = some (.bool done) := HM.out.kg.cell 10
  cases done with
  | true =>
    go_wp2_with fail
    go_ret
    exact told_quiet HM.out
  | false =>
    by_cases hm : try_ ∈ run
    · have RY := Lib.hid (runs_yes B g _ _ _ _ _ _ _ _ rv run _ _ _ try_ w1 HM.out.kg HM.out.kr HM.out.hB hl hm)
      clear hm
      go_wp2_with fail
      refine RY.out.mono ?_
      rintro e w2 ⟨k, rv2, rfl, hk, hkx, hM2⟩
      have HM2 := Lib.hid (HM.out.trans hM2)
      have HKX := Lib.hid hkx
      have HK := Lib.hid hk
      have hls : (strike run k).length ≤ 500 := by have := (strike_sub run k).length_le; omega
      clear hM2 hkx hk RY c10 HM HC
      have c3 : w2.cell? ⟨g, 3, none⟩ = some (.pointer none) := HM2.out.kg.cell 3
      have EN := Lib.hid (ends_any B g _ _ _ _ _ _ _ _ rv2 (strike run k) _ _ _ try_ cd w2 HM2.out.kg HM2.out.kr HM2.out.hB hls)
      by_cases hc : cd = 0
      all_goals
        first
        | (have hcb : (cd == 0) = true := by simp [hc])
        | (have hcb : (cd == 0) = false := by simp [hc])
        clear hc
        go_wp2_with fail
        refine EN.out.mono ?_
        rintro e w3 ⟨rv3, v3, rfl, he3, hM3⟩
        have HM3 := Lib.hid (HM2.out.trans hM3)
        have HE3 := Lib.hid (own_base he3 HM2.out.up.size)
        clear hM3 he3 EN HM2 c3
        go_wp2_with fail
        go_ret
        exact ⟨_, _, rv3, v3, rfl, .ends try_ cd _ _ rfl (Or.inr ⟨k, HK.out, rfl, HKX.out⟩), HE3.out, HM3.out⟩
    · have RN := Lib.hid (runs_no B g _ _ _ _ _ _ _ _ rv run _ _ _ try_ w1 HM.out.kg HM.out.kr hl hm)
      clear hm
      go_wp2_with fail
      refine RN.out.mono ?_
      rintro e w2 ⟨rfl, rfl⟩
      go_wp2_with fail
      go_ret
      exact told_quiet HM.out
set_option maxRecDepth 100000 in
set_option maxHeartbeats 4000000 in
theorem stop_any (B g : Nat) (T D : Int) (fv : Value) (now started : Int) (nx : Bool) (due : Int) (rv : Value) (run : List Int) (ans : Int) (done : Bool) (code : Int) (cd n : Int) (w : World) (h : Blk w g 91 (hcC T D fv (.pointer none) now started (nxV g nx) due rv ans done code))
    (hr : w.ownsRow B 3 1 rv run.length (intsV run)) (hB : B ≤ w.heap.size) (hl : run.length ≤ 500) :
    Calls Tryd.prog 47 #[.pointer (some ⟨g, 0, none⟩), .int .i64 cd, .int .i64 n] w (ToldPost w B g T D fv rv ⟨now, started, nx, due, run, ans, done, code⟩ (max now n)) := by
  have hM := hmid_clock h hr hB n
  have HC := Lib.hid (clock_any g _ _ _ _ now started _ due rv ans done code n w h)
  have HM := Lib.hid hM
  clear h hr hM
  go_enter Tryd.func47, Tryd.ntmps47
  go_wp2_with fail
  refine HC.out.mono ?_
  rintro e w1 ⟨rfl, rfl⟩
  generalize w.setCell ⟨g, 4, none⟩ (.int .i64 (max now n)) = w1 at *
  have c10 : w1.cell? ⟨g, 10, none⟩ = some (.bool done) := HM.out.kg.cell 10
  cases done with
  | true =>
    go_wp2_with fail
    go_ret
    exact told_quiet HM.out
  | false =>
    have EN := Lib.hid (ends_any B g _ _ _ _ _ _ _ _ rv run _ _ _ (-1) cd w1 HM.out.kg HM.out.kr HM.out.hB hl)
    go_wp2_with fail
    refine EN.out.mono ?_
    rintro e w3 ⟨rv3, v3, rfl, he3, hM3⟩
    have HM3 := Lib.hid (HM.out.trans hM3)
    have HE3 := Lib.hid (own_base he3 HM.out.up.size)
    clear hM3 he3 EN HM c10
    go_wp2_with fail
    go_ret
    exact ⟨_, _, rv3, v3, rfl, .ends (-1) cd _ _ rfl (Or.inl ⟨rfl, rfl⟩), HE3.out, HM3.out⟩
end Go.Proofs.YtnmcjdiihebagaaDoor.Hdg
