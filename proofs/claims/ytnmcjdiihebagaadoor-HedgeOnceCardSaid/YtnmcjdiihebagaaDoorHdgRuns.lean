/-
  The hedge's runs; Failed where the call ends at once; Answered.
-/
import Derived.Test.YtnmcjdiihebagaaDoorHdgEnds
namespace Go.Proofs.YtnmcjdiihebagaaDoor.Hdg
open Go.RowKit
open Pol (intsV IntsAt)
/-- k without its place -/
def strike (run : List Int) (k : Nat) : List Int := run.take k ++ run.drop (k + 1)
set_option maxRecDepth 100000 in
set_option maxHeartbeats 1000000 in
theorem runs_no (B g : Nat) (T D : Int) (fv tp : Value) (now started : Int) (nf : Value) (due : Int) (rv : Value) (run : List Int) (ans : Int) (done : Bool) (code : Int) (try_ : Int) (w : World) (h : Blk w g 91 (hcC T D fv tp now started nf due rv ans done code))
    (hr : w.ownsRow B 3 1 rv run.length (intsV run)) (hl : run.length ≤ 500) (hm : ¬ try_ ∈ run) :
    Calls Tryd.prog 42 #[.pointer (some ⟨g, 0, none⟩), .int .i64 try_] w fun e w' => e = .returned (.bool false) ∧ w = w' := by
  have c8 : w.cell? ⟨g, 8, none⟩ = some rv := h.cell 8
  obtain ⟨A, cap, rfl, hx⟩ := Pol.own_ints rfl hr
  have HI := Lib.hid (index_at run A run.length cap try_ rfl (by omega) w hx)
  clear h hr hx
  go_enter Tryd.func42, Tryd.ntmps42
  go_wp2_with fail
  refine HI.out.mono ?_
  rintro e w' ⟨r, rfl, hr, rfl⟩
  rcases hr with ⟨rfl, _⟩ | ⟨k, _, hk, hkx⟩
  · go_wp2_with fail
    go_ret
    exact ⟨rfl, rfl⟩
  · exfalso
    apply hm
    rw [← hkx]
    simp [List.getD, List.getElem?_eq_getElem hk]
set_option maxRecDepth 100000 in
set_option maxHeartbeats 1000000 in
theorem runs_yes (B g : Nat) (T D : Int) (fv tp : Value) (now started : Int) (nf : Value) (due : Int) (rv : Value) (run : List Int) (ans : Int) (done : Bool) (code : Int) (try_ : Int) (w : World) (h : Blk w g 91 (hcC T D fv tp now started nf due rv ans done code))
    (hr : w.ownsRow B 3 1 rv run.length (intsV run)) (hB : B ≤ w.heap.size) (hl : run.length ≤ 500) (hm : try_ ∈ run) :
    Calls Tryd.prog 42 #[.pointer (some ⟨g, 0, none⟩), .int .i64 try_] w fun e w' => ∃ k rv', e = .returned (.bool true) ∧ k < run.length ∧ run.getD k 0 = try_ ∧ HMid w w' B g rv.ownBlock (hcC T D fv tp now started nf due rv' ans done code) rv' (strike run k) := by
  have hM := HMid.start h hr hB
  have c8 : w.cell? ⟨g, 8, none⟩ = some rv := h.cell 8
  have hgl := h.lt
  obtain ⟨A, cap, rfl, hx⟩ := Pol.own_ints rfl hr
  have HI := Lib.hid (index_at run A run.length cap try_ rfl (by omega) w hx)
  have hpos : 0 < run.length := List.length_pos_of_mem hm
  obtain ⟨g0, cap0, e0, _, _⟩ := hr.form hpos
  injection e0 with e1 _ e3
  subst e1 e3
  have HM := Lib.hid hM
  have HR := Lib.hid hr
  clear h hr hx hM
  go_enter Tryd.func42, Tryd.ntmps42
  go_wp2_with fail
  refine HI.out.mono ?_
  rintro e w' ⟨r, rfl, hr, rfl⟩
  rcases hr with ⟨rfl, hn⟩ | ⟨k, rfl, hk, hkx⟩
  · exact absurd hm hn
  · have HD := Lib.hid (delete_any HR.out k hk)
    have HK := Lib.hid hkx
    clear hkx HI
    go_wp2_with fail
    refine HD.out.mono ?_
    rintro e w2 ⟨rfl, ho, hg2⟩
    have hlen : (strike run k).length = run.length - 1 := by unfold strike; simp; omega
    have ho2 : w2.ownsRow B 3 1 (.slice (some ⟨g0, 0, none⟩) (run.length - 1) cap) (strike run k).length (intsV (strike run k)) := by rw [hlen]; exact ho
    have hM2 := HM.out.row ho2 hg2 (Or.inl rfl)
    have d8 : w2.cell? ⟨g, 8, none⟩ = some (.slice (some ⟨g0, 0, none⟩) run.length cap) := hM2.kg.cell 8
    have e8 : w2.frozen? ⟨g, 8, none⟩ = false := hM2.kg.frozen 8
    have hgl3 := hM2.kg.lt
    have HM3 := Lib.hid (hM2.set 8 (.slice (some ⟨g0, 0, none⟩) (run.length - 1) cap))
    clear HM HD hM2 ho ho2 hg2 c8 hlen HR
    go_wp2_with fail
    go_ret
    exact ⟨k, _, rfl, hk, HK.out, HM3.out⟩
theorem hmid_own {w w' : World} {B g : Nat} {rb : Option Nat} {cs : Array Value} {rv : Value} {run : List Int} (h : HMid w w' B g rb cs rv run) {A : Option Addr} {xs : List Int} (hx : IntsAt w A xs) (h1 : ∀ ad, A = some ad → ad.block ≠ g ∧ rb ≠ some ad.block) : IntsAt w' A xs :=
  h.up.ints hx (fun ad e hF => by rcases hF with e2 | e2; exact (h1 ad e).1 e2; exact (h1 ad e).2 e2)
set_option maxRecDepth 100000 in
set_option maxHeartbeats 4000000 in
/-- Failed where the call ends at once -/
theorem failed_ends (B g : Nat) (T D : Int) (A : Option Addr) (nf cf : Nat) (fine : List Int) (tp : Value) (now started : Int) (nx : Value) (due : Int) (rv : Value) (run : List Int) (ans : Int) (code : Int) (try_ cd push n : Int) (w : World) (h : Blk w g 91 (hcC T D (.slice A nf cf) tp now started nx due rv ans false code))
    (hr : w.ownsRow B 3 1 rv run.length (intsV run)) (hB : B ≤ w.heap.size) (hl : run.length ≤ 500) (hm : try_ ∈ run) (hfl : fine.length = nf) (hf6 : nf ≤ 1000000) (hfx : IntsAt w A fine) (hfd : ∀ ad, A = some ad → ad.block ≠ g ∧ rv.ownBlock ≠ some ad.block) (hend : ans = try_ ∨ ¬ cd ∈ fine) :
    Calls Tryd.prog 25 #[.pointer (some ⟨g, 0, none⟩), .int .i64 try_, .int .i64 cd, .int .i64 push, .int .i64 n] w fun e w' => ∃ k rv' v, e = .returned v ∧ k < run.length ∧ run.getD k 0 = try_ ∧ w'.ownsRow w.heap.size 56 4 v (endsEvs (strike run k) (max now n) try_ cd).length (evV (endsEvs (strike run k) (max now n) try_ cd)) ∧
      HMid w w' B g rv.ownBlock (hcC T D (.slice A nf cf) tp (max now n) started (nxV g false) due rv' ans true cd) rv' ((strike run k).filter (· == -1)) := by
  have hM := hmid_clock h hr hB n
  have HC := Lib.hid (clock_any g _ _ _ _ now started _ due rv ans false code n w h)
  have HFX := Lib.hid hfx
  have HFD := Lib.hid hfd
  have HM := Lib.hid hM
  clear h hr hM hfx hfd
  go_enter Tryd.func25, Tryd.ntmps25
  go_wp2_with fail
  refine HC.out.mono ?_
  rintro e w1 ⟨rfl, rfl⟩
  generalize w.setCell ⟨g, 4, none⟩ (.int .i64 (max now n)) = w1 at *
  have c10 : w1.cell? ⟨g, 10, none⟩ = some (.bool false) := HM.out.kg.cell 10
  go_wp2_with fail
  refine (runs_yes B g _ _ _ _ _ _ _ _ rv run _ _ _ try_ w1 HM.out.kg HM.out.kr HM.out.hB hl hm).mono ?_
  rintro e w2 ⟨k, rv2, rfl, hk, hkx, hM2⟩
  have HKX := Lib.hid hkx
  have HM2 := Lib.hid (HM.out.trans hM2)
  clear c10 hM2 hkx HM HC
  have c9 : w2.cell? ⟨g, 9, none⟩ = some (.int .i64 ans) := HM2.out.kg.cell 9
  have c2 : w2.cell? ⟨g, 2, none⟩ = some (.slice A nf cf) := HM2.out.kg.cell 2
  have hls : (strike run k).length ≤ 500 := by unfold strike; simp; omega
  have HE := Lib.hid (ends_any B g _ _ _ _ _ _ _ _ rv2 (strike run k) _ _ _ try_ cd w2 HM2.out.kg HM2.out.kr HM2.out.hB hls)
  by_cases hat : ans = try_
  · have ht : (ans == try_) = true := by rw [hat]; simp
    have HAT := Lib.hid hat
    clear hat hend
    go_wp2_with fail
    refine HE.out.mono ?_
    rintro e w3 ⟨rv3, v3, rfl, he3, hM3⟩
    have HM3 := Lib.hid (HM2.out.trans hM3)
    have HE3 := Lib.hid (own_base he3 HM2.out.up.size)
    clear hM3 he3 HE HM2 c9 c2
    go_wp2_with fail
    go_ret
    exact ⟨k, rv3, v3, rfl, hk, HKX.out, HE3.out, HM3.out⟩
  · have ht : (ans == try_) = false := beq_eq_false_iff_ne.2 hat
    have hnc : ¬ cd ∈ fine := hend.resolve_left hat
    have HCT := Pol.contains_any fine A nf cf cd hfl (by omega) w2 (hmid_own HM2.out HFX.out HFD.out)
    rw [decide_eq_false hnc] at HCT
    have HCT2 := Lib.hid HCT
    clear hat hend HCT hnc
    go_wp2_with fail
    refine HCT2.out.mono ?_
    rintro e w3 ⟨rfl, rfl⟩
    go_wp2_with fail
    refine HE.out.mono ?_
    rintro e w3 ⟨rv3, v3, rfl, he3, hM3⟩
    have HM3 := Lib.hid (HM2.out.trans hM3)
    have HE3 := Lib.hid (own_base he3 HM2.out.up.size)
    clear hM3 he3 HE HM2 c9 c2
    go_wp2_with fail
    go_ret
    exact ⟨k, rv3, v3, rfl, hk, HKX.out, HE3.out, HM3.out⟩
set_option maxRecDepth 100000 in
set_option maxHeartbeats 4000000 in
/-- Answered where a first answer has come -/
theorem answered_yes (B g : Nat) (T D : Int) (fv : Value) (tp : Value) (now started : Int) (nx : Value) (due : Int) (rv : Value) (run : List Int) (ans : Int) (code : Int) (try_ n : Int) (w : World) (h : Blk w g 91 (hcC T D fv tp now started nx due rv ans false code))
    (hr : w.ownsRow B 3 1 rv run.length (intsV run)) (hB : B ≤ w.heap.size) (hl : run.length ≤ 500) (hm : try_ ∈ run) (ha : ans < 0) :
    Calls Tryd.prog 35 #[.pointer (some ⟨g, 0, none⟩), .int .i64 try_, .int .i64 n] w fun e w' => ∃ rv' v, e = .returned v ∧ w'.ownsRow w.heap.size 56 4 v (cancelEvs run try_ (max now n)).length (evV (cancelEvs run try_ (max now n))) ∧
      HMid w w' B g rv.ownBlock (hcC T D fv tp (max now n) started (nxV g false) due rv' try_ false code) rv' (run.filter (· == try_)) := by
  have hM := hmid_clock h hr hB n
  have HC := Lib.hid (clock_any g _ _ _ _ now started _ due rv ans false code n w h)
  have HM := Lib.hid hM
  clear h hr hM
  go_enter Tryd.func35, Tryd.ntmps35
  go_wp2_with fail
  refine HC.out.mono ?_
  rintro e w1 ⟨rfl, rfl⟩
  generalize w.setCell ⟨g, 4, none⟩ (.int .i64 (max now n)) = w1 at *
  have hM1 := HM.out
  obtain ⟨A, cap, rfl, hx⟩ := Pol.own_ints rfl hM1.kr
  have c10 : w1.cell? ⟨g, 10, none⟩ = some (.bool false) := hM1.kg.cell 10
  have c9 : w1.cell? ⟨g, 9, none⟩ = some (.int .i64 ans) := hM1.kg.cell 9
  have c8 : w1.cell? ⟨g, 8, none⟩ = some (.slice A run.length cap) := hM1.kg.cell 8
  have c6 : w1.cell? ⟨g, 6, none⟩ = some nx := hM1.kg.cell 6
  have f9 : w1.frozen? ⟨g, 9, none⟩ = false := hM1.kg.frozen 9
  have f6 : w1.frozen? ⟨g, 6, none⟩ = false := hM1.kg.frozen 6
  have hgl := hM1.kg.lt
  have HCT := Pol.contains_any run A run.length cap try_ rfl (by omega) w1 hx
  rw [decide_eq_true hm] at HCT
  have HCT2 := Lib.hid HCT
  have HM2 := Lib.hid ((hM1.set 9 (.int .i64 try_)).set 6 (nxV g false))
  clear hM1 HM hx HCT HC
  go_wp2_with fail
  refine HCT2.out.mono ?_
  rintro e w3 ⟨rfl, rfl⟩
  go_wp2_with fail
  refine (cancel_any B g _ _ _ _ _ _ _ _ _ run _ _ _ try_ _ HM2.out.kg HM2.out.kr HM2.out.hB hl).mono ?_
  rintro e w4 ⟨rv4, v4, rfl, he4, hM4⟩
  have HM4 := Lib.hid (HM2.out.trans hM4)
  have HE4 := Lib.hid (own_base he4 HM2.out.up.size)
  clear hM4 he4 HM2 c10 c9 c8 c6 f9 f6 HCT2
  go_wp2_with fail
  go_ret
  exact ⟨rv4, v4, rfl, HE4.out, HM4.out⟩
end Go.Proofs.YtnmcjdiihebagaaDoor.Hdg
