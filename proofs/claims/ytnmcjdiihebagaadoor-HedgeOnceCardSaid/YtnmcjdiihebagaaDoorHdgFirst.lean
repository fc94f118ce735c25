/-
  The walk of the hedge chapter's examples (first).
-/
import Derived.Test.YtnmcjdiihebagaaDoorHdgEvs
namespace Go.Proofs.YtnmcjdiihebagaaDoor.Hdg
open Go.RowKit
open Pol (intsV IntsAt codeOk)
section
variable {w W W' : World} {B g : Nat} {rb : Option Nat} {cs cs' : Array Value} {rv rv' : Value} {run run' : List Int}
/-- a row of events stays -/
theorem HMid.evs (k : HMid W W' B g rv.ownBlock cs' rv' run') (hk : Blk W g 91 cs) (hr : W.ownsRow B 3 1 rv run.length (intsV run)) {base n : Nat} {v : Value} {xs : List Value} (h : W.ownsRow base 56 4 v n xs) : W'.ownsRow base 56 4 v n xs :=
  k.up.own h (fun b hb hF => by
    rcases hF with e | e
    · exact own_blk_ne h hk (by decide) (by rw [← e]; exact hb)
    · exact own_own_ne h hr (by decide) hb e)
theorem hmid_fine (k : HMid W W' B g rv.ownBlock cs' rv' run') {A : Option Addr} {xs : List Int} (hx : IntsAt W A xs) (hpos : 0 < xs.length) (h : ∀ ad, A = some ad → ad.block ≠ g ∧ rv.ownBlock ≠ some ad.block) : ∀ ad, A = some ad → ad.block ≠ g ∧ rv'.ownBlock ≠ some ad.block := by
  intro ad e
  obtain ⟨b, off, e2, hlt, _⟩ := hx 0 hpos
  refine ⟨(h ad e).1, fun hf => ?_⟩
  rcases k.fresh _ hf with h3 | h3
  · exact (h ad e).2 h3
  · rw [e] at e2
    injection e2 with e2
    subst e2
    have : W.heap.size ≤ b := h3
    omega
end
theorem one_ev {w : World} {b : Nat} {x : Ev} {t : TypeId} (h : Blk w b t #[.int .i64 x.kind, .int .i64 x.try_, .int .i64 x.code, .int .i64 x.at_]) : EvsAt w (some ⟨b, 0, none⟩) [x] := by
  intro i hi
  have h0 : i = 0 := by simp at hi; omega
  subst h0
  exact ⟨b, 0, x, rfl, h.lt, rfl, h.cell 0, h.cell 1, h.cell 2, h.cell 3⟩
theorem first_j {j : Nat} (h : Started 3 10 (max 0 25) 1 10 (decide ((1 : Int) < 3)) j) : j = 1 := by
  rcases Nat.lt_trichotomy j 1 with h1 | h1 | h1
  · have h0 : j = 0 := by omega
    subst h0
    rcases h.stop with e | e
    · exact absurd e (by decide)
    · exact absurd e (by decide)
  · exact h1
  · have := h.going.more h1
    omega
theorem hok_first : hOk 3 10 [14] = true := by decide
set_option maxRecDepth 100000 in
set_option maxHeartbeats 4000000 in
theorem hfirst_any (v : Value) (w : World) (hv : w.cell? ⟨0, 0, none⟩ = some v) (hg : 0 < w.heap.size) :
    Calls Tryd.prog 22 #[] w fun e w' => e = .returned (.bool true) ∧ Below w.heap.size w w' := by
  go_enter Tryd.func22, Tryd.ntmps22
  go_wp2_with fail
  have hBa : Below w.heap.size w ((w.alloc (.cells #[.int .i64 14] 3)).alloc (.cells #[.int .i64 3, .int .i64 10, .slice (some ⟨w.heap.size, 0, none⟩) 1 1] 49)) := ((Below.refl _ _).alloc (Nat.le_refl _) _).alloc (by simp) _
  have kx : Blk ((w.alloc (.cells #[.int .i64 14] 3)).alloc (.cells #[.int .i64 3, .int .i64 10, .slice (some ⟨w.heap.size, 0, none⟩) 1 1] 49)) w.heap.size 3 #[.int .i64 14] := (Blk.new _ _ _).alloc _
  generalize (w.alloc (.cells #[.int .i64 14] 3)).alloc (.cells #[.int .i64 3, .int .i64 10, .slice (some ⟨w.heap.size, 0, none⟩) 1 1] 49) = wa at *
  have hxa : IntsAt wa (some ⟨w.heap.size, 0, none⟩) [14] := by
    intro i hi
    have h0 : i = 0 := by simp at hi; omega
    subst h0
    exact ⟨_, 0, rfl, kx.lt, kx.cell 0⟩
  have N := hnew_ok 3 10 [14] (some ⟨w.heap.size, 0, none⟩) 1 1 rfl (by omega) (fun e => by cases e) none v wa hxa hok_first ((hBa.cell hg).trans hv) (Nat.lt_of_lt_of_le hg hBa.size)
  have HN := Lib.hid N
  have HBa := Lib.hid hBa
  clear N hxa kx hBa
  refine HN.out.mono ?_
  rintro e w2 ⟨g, A', c', rv, b, rfl, hgg, hx2, hA', kg, kr, he2, hb2⟩
  have hgw : wa.heap.size ≤ g := hgg
  have TK := tick_any wa.heap.size g 3 10 (.slice A' 1 c') 0 1 (decide ((1 : Int) < 3)) 10 rv [0] (-1) false 0 25 w2 kg kr hb2.size (by simp) (by omega) (by omega) (fun _ => by omega) (by omega) (by omega) (by omega)
  have HTK := Lib.hid TK
  have HB2 := Lib.hid hb2
  have HX2 := Lib.hid hx2
  have HA := Lib.hid hA'
  have HKG := Lib.hid kg
  have HKR := Lib.hid kr
  have HE2 := Lib.hid he2
  clear TK hx2 hA' kg kr he2 hb2 HN
  go_wp2_with fail
  refine HTK.out.mono ?_
  rintro e w3 ⟨j, rv3, v3, rfl, hS, he3, hM3⟩
  have hj := first_j hS
  subst hj
  have hl3 := hM3.evs HKG.out HKR.out HE2.out
  have AN := answered_yes wa.heap.size g 3 10 (.slice A' 1 c') (.pointer none) (max 0 25) _ _ _ rv3 ([0] ++ newTries 1 1) (-1) 0 0 26 w3 hM3.kg hM3.kr hM3.hB (by simp [newTries]) (by decide) (by omega)
  have HAN := Lib.hid AN
  have HM3 := Lib.hid hM3
  have HE3 := Lib.hid he3
  have HL3 := Lib.hid hl3
  clear AN hM3 he3 hl3 hS HTK
  go_wp2_with fail
  refine HAN.out.mono ?_
  rintro e w4 ⟨rv4, v4, rfl, he4, hM4⟩
  have hl4 := hM4.evs HM3.out.kg HM3.out.kr HL3.out
  have ha4 := hM4.evs HM3.out.kg HM3.out.kr HE3.out
  have hM24 := HM3.out.trans hM4
  have hr4 : ([0] ++ newTries 1 1).filter (· == 0) = [0] := by decide
  rw [hr4] at hM4 hM24
  have hx4 := hmid_own hM24 HX2.out (fun ad e => (HA.out ad e).2)
  have hf4 := hmid_fine hM24 HX2.out (by simp) (fun ad e => (HA.out ad e).2)
  have FE := failed_ends wa.heap.size g 3 10 A' 1 c' [14] (.pointer none) (max (max 0 25) 26) _ _ _ rv4 [0] 0 0 0 14 (-1) 27 w4 hM4.kg hM4.kr hM4.hB (by simp) (by decide) rfl (by omega) hx4 hf4 (Or.inl rfl)
  have HFE := Lib.hid FE
  have HM4 := Lib.hid hM4
  have HE4 := Lib.hid he4
  have HA4 := Lib.hid ha4
  have HL4 := Lib.hid hl4
  have HM24 := Lib.hid hM24
  clear FE hM4 he4 ha4 hl4 hx4 hf4 hM24 hr4 HAN HL3 HE3 HM3
  go_wp2_with fail
  refine HFE.out.mono ?_
  rintro e w5 ⟨k, rv5, v5, rfl, hk, _, he5, hM5⟩
  have hk0 : k = 0 := by simp at hk; exact hk
  subst hk0
  have hl5 := hM5.evs HM4.out.kg HM4.out.kr HL4.out
  have ha5 := hM5.evs HM4.out.kg HM4.out.kr HA4.out
  have hc5 := hM5.evs HM4.out.kg HM4.out.kr HE4.out
  have hM25 := HM24.out.trans hM5
  have hB5 := HBa.out.trans ((HB2.out.trans (hM25.up.below (B := wa.heap.size) (fun i hi => by rcases hi with h | h; omega; exact (HKR.out.lt i h).1) HB2.out.size)).mono HBa.out.size)
  have HK5 := Lib.hid hM5.kg
  have HB5 := Lib.hid hB5
  obtain ⟨AL, cL, eL, evL⟩ := evs_of_own (E := [⟨1, 0, 0, 0⟩]) hl5
  injection eL with eL1 eL2 eL3
  clear eL2
  subst eL1 eL3
  obtain ⟨AA, cA, rfl, evA⟩ := evs_of_own (E := [⟨1, 1, 0, 25⟩]) ha5
  obtain ⟨AC, cC, rfl, evC⟩ := evs_of_own (E := [⟨2, 1, 0, 26⟩]) hc5
  obtain ⟨AD, cD, rfl, evD⟩ := evs_of_own (E := [⟨3, 0, 14, 27⟩]) he5
  have DN := done_any g _ _ _ _ _ _ _ _ _ _ _ _ w5 HK5.out
  have HDN := Lib.hid DN
  have QL := Lib.hid evL
  have QA := Lib.hid evA
  have QC := Lib.hid evC
  have QD := Lib.hid evD
  clear DN evL evA evC evD hl5 ha5 hc5 he5 hM5 hM25 hB5 HFE HM4 HE4 HA4 HL4 HM24 hk HK5
  go_wp2_with fail
  refine HDN.out.mono ?_
  rintro e u0 ⟨rfl, nq, rfl⟩
  have HU := Lib.hid (below_drewN HB5.out nq)
  have QL := Lib.hid (QL.out.below (below_drewN (Below.refl _ _) nq))
  have QA := Lib.hid (QA.out.below (below_drewN (Below.refl _ _) nq))
  have QC := Lib.hid (QC.out.below (below_drewN (Below.refl _ _) nq))
  have QD := Lib.hid (QD.out.below (below_drewN (Below.refl _ _) nq))
  clear HDN HB5
  generalize w5.drewN nq = y0 at *
  have EV0 := Lib.hid (events_any [⟨1, 0, 0, 0⟩] (some ⟨b, 0, none⟩) 1 1 rfl (by omega) y0 QL.out)
  go_wp2_with fail
  refine EV0.out.mono ?_
  rintro e z0 ⟨v0, rfl, ho0, hb0⟩
  obtain ⟨B0, d0, rfl, ev0⟩ := evs_of_own ho0
  have HZ0 := Lib.hid (hb0.alloc hb0.size (.cells #[.int .i64 1, .int .i64 0, .int .i64 0, .int .i64 0] 88))
  have SM0 := Lib.hid (same_true [⟨1, 0, 0, 0⟩] B0 (some ⟨z0.heap.size, 0, none⟩) 1 d0 1 rfl (by omega) (z0.alloc (.cells #[.int .i64 1, .int .i64 0, .int .i64 0, .int .i64 0] 88)) (ev0.below ((Below.refl _ _).alloc (Nat.le_refl _) _)) (one_ev (x := ⟨1, 0, 0, 0⟩) (Blk.new z0 88 #[.int .i64 1, .int .i64 0, .int .i64 0, .int .i64 0])))
  clear ho0 ev0 hb0 EV0 QL
  go_wp2_with fail
  refine SM0.out.mono ?_
  rintro e u ⟨rfl, q0, rfl⟩
  have HY0 := Lib.hid (below_drewN HZ0.out q0)
  have HU := Lib.hid (HU.out.trans (HY0.out.mono HU.out.size))
  have QA := Lib.hid (QA.out.below HY0.out)
  have QC := Lib.hid (QC.out.below HY0.out)
  have QD := Lib.hid (QD.out.below HY0.out)
  clear HZ0 SM0 HY0
  generalize (z0.alloc (.cells #[.int .i64 1, .int .i64 0, .int .i64 0, .int .i64 0] 88)).drewN q0 = y1 at *
  have EV1 := Lib.hid (events_any [⟨1, 1, 0, 25⟩] AA 1 cA rfl (by omega) y1 QA.out)
  go_wp2_with fail
  refine EV1.out.mono ?_
  rintro e z1 ⟨v1, rfl, ho1, hb1⟩
  obtain ⟨B1, d1, rfl, ev1⟩ := evs_of_own ho1
  have HZ1 := Lib.hid (hb1.alloc hb1.size (.cells #[.int .i64 1, .int .i64 1, .int .i64 0, .int .i64 25] 88))
  have SM1 := Lib.hid (same_true [⟨1, 1, 0, 25⟩] B1 (some ⟨z1.heap.size, 0, none⟩) 1 d1 1 rfl (by omega) (z1.alloc (.cells #[.int .i64 1, .int .i64 1, .int .i64 0, .int .i64 25] 88)) (ev1.below ((Below.refl _ _).alloc (Nat.le_refl _) _)) (one_ev (x := ⟨1, 1, 0, 25⟩) (Blk.new z1 88 #[.int .i64 1, .int .i64 1, .int .i64 0, .int .i64 25])))
  clear ho1 ev1 hb1 EV1 QA
  go_wp2_with fail
  refine SM1.out.mono ?_
  rintro e u ⟨rfl, q1, rfl⟩
  have HY1 := Lib.hid (below_drewN HZ1.out q1)
  have HU := Lib.hid (HU.out.trans (HY1.out.mono HU.out.size))
  have QC := Lib.hid (QC.out.below HY1.out)
  have QD := Lib.hid (QD.out.below HY1.out)
  clear HZ1 SM1 HY1
  generalize (z1.alloc (.cells #[.int .i64 1, .int .i64 1, .int .i64 0, .int .i64 25] 88)).drewN q1 = y2 at *
  have EV2 := Lib.hid (events_any [⟨2, 1, 0, 26⟩] AC 1 cC rfl (by omega) y2 QC.out)
  go_wp2_with fail
  refine EV2.out.mono ?_
  rintro e z2 ⟨v2, rfl, ho2, hb2⟩
  obtain ⟨B2, d2, rfl, ev2⟩ := evs_of_own ho2
  have HZ2 := Lib.hid (hb2.alloc hb2.size (.cells #[.int .i64 2, .int .i64 1, .int .i64 0, .int .i64 26] 88))
  have SM2 := Lib.hid (same_true [⟨2, 1, 0, 26⟩] B2 (some ⟨z2.heap.size, 0, none⟩) 1 d2 1 rfl (by omega) (z2.alloc (.cells #[.int .i64 2, .int .i64 1, .int .i64 0, .int .i64 26] 88)) (ev2.below ((Below.refl _ _).alloc (Nat.le_refl _) _)) (one_ev (x := ⟨2, 1, 0, 26⟩) (Blk.new z2 88 #[.int .i64 2, .int .i64 1, .int .i64 0, .int .i64 26])))
  clear ho2 ev2 hb2 EV2 QC
  go_wp2_with fail
  refine SM2.out.mono ?_
  rintro e u ⟨rfl, q2, rfl⟩
  have HY2 := Lib.hid (below_drewN HZ2.out q2)
  have HU := Lib.hid (HU.out.trans (HY2.out.mono HU.out.size))
  have QD := Lib.hid (QD.out.below HY2.out)
  clear HZ2 SM2 HY2
  generalize (z2.alloc (.cells #[.int .i64 2, .int .i64 1, .int .i64 0, .int .i64 26] 88)).drewN q2 = y3 at *
  have EV3 := Lib.hid (events_any [⟨3, 0, 14, 27⟩] AD 1 cD rfl (by omega) y3 QD.out)
  go_wp2_with fail
  refine EV3.out.mono ?_
  rintro e z3 ⟨v3, rfl, ho3, hb3⟩
  obtain ⟨B3, d3, rfl, ev3⟩ := evs_of_own ho3
  have HZ3 := Lib.hid (hb3.alloc hb3.size (.cells #[.int .i64 3, .int .i64 0, .int .i64 14, .int .i64 27] 88))
  have SM3 := Lib.hid (same_true [⟨3, 0, 14, 27⟩] B3 (some ⟨z3.heap.size, 0, none⟩) 1 d3 1 rfl (by omega) (z3.alloc (.cells #[.int .i64 3, .int .i64 0, .int .i64 14, .int .i64 27] 88)) (ev3.below ((Below.refl _ _).alloc (Nat.le_refl _) _)) (one_ev (x := ⟨3, 0, 14, 27⟩) (Blk.new z3 88 #[.int .i64 3, .int .i64 0, .int .i64 14, .int .i64 27])))
  clear ho3 ev3 hb3 EV3 QD
  go_wp2_with fail
  refine SM3.out.mono ?_
  rintro e u ⟨rfl, q3, rfl⟩
  have HY3 := Lib.hid (below_drewN HZ3.out q3)
  have HU := Lib.hid (HU.out.trans (HY3.out.mono HU.out.size))
  clear HZ3 SM3 HY3
  generalize (z3.alloc (.cells #[.int .i64 3, .int .i64 0, .int .i64 14, .int .i64 27] 88)).drewN q3 = y4 at *
  go_wp2_with fail
  go_ret
  exact ⟨rfl, HU.out⟩
end Go.Proofs.YtnmcjdiihebagaaDoor.Hdg
