/-
  The law's events; the document's Same.
-/
import Derived.Test.YtnmcjdiihebagaaDoorHdgNew
namespace Go.Proofs.YtnmcjdiihebagaaDoor.Hdg
open Go.RowKit
open Pol (intsV IntsAt codeOk)
/-- events that lie below the heap's end -/
def EvsAt (w : World) (A : Option Addr) (E : List Ev) : Prop :=
  ∀ i, i < E.length → ∃ b off x, A = some ⟨b, off, none⟩ ∧ b < w.heap.size ∧ E[i]? = some x ∧ w.cell? ⟨b, off + i * 4, none⟩ = some (.int .i64 x.kind) ∧ w.cell? ⟨b, off + i * 4 + 1, none⟩ = some (.int .i64 x.try_) ∧ w.cell? ⟨b, off + i * 4 + 2, none⟩ = some (.int .i64 x.code) ∧ w.cell? ⟨b, off + i * 4 + 3, none⟩ = some (.int .i64 x.at_)
theorem evV_get (E : List Ev) : ∀ (i : Nat) (x : Ev), E[i]? = some x → (evV E)[i * 4]? = some (.int .i64 x.kind) ∧ (evV E)[i * 4 + 1]? = some (.int .i64 x.try_) ∧ (evV E)[i * 4 + 2]? = some (.int .i64 x.code) ∧ (evV E)[i * 4 + 3]? = some (.int .i64 x.at_) := by
  induction E with
  | nil => intro i x h; simp at h
  | cons e E ih =>
    intro i x h
    have hv : evV (e :: E) = Ev.cells e ++ evV E := by simp [evV]
    have hl : (Ev.cells e).length = 4 := rfl
    cases i with
    | zero =>
      have : e = x := by simpa using h
      subst this
      rw [hv]
      exact ⟨rfl, rfl, rfl, rfl⟩
    | succ i =>
      have := ih i x (by simpa using h)
      rw [hv]
      rw [List.getElem?_append_right (by rw [hl]; omega), List.getElem?_append_right (by rw [hl]; omega), List.getElem?_append_right (by rw [hl]; omega), List.getElem?_append_right (by rw [hl]; omega), hl]
      rw [show (i + 1) * 4 - 4 = i * 4 by omega, show (i + 1) * 4 + 1 - 4 = i * 4 + 1 by omega, show (i + 1) * 4 + 2 - 4 = i * 4 + 2 by omega, show (i + 1) * 4 + 3 - 4 = i * 4 + 3 by omega]
      exact this
theorem evs_of_own {w : World} {base : Nat} {t : TypeId} {v : Value} {E : List Ev} (h : w.ownsRow base t 4 v E.length (evV E)) : ∃ A cap, v = .slice A E.length cap ∧ EvsAt w A E := by
  rcases h.2 with ⟨rfl, h0⟩ | ⟨g, cap, cur, rfl, _, hh, hnc, hm, hcs, ht⟩
  · exact ⟨none, 0, by rw [h0], fun i hi => by omega⟩
  · refine ⟨_, _, rfl, fun i hi => ?_⟩
    have hb : Blk w g t cur := hh
    obtain ⟨h0, h1, h2, h3⟩ := evV_get E i E[i] (List.getElem?_eq_getElem hi)
    have hc : ∀ j u, (evV E)[j]? = some u → w.cell? ⟨g, 0 + j, none⟩ = some u := fun j u hu => by
      rw [Nat.zero_add, hb.cell j]
      have hj : j < E.length * 4 := by
        rcases Nat.lt_or_ge j (E.length * 4) with h | h
        · exact h
        · rw [List.getElem?_eq_none (by rw [evV_length]; exact h)] at hu; cases hu
      rw [← hu, ← ht, List.getElem?_take, if_pos hj]; simp
    exact ⟨g, 0, E[i], rfl, hb.lt, List.getElem?_eq_getElem hi, hc _ _ h0, hc _ _ h1, hc _ _ h2, hc _ _ h3⟩
theorem EvsAt.below {w w' : World} {A : Option Addr} {E : List Ev} (h : EvsAt w A E) (hb : Below w.heap.size w w') : EvsAt w' A E := by
  intro i hi
  obtain ⟨b, off, x, hA, hlt, hx, c0, c1, c2, c3⟩ := h i hi
  have hk : ∀ o, w'.cell? ⟨b, o, none⟩ = w.cell? ⟨b, o, none⟩ := fun o => hb.cell (p := ⟨b, o, none⟩) hlt
  exact ⟨b, off, x, hA, Nat.lt_of_lt_of_le hlt hb.size, hx, (hk _).trans c0, (hk _).trans c1, (hk _).trans c2, (hk _).trans c3⟩
set_option maxRecDepth 100000 in
set_option maxHeartbeats 4000000 in
theorem events_any (E : List Ev) (A : Option Addr) (n c : Nat) (hn : E.length = n) (hc : n ≤ 1000) (w : World) (hx : EvsAt w A E) :
    Calls Tryd.prog 37 #[.slice A n c] w fun e w' => ∃ v, e = .returned v ∧ w'.ownsRow w.heap.size 88 4 v E.length (evV E) ∧ Below w.heap.size w w' := by
  obtain ⟨i, hi, hi0, hi1, hi2⟩ := info_parts (P := Tryd.prog) (e := 88) (z := .agg #[.int .i64 0, .int .i64 0, .int .i64 0, .int .i64 0]) (size := 4) (bytes := 32) (by kernel_rfl)
  have HI := Lib.hid hi
  have HX := Lib.hid hx
  have HNN := Lib.hid hn
  clear hi hx hn
  go_enter Tryd.func37, Tryd.ntmps37
  go_wp2_with fail
  go_loopw [3, 4] (fun l k wr => ∃ j : Nat, j ≤ n ∧ k = .int .i64 (j : Int) ∧ wr.ownsRow w.heap.size 88 4 l j (evV (E.take j)) ∧ Below w.heap.size w wr) (fun _ k _ => n - (intOf k).toNat)
  case atStart => exact ⟨0, Nat.zero_le _, rfl, World.ownsRow_nil _ _ _ _, Below.refl _ _⟩
  case round =>
    obtain ⟨j, hj, rfl, hev, hB⟩ := hrel
    by_cases hlt : j < n
    · obtain ⟨b, off, x, rfl, hb, hxe, c0, c1, c2, c3⟩ := (HX.out.below hB) j (by rw [HNN.out]; exact hlt)
      have hbw : b < w.heap.size := by
        obtain ⟨b', off', _, e, h, _⟩ := HX.out j (by rw [HNN.out]; exact hlt)
        injection e with e
        injection e with e
        omega
      have htk : E.take (j + 1) = E.take j ++ [x] := by rw [List.take_add_one, hxe]; rfl
      have HTK := Lib.hid htk
      have HEV := Lib.hid hev
      have HB := Lib.hid hB
      have HON := Lib.hid (evV_one [x])
      have hbs : w.heap.size ≤ wr.heap.size := hB.size
      obtain ⟨xk, xt, xc, xa⟩ := x
      clear htk hxe hev hB
      go_wp2_with fail
      have hkeep : ∀ W, Below w.heap.size w W → ∀ o u, w.cell? ⟨b, o, none⟩ = some u → W.cell? ⟨b, o, none⟩ = some u := fun W h o u hu => (h.cell (p := ⟨b, o, none⟩) hbw).trans hu
      have q0 := (HB.out.cell (p := ⟨b, off + j * 4, none⟩) hbw).symm.trans c0
      have q1 := (HB.out.cell (p := ⟨b, off + j * 4 + 1, none⟩) hbw).symm.trans c1
      have q2 := (HB.out.cell (p := ⟨b, off + j * 4 + 2, none⟩) hbw).symm.trans c2
      have q3 := (HB.out.cell (p := ⟨b, off + j * 4 + 3, none⟩) hbw).symm.trans c3
      have HQ0 := Lib.hid q0
      have HQ1 := Lib.hid q1
      have HQ2 := Lib.hid q2
      have HQ3 := Lib.hid q3
      have HKP := Lib.hid hkeep
      clear q0 q1 q2 q3 hkeep
      go_region_held3 (fun W : World => W.cell? ⟨b, off + j * 4, none⟩ = some (.int .i64 xk) ∧ W.cell? ⟨b, off + j * 4 + 1, none⟩ = some (.int .i64 xt) ∧ W.cell? ⟨b, off + j * 4 + 2, none⟩ = some (.int .i64 xc) ∧ W.cell? ⟨b, off + j * 4 + 3, none⟩ = some (.int .i64 xa))
        (first | exact ⟨c0, c1, c2, c3⟩ | exact ⟨HKP.out _ (HB.out.alloc hbs _) _ _ HQ0.out, HKP.out _ (HB.out.alloc hbs _) _ _ HQ1.out, HKP.out _ (HB.out.alloc hbs _) _ _ HQ2.out, HKP.out _ (HB.out.alloc hbs _) _ _ HQ3.out⟩ | exact ⟨HKP.out _ B3 _ _ HQ0.out, HKP.out _ B3 _ _ HQ1.out, HKP.out _ B3 _ _ HQ2.out, HKP.out _ B3 _ _ HQ3.out⟩)
        (first | (refine step_append_lies _ rfl _ _ 86 rfl w.heap.size 88 i (.agg #[.int .i64 0, .int .i64 0, .int .i64 0, .int .i64 0]) 4 32 Tryd.underlying86 HI.out hi0 hi1 hi2 rfl (by decide) _ j (evV (E.take j)) rfl (HEV.out.alloc (.cells #[.int .i64 xk, .int .i64 xt, .int .i64 xc, .int .i64 xa] 88)) ⟨wr.heap.size, 0, none⟩ 1 1 (evV [⟨xk, xt, xc, xa⟩]) rfl rfl (World.news_of_block (Blk.new wr 88 #[.int .i64 xk, .int .i64 xt, .int .i64 xc, .int .i64 xa])) HON.out (by decide) (by unfold maxLen; omega) (by omega) (HB.out.alloc hbs _).size _ rfl ?_; intro gr cp w3 ho3 hg3 hat3 hlt3; have B3 : Below w.heap.size w w3 := ((HB.out.alloc hbs (.cells #[.int .i64 xk, .int .i64 xt, .int .i64 xc, .int .i64 xa] 88)).drew.grown hg3 (HB.out.alloc hbs _).size (fun k e => (HEV.out.lt k e).1))))
      all_goals
        have hE3 : w3.ownsRow w.heap.size 88 4 (.slice (some ⟨gr, 0, none⟩) (j + 1) cp) (j + 1) (evV (E.take (j + 1))) := by rw [HTK.out, evV_append]; exact ho3
        have HE3 := Lib.hid hE3
        have HB3 := Lib.hid B3
        clear hE3 ho3 hg3 hat3 hlt3 B3 c0 c1 c2 c3 HQ0 HQ1 HQ2 HQ3 HKP HEV HB HON
        go_wp2_with fail
        go_roundw
        case rel => exact ⟨j + 1, by omega, by go_num, HE3.out, HB3.out⟩
        case measure => simp [intOf]; omega
    · have htk : E.take j = E := List.take_of_length_le (by rw [HNN.out]; omega)
      rw [htk] at hev
      have hjn : j = E.length := by rw [HNN.out]; omega
      have HEV := Lib.hid hev
      have HJ := Lib.hid hjn
      have HB := Lib.hid hB
      clear htk hev hjn hB
      go_wp2_with fail
      go_ret
      exact ⟨_, rfl, by rw [← HJ.out]; exact HEV.out, HB.out⟩
set_option maxRecDepth 100000 in
set_option maxHeartbeats 4000000 in
theorem same_true (E : List Ev) (A A' : Option Addr) (n c c' : Nat) (hn : E.length = n) (hc : n ≤ 1000) (w : World) (hx : EvsAt w A E) (hx' : EvsAt w A' E) :
    Calls Tryd.prog 36 #[.slice A n c, .slice A' n c'] w fun e w' => e = .returned (.bool true) ∧ ∃ q, w' = w.drewN q := by
  have HX := Lib.hid hx
  have HX' := Lib.hid hx'
  have HNN := Lib.hid hn
  clear hx hx' hn
  go_enter Tryd.func36, Tryd.ntmps36
  go_wp2_with fail
  go_loopw [5] (fun k wr => ∃ (j q : Nat), j ≤ n ∧ k = .int .i64 (j : Int) ∧ wr = w.drewN q) (fun k _ => n - (intOf k).toNat)
  case atStart => exact ⟨0, 0, Nat.zero_le _, rfl, rfl⟩
  case round =>
    obtain ⟨j, q, hj, rfl, rfl⟩ := hrel
    by_cases hlt : j < n
    · obtain ⟨b, off, x, rfl, hb, hxe, c0, c1, c2, c3⟩ := HX.out j (by rw [HNN.out]; exact hlt)
      obtain ⟨b', off', x', rfl, hb', hxe', d0, d1, d2, d3⟩ := HX'.out j (by rw [HNN.out]; exact hlt)
      have hxx : x = x' := by rw [hxe] at hxe'; injection hxe'
      subst hxx
      obtain ⟨xk, xt, xc, xa⟩ := x
      clear hxe hxe'
      go_wp2_with fail
      go_quiet (fail)
      go_wp2_with fail
      go_roundw
      case rel => exact ⟨j + 1, q + nq, by omega, by go_num, rfl⟩
      case measure => simp [intOf]; omega
    · go_wp2_with fail
      go_ret
      exact ⟨rfl, q, rfl⟩
end Go.Proofs.YtnmcjdiihebagaaDoor.Hdg
