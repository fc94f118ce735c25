/-
  The walk of shrink: the oldest go.
-/
import Derived.Test.YtflmgjidnclegaaDoorTabNew
import Derived.Outline
namespace Go.Proofs.YtflmgjidnclegaaDoor.Tab
open Go.RowKit
/-- what stays where there may be so many bytes -/
def shr (k : Int) : List Hd → List Hd
  | [] => []
  | h :: t => if k < (tot (h :: t) : Int) then shr k t else h :: t
theorem shr_go {k : Int} {h : Hd} {t : List Hd} (hk : k < (tot (h :: t) : Int)) : shr k (h :: t) = shr k t := by rw [shr, if_pos hk]
theorem shr_stay {k : Int} {h : Hd} {t : List Hd} (hk : ¬ k < (tot (h :: t) : Int)) : shr k (h :: t) = h :: t := by rw [shr, if_neg hk]
theorem Ring.head {cs : Array Value} {o : Nat} {h : Hd} {t : List Hd} (hr : Ring cs o (h :: t)) (ho : o < 128) : cs[o * 3]? = some (.string h.1) ∧ cs[o * 3 + 1]? = some (.string h.2) ∧ cs[o * 3 + 2]? = some (.bool false) := by
  have := hr.2 0 h rfl
  rwa [Nat.add_zero, Nat.mod_eq_of_lt ho] at this
theorem Ring.tail {cs : Array Value} {o : Nat} {h : Hd} {t : List Hd} (hr : Ring cs o (h :: t)) (hl : t.length < 128) :
    Ring (((cs.setIfInBounds (o * 3) (.string ⟨#[]⟩)).setIfInBounds (o * 3 + 1) (.string ⟨#[]⟩)).setIfInBounds (o * 3 + 2) (.bool false)) ((o + 1) % 128) t := by
  refine ⟨by simpa using hr.1, fun j x hj => ?_⟩
  have hjl : j < t.length := (List.getElem?_eq_some_iff.1 hj).1
  have e : ((o + 1) % 128 + j) % 128 = (o + (j + 1)) % 128 := by omega
  have hne : (o + (j + 1)) % 128 ≠ o := by omega
  obtain ⟨a, b, c⟩ := hr.2 (j + 1) x (by simpa using hj)
  rw [e]
  refine ⟨?_, ?_, ?_⟩
  · rw [Array.getElem?_setIfInBounds_ne (by omega), Array.getElem?_setIfInBounds_ne (by omega), Array.getElem?_setIfInBounds_ne (by omega)]; exact a
  · rw [Array.getElem?_setIfInBounds_ne (by omega), Array.getElem?_setIfInBounds_ne (by omega), Array.getElem?_setIfInBounds_ne (by omega)]; exact b
  · rw [Array.getElem?_setIfInBounds_ne (by omega), Array.getElem?_setIfInBounds_ne (by omega), Array.getElem?_setIfInBounds_ne (by omega)]; exact c
/-- where the loop stands -/
def ShrAt (w : World) (g r m : Nat) (k : Int) (Q : List Hd) (n : Nat) (wr : World) : Prop := ∃ (o : Nat) (Q' : List Hd), Q'.length = n ∧ Tbl wr g r o Q' m ∧ shr k Q' = shr k Q ∧ Upd3 w wr (fun i => i = g ∨ i = r)
def ShrEnd (w : World) (g r m : Nat) (k : Int) (Q : List Hd) (w' : World) : Prop := ∃ o : Nat, Tbl w' g r o (shr k Q) m ∧ Upd3 w w' (fun i => i = g ∨ i = r)
set_option maxRecDepth 100000 in
set_option maxHeartbeats 1000000 in
theorem shrink_any {w : World} {g r o m : Nat} {Q : List Hd} (h : Tbl w g r o Q m) (k : Int) :
    Calls Tryd.prog 57 #[.pointer (some ⟨g, 0, none⟩), .int .i64 k] w fun e w' => e = .returned (.tuple #[]) ∧ ShrEnd w g r m k Q w' := by
  have H0 := Lib.hid (⟨o, Q, rfl, h, rfl, Upd3.refl w _⟩ : ShrAt w g r m k Q Q.length w)
  clear h
  go_enter Tryd.func57, Tryd.ntmps57
  go_wp2_with fail
  go_loopg [] Q.length (fun n wr => ShrAt w g r m k Q n wr)
  case atStart => exact H0.out
  case round =>
    clear H0
    obtain ⟨o, Q', rfl, hT, hs, hu⟩ := hrel
    have hne := hT.ne
    rcases Q' with _ | ⟨x, t⟩
    · have c2 : wr.cell? ⟨g, 2, none⟩ = some (.int .i64 0) := hT.kg.cell 2
      have HE := Lib.hid (⟨o, by rw [← hs]; exact hT, hu⟩ : ShrEnd w g r m k Q wr)
      clear hT hs hu
      go_wp2_with fail
      go_end0
      exact ⟨rfl, HE.out⟩
    · obtain ⟨cs, hr, hR⟩ := hT.kr
      have hg := hT.kg
      have ho := hT.ho
      have hl : t.length < 128 := hT.len
      have ht := hT.ht
      have hm := hT.hm
      have c2 : wr.cell? ⟨g, 2, none⟩ = some (.int .i64 ((t.length + 1 : Nat) : Int)) := hg.cell 2
      have c3 : wr.cell? ⟨g, 3, none⟩ = some (.int .i64 (tot (x :: t) : Int)) := hg.cell 3
      have hd2 : decide (((t.length + 1 : Nat) : Int) > 0) = true := decide_eq_true (by omega)
      by_cases hk : k < (tot (x :: t) : Int)
      · rw [shr_go hk] at hs
        have hd3 : decide ((tot (x :: t) : Int) > k) = true := decide_eq_true hk
        go_wp2_with fail
        have c0 : wr.cell? ⟨g, 0, none⟩ = some (.slice (some ⟨r, 0, none⟩) 128 128) := hg.cell 0
        have c1 : wr.cell? ⟨g, 1, none⟩ = some (.int .i64 (o : Int)) := hg.cell 1
        obtain ⟨a0, a1, a2⟩ := hR.head ho
        have r0 : wr.cell? ⟨r, o * 3, none⟩ = some (.string x.1) := (hr.cell _).trans a0
        have r1 : wr.cell? ⟨r, o * 3 + 1, none⟩ = some (.string x.2) := (hr.cell _).trans a1
        have r2 : wr.cell? ⟨r, o * 3 + 2, none⟩ = some (.bool false) := (hr.cell _).trans a2
        have htx : tot (x :: t) = hsz x + tot t := rfl
        have HS := Lib.hid (fun W : World => size_any x.1 x.2 false (hsz x) rfl (by omega) W)
        have HTX := Lib.hid htx
        have hle : hsz x ≤ tot (x :: t) := by omega
        have ho' : (o : Int) < 128 := by omega
        clear htx
        generalize tot (x :: t) = T at *
        generalize hsz x = sx at *
        refine wp_region_in_tail 18 (Since wr) (Since.drew0 wr) (by kernel_rfl) (by kernel_rfl) ?_
        simp only [List.take_succ_cons, List.take_zero, List.drop_succ_cons, List.drop_zero]
        repeat (first
          | go_big_quiet_skip
          | (go_big_quiet_want; go_big_quiet_op; go_big_quiet_on)
          | (go_big_quiet_want; apply in_val; (· intro W hW; have d0 := hW.cell c0; have d1 := hW.cell c1; have d2 := hW.cell c3; have d3 := hW.cell r0; have d4 := hW.cell r1; have d5 := hW.cell r2; go_simp; first | done | rfl); simp only [Act.put, List.setIfInBounds_toArray, List.set_cons_zero, List.set_cons_succ]; go_big_quiet_on)
          | (go_big_quiet_want; apply in_q; (· intro W hW; go_simp; (go_at_call 17; with_reducible exact hW.call (HS.out W))); simp only [Act.put, List.setIfInBounds_toArray, List.set_cons_zero, List.set_cons_succ]; go_big_quiet_on))
        refine wpQuiet_nil ?_
        intro W1 hW1
        have hg1 := hg.below hW1 hg.lt
        have hr1 := hr.below hW1 hr.lt
        have hu1 := hu.since hW1
        have f3 := hg1.frozen 3
        have b3 : W1.cell? ⟨g, 3, none⟩ = some (.int .i64 (T : Int)) := hg1.cell 3
        go_wp2_with fail
        have hg2 := hg1.set_ 3 (.int .i64 ((T : Int) - (sx : Int)))
        have hr2 := hr1.far (p := ⟨g, 3, none⟩) (Ne.symm hne) (.int .i64 ((T : Int) - (sx : Int)))
        have hu2 := hu1.setCell (p := ⟨g, 3, none⟩) (Or.inl (Or.inl rfl)) (.int .i64 ((T : Int) - (sx : Int)))
        clear f3 b3 hg1 hr1 hu1 hW1 c0 c1 c3 r0 r1 r2 hg hr hu
        generalize W1.setCell ⟨g, 3, none⟩ (.int .i64 ((T : Int) - (sx : Int))) = W2 at *
        have c0 : W2.cell? ⟨g, 0, none⟩ = some (.slice (some ⟨r, 0, none⟩) 128 128) := hg2.cell 0
        have c1 : W2.cell? ⟨g, 1, none⟩ = some (.int .i64 (o : Int)) := hg2.cell 1
        refine wp_region_in_tail 10 (Since W2) (Since.drew0 W2) (by kernel_rfl) (by kernel_rfl) ?_
        simp only [List.take_succ_cons, List.take_zero, List.drop_succ_cons, List.drop_zero]
        repeat (first
          | go_big_quiet_skip
          | (go_big_quiet_want; go_big_quiet_op; go_big_quiet_on)
          | (go_big_quiet_want; apply in_val; (· intro W hW; have d0 := hW.cell c0; have d1 := hW.cell c1; go_simp; first | done | rfl); simp only [Act.put, List.setIfInBounds_toArray, List.set_cons_zero, List.set_cons_succ]; go_big_quiet_on))
        refine wpQuiet_nil ?_
        intro W3 hW3
        have hg3 := hg2.below hW3 hg2.lt
        have hr3 := hr2.below hW3 hr2.lt
        have hu3 := hu2.since hW3
        have f0 := hr3.frozen (o * 3)
        have f1 := hr3.frozen (o * 3 + 1)
        have f2 := hr3.frozen (o * 3 + 2)
        have r0 : W3.cell? ⟨r, o * 3, none⟩ = some (.string x.1) := (hr3.cell _).trans a0
        have r1 : W3.cell? ⟨r, o * 3 + 1, none⟩ = some (.string x.2) := (hr3.cell _).trans a1
        have r2 : W3.cell? ⟨r, o * 3 + 2, none⟩ = some (.bool false) := (hr3.cell _).trans a2
        go_wp2_with fail
        have hg4 := ((hg3.far (p := ⟨r, o * 3, none⟩) hne (.string ⟨#[]⟩)).far (p := ⟨r, o * 3 + 1, none⟩) hne (.string ⟨#[]⟩)).far (p := ⟨r, o * 3 + 2, none⟩) hne (.bool false)
        have hr4 := ((hr3.set_ (o * 3) (.string ⟨#[]⟩)).set_ (o * 3 + 1) (.string ⟨#[]⟩)).set_ (o * 3 + 2) (.bool false)
        have hu4 := ((hu3.setCell (p := ⟨r, o * 3, none⟩) (Or.inl (Or.inr rfl)) (.string ⟨#[]⟩)).setCell (p := ⟨r, o * 3 + 1, none⟩) (Or.inl (Or.inr rfl)) (.string ⟨#[]⟩)).setCell (p := ⟨r, o * 3 + 2, none⟩) (Or.inl (Or.inr rfl)) (.bool false)
        clear f0 f1 f2 r0 r1 r2 hg3 hr3 hu3 hW3 c0 c1 hg2 hr2 hu2
        generalize ((W3.setCell ⟨r, o * 3, none⟩ (.string ⟨#[]⟩)).setCell ⟨r, o * 3 + 1, none⟩ (.string ⟨#[]⟩)).setCell ⟨r, o * 3 + 2, none⟩ (.bool false) = W4 at *
        have c0 : W4.cell? ⟨g, 0, none⟩ = some (.slice (some ⟨r, 0, none⟩) 128 128) := hg4.cell 0
        have c1 : W4.cell? ⟨g, 1, none⟩ = some (.int .i64 (o : Int)) := hg4.cell 1
        refine wp_region_in_tail 14 (Since W4) (Since.drew0 W4) (by kernel_rfl) (by kernel_rfl) ?_
        simp only [List.take_succ_cons, List.take_zero, List.drop_succ_cons, List.drop_zero]
        repeat (first
          | go_big_quiet_skip
          | (go_big_quiet_want; go_big_quiet_op; go_big_quiet_on)
          | (go_big_quiet_want; apply in_val; (· intro W hW; have d0 := hW.cell c0; have d1 := hW.cell c1; go_simp; first | done | rfl); simp only [Act.put, List.setIfInBounds_toArray, List.set_cons_zero, List.set_cons_succ]; go_big_quiet_on))
        refine wpQuiet_nil ?_
        intro W5 hW5
        have hg5 := hg4.below hW5 hg4.lt
        have hr5 := hr4.below hW5 hr4.lt
        have hu5 := hu4.since hW5
        have f1 := hg5.frozen 1
        have b1 : W5.cell? ⟨g, 1, none⟩ = some (.int .i64 (o : Int)) := hg5.cell 1
        have f2 := hg5.frozen 2
        have b2 : W5.cell? ⟨g, 2, none⟩ = some (.int .i64 ((t.length + 1 : Nat) : Int)) := hg5.cell 2
        go_wp2_with fail
        go_roundg t.length
        case measure => simp
        case rel =>
          have hg6 := (hg5.set_ 1 (.int .i64 (((o : Int) + 1) % 128))).set_ 2 (.int .i64 (t.length : Int))
          have hr6 := (hr5.far (p := ⟨g, 1, none⟩) (Ne.symm hne) (.int .i64 (((o : Int) + 1) % 128))).far (p := ⟨g, 2, none⟩) (Ne.symm hne) (.int .i64 (t.length : Int))
          have hu6 := (hu5.setCell (p := ⟨g, 1, none⟩) (Or.inl (Or.inl rfl)) (.int .i64 (((o : Int) + 1) % 128))).setCell (p := ⟨g, 2, none⟩) (Or.inl (Or.inl rfl)) (.int .i64 (t.length : Int))
          have hTX := HTX.out
          refine ⟨(o + 1) % 128, t, rfl, ⟨?_, ⟨_, hr6, hR.tail hl⟩, by omega, hm, by omega⟩, ?_, hu6⟩
          · rw [show tcs r ((o + 1) % 128) t.length (tot t) m = (((tcs r o (x :: t).length T m).setIfInBounds 3 (.int .i64 ((T : Int) - (sx : Int)))).setIfInBounds 1 (.int .i64 (((o : Int) + 1) % 128))).setIfInBounds 2 (.int .i64 (t.length : Int)) by
              have e1 : ((T : Int) - (sx : Int)) = ((tot t : Nat) : Int) := by omega
              have e2 : (((o : Int) + 1) % 128) = (((o + 1) % 128 : Nat) : Int) := by omega
              rw [e1, e2]
              rfl]
            exact hg6
          · exact hs
      · have HE := Lib.hid (⟨o, by rw [← hs, shr_stay hk]; exact hT, hu⟩ : ShrEnd w g r m k Q wr)
        have hd3 : decide ((tot (x :: t) : Int) > k) = false := decide_eq_false hk
        clear hT hs hu hg hr hR
        go_wp2_with fail
        go_end0
        exact ⟨rfl, HE.out⟩
end Go.Proofs.YtflmgjidnclegaaDoor.Tab
