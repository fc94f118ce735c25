/-
  The walk of Add.
-/
import Derived.Test.YtflmgjidnclegaaDoorTabShrink
import Derived.Outline
namespace Go.Proofs.YtflmgjidnclegaaDoor.Tab
open Go.RowKit
theorem shr_le {k : Int} (hk : 0 ≤ k) (Q : List Hd) : (tot (shr k Q) : Int) ≤ k := by
  induction Q with
  | nil => simpa [shr, tot] using hk
  | cons h t ih =>
    unfold shr
    split
    · exact ih
    · omega
theorem shr_neg {k : Int} (hk : k < 0) (Q : List Hd) : shr k Q = [] := by
  induction Q with
  | nil => rfl
  | cons h t ih => rw [shr_go (by omega), ih]
/-- what a table holds behind Add -/
def addQ (m : Nat) (h : Hd) (Q : List Hd) : List Hd := if hsz h ≤ m then shr ((m : Int) - (hsz h : Int)) Q ++ [h] else []
theorem Ring.add {cs : Array Value} {o : Nat} {h : Hd} {Q : List Hd} (hr : Ring cs o Q) (hl : Q.length < 128) (p : Nat) (hp : (o + Q.length) % 128 = p) :
    Ring (((cs.setIfInBounds (p * 3) (.string h.1)).setIfInBounds (p * 3 + 1) (.string h.2)).setIfInBounds (p * 3 + 2) (.bool false)) o (Q ++ [h]) := by
  subst hp
  refine ⟨by simpa using hr.1, fun j x hj => ?_⟩
  have hsz := hr.1
  by_cases hjl : j < Q.length
  · rw [List.getElem?_append_left hjl] at hj
    have hne : (o + j) % 128 ≠ (o + Q.length) % 128 := by omega
    obtain ⟨a, b, c⟩ := hr.2 j x hj
    refine ⟨?_, ?_, ?_⟩
    · rw [Array.getElem?_setIfInBounds_ne (by omega), Array.getElem?_setIfInBounds_ne (by omega), Array.getElem?_setIfInBounds_ne (by omega)]; exact a
    · rw [Array.getElem?_setIfInBounds_ne (by omega), Array.getElem?_setIfInBounds_ne (by omega), Array.getElem?_setIfInBounds_ne (by omega)]; exact b
    · rw [Array.getElem?_setIfInBounds_ne (by omega), Array.getElem?_setIfInBounds_ne (by omega), Array.getElem?_setIfInBounds_ne (by omega)]; exact c
  · have hjlt : j < (Q ++ [h]).length := (List.getElem?_eq_some_iff.1 hj).1
    rw [List.length_append, List.length_singleton] at hjlt
    obtain rfl : j = Q.length := by omega
    rw [List.getElem?_append_right (Nat.le_refl _), Nat.sub_self] at hj
    obtain rfl : h = x := by simpa using hj
    refine ⟨?_, ?_, ?_⟩
    · rw [Array.getElem?_setIfInBounds_ne (by omega), Array.getElem?_setIfInBounds_ne (by omega), Array.getElem?_setIfInBounds_self_of_lt (by omega)]
    · rw [Array.getElem?_setIfInBounds_ne (by omega), Array.getElem?_setIfInBounds_self_of_lt (by simp; omega)]
    · rw [Array.getElem?_setIfInBounds_self_of_lt (by simp; omega)]
theorem at_newest {w : World} {g r o q : Nat} (c0 : w.cell? ⟨g, 0, none⟩ = some (.slice (some ⟨r, 0, none⟩) 128 128)) (c1 : w.cell? ⟨g, 1, none⟩ = some (.int .i64 (o : Int))) (c2 : w.cell? ⟨g, 2, none⟩ = some (.int .i64 ((q + 1 : Nat) : Int)))
    (ho : o < 128) (hl : q + 1 ≤ 128) (p : Nat) (hp : (o + q) % 128 = p) :
    Calls Tryd.prog 58 #[.pointer (some ⟨g, 0, none⟩), .int .i64 0] w fun e w' => e = .returned (.int .i64 (p : Int)) ∧ ∃ n, w' = w.drewN n :=
  at_cells c0 c1 c2 ho hl 0 p (by omega) (by rw [← hp, Nat.add_sub_cancel, Nat.sub_zero])
def AddEnd (w : World) (g r m : Nat) (h : Hd) (Q : List Hd) (w' : World) : Prop := ∃ o : Nat, Tbl w' g r o (addQ m h Q) m ∧ Upd3 w w' (fun i => i = g ∨ i = r)
set_option maxRecDepth 100000 in
set_option maxHeartbeats 2000000 in
theorem add_any {w : World} {g r o m : Nat} {Q : List Hd} (h : Tbl w g r o Q m) (n v : ByteArray) (nv : Bool) (hb : hsz (n, v) ≤ 4611686018427387904) :
    Calls Tryd.prog 21 #[.pointer (some ⟨g, 0, none⟩), .agg #[.string n, .string v, .bool nv]] w fun e w' => e = .returned (.tuple #[]) ∧ AddEnd w g r m (n, v) Q w' := by
  have HS := Lib.hid (fun (b : Bool) (W : World) => size_any n v b (hsz (n, v)) rfl hb W)
  have HE := Lib.hid (fun w' : World => (Iff.rfl : AddEnd w g r m (n, v) Q w' ↔ AddEnd w g r m (n, v) Q w'))
  have hT := h.below ((Below.refl w.heap.size w).alloc (Nat.le_refl _) (.cells #[.string n, .string v, .bool nv] 23))
  have hk := Blk.new w 23 #[.string n, .string v, .bool nv]
  have hu := (Upd3.refl w (fun i => i = g ∨ i = r)).alloc (.cells #[.string n, .string v, .bool nv] 23)
  have hgl := h.kg.lt
  have hrl : r < w.heap.size := h.kr.elim fun _ hx => hx.1.lt
  have hm := h.hm
  have hne := h.ne
  clear h HE
  go_enter Tryd.func21, Tryd.ntmps21
  go_wp2_with fail
  generalize w.alloc (.cells #[.string n, .string v, .bool nv] 23) = W0 at *
  obtain ⟨b, hbb⟩ : ∃ b, b = w.heap.size := ⟨_, rfl⟩
  rw [← hbb] at hk hgl hrl ⊢
  have HBB := Lib.hid hbb
  clear hbb
  have c4 : W0.cell? ⟨g, 4, none⟩ = some (.int .i64 (m : Int)) := hT.kg.cell 4
  have k0 : W0.cell? ⟨b, 0, none⟩ = some (.string n) := hk.cell 0
  have k1 : W0.cell? ⟨b, 1, none⟩ = some (.string v) := hk.cell 1
  have k2 : W0.cell? ⟨b, 2, none⟩ = some (.bool nv) := hk.cell 2
  have HSN := Lib.hid (HS.out nv)
  have hm' : (m : Int) ≤ 4096 := by omega
  generalize hsx : hsz (n, v) = sx at *
  have HSX := Lib.hid hsx
  clear hsx
  have hwr : IntKind.i64.wrap ((m : Int) - (sx : Int)) = (m : Int) - (sx : Int) := IntWalk.i64_in _ (by omega)
  refine wp_region_in_tail 8 (Since W0) (Since.drew0 W0) (by kernel_rfl) (by kernel_rfl) ?_
  simp only [List.take_succ_cons, List.take_zero, List.drop_succ_cons, List.drop_zero]
  repeat (first
    | go_big_quiet_skip
    | (go_big_quiet_want; go_big_quiet_op; go_big_quiet_on)
    | (go_big_quiet_want; apply in_val; (· intro W hW; have d0 := hW.cell c4; have d1 := hW.cell k0; have d2 := hW.cell k1; have d3 := hW.cell k2; go_simp; first | done | rfl); simp only [Act.put, List.setIfInBounds_toArray, List.set_cons_zero, List.set_cons_succ]; go_big_quiet_on)
    | (go_big_quiet_want; apply in_q; (· intro W hW; go_simp; (go_at_call 17; with_reducible exact hW.call (HSN.out W))); simp only [Act.put, List.setIfInBounds_toArray, List.set_cons_zero, List.set_cons_succ]; go_big_quiet_on))
  refine wpQuiet_nil ?_
  intro W1 hW1
  go_wp2_with fail
  refine (shrink_any (hT.below hW1) _).mono ?_
  rintro e W2 ⟨rfl, o2, hT2, hu2⟩
  have hgb : ¬ (b = g ∨ b = r) := by omega
  have hk2 := hu2.blk (hk.below hW1 hk.lt) hgb
  have hu2 := (hu.since hW1).trans hu2 (fun _ h => Or.inl h)
  clear hW1 c4 k0 k1 k2 hk hT hu
  go_wp2_with fail
  have c4 : W2.cell? ⟨g, 4, none⟩ = some (.int .i64 (m : Int)) := hT2.kg.cell 4
  have k0 : W2.cell? ⟨b, 0, none⟩ = some (.string n) := hk2.cell 0
  have k1 : W2.cell? ⟨b, 1, none⟩ = some (.string v) := hk2.cell 1
  have k2 : W2.cell? ⟨b, 2, none⟩ = some (.bool nv) := hk2.cell 2
  by_cases hsm : m < sx
  · have hd : decide ((sx : Int) > (m : Int)) = true := decide_eq_true (by omega)
    have HD := Lib.hid (⟨o2, by rw [addQ, HSX.out, if_neg (by omega)]; rw [shr_neg (by omega)] at hT2; exact hT2⟩ : ∃ o, Tbl W2 g r o (addQ m (n, v) Q) m)
    have HU := Lib.hid hu2
    clear hT2 hu2
    refine wp_region_in (Since W2) (Since.drew0 W2) (by kernel_rfl) (by kernel_rfl) ?_
    repeat (first
      | go_big_quiet_skip
      | (go_big_quiet_want; go_big_quiet_op; go_big_quiet_on)
      | (go_big_quiet_want; apply in_val; (· intro W hW; have d0 := hW.cell c4; have d1 := hW.cell k0; have d2 := hW.cell k1; have d3 := hW.cell k2; go_simp; first | done | rfl); simp only [Act.put, List.setIfInBounds_toArray, List.set_cons_zero, List.set_cons_succ]; go_big_quiet_on)
      | (go_big_quiet_want; apply in_q; (· intro W hW; go_simp; (go_at_call 17; with_reducible exact hW.call (HSN.out W))); simp only [Act.put, List.setIfInBounds_toArray, List.set_cons_zero, List.set_cons_succ]; go_big_quiet_on))
    refine wpQuiet_nil ?_
    intro W3 hW3
    go_wp2_with fail
    refine bodyPost_ret (results_none (by rfl) _ _ _) rfl ?_
    obtain ⟨o3, hT3⟩ := HD.out
    exact ⟨rfl, o3, hT3.below hW3, HU.out.since hW3⟩
  · have hd : decide ((sx : Int) > (m : Int)) = false := decide_eq_false (by omega)
    have hle := shr_le (k := (m : Int) - (sx : Int)) (by omega) Q
    have HA := Lib.hid (show addQ m (n, v) Q = shr ((m : Int) - (sx : Int)) Q ++ [(n, v)] by rw [addQ, HSX.out, if_pos (by omega)])
    generalize shr ((m : Int) - (sx : Int)) Q = R at *
    refine wp_region_in (Since W2) (Since.drew0 W2) (by kernel_rfl) (by kernel_rfl) ?_
    repeat (first
      | go_big_quiet_skip
      | (go_big_quiet_want; go_big_quiet_op; go_big_quiet_on)
      | (go_big_quiet_want; apply in_val; (· intro W hW; have d0 := hW.cell c4; have d1 := hW.cell k0; have d2 := hW.cell k1; have d3 := hW.cell k2; go_simp; first | done | rfl); simp only [Act.put, List.setIfInBounds_toArray, List.set_cons_zero, List.set_cons_succ]; go_big_quiet_on)
      | (go_big_quiet_want; apply in_q; (· intro W hW; go_simp; (go_at_call 17; with_reducible exact hW.call (HSN.out W))); simp only [Act.put, List.setIfInBounds_toArray, List.set_cons_zero, List.set_cons_succ]; go_big_quiet_on))
    refine wpQuiet_nil ?_
    intro W3 hW3
    have hT3 := hT2.below hW3
    have hk3 := hk2.below hW3 hk2.lt
    have hu3 := hu2.since hW3
    clear hW3 c4 k0 k1 k2 hk2 hT2 hu2
    obtain ⟨cs, hr3, hR⟩ := hT3.kr
    have hg3 := hT3.kg
    have ho := hT3.ho
    have hrl2 : R.length * 32 ≤ tot R := tot_len R
    have hl : R.length < 128 := by have := HSX.out; simp only [hsz] at this; omega
    clear hrl2
    have c2 : W3.cell? ⟨g, 2, none⟩ = some (.int .i64 (R.length : Int)) := hg3.cell 2
    have f2 := hg3.frozen 2
    have k2 : W3.cell? ⟨b, 2, none⟩ = some (.bool nv) := hk3.cell 2
    have e2 := hk3.frozen 2
    go_wp2_with fail
    have hbr : b ≠ r := by omega
    have hbg : b ≠ g := by omega
    have hg4 := (hg3.set_ 2 (.int .i64 ((R.length : Int) + 1))).far (p := ⟨b, 2, none⟩) (Ne.symm hbg) (.bool false)
    have hr4 := (hr3.far (p := ⟨g, 2, none⟩) (Ne.symm hne) (.int .i64 ((R.length : Int) + 1))).far (p := ⟨b, 2, none⟩) (Ne.symm hbr) (.bool false)
    have hk4 := (hk3.far (p := ⟨g, 2, none⟩) hbg (.int .i64 ((R.length : Int) + 1))).set_ 2 (.bool false)
    have hu4 := (hu3.setCell (p := ⟨g, 2, none⟩) (Or.inl (Or.inl rfl)) (.int .i64 ((R.length : Int) + 1))).setCell (p := ⟨b, 2, none⟩) (Or.inr (Nat.le_of_eq HBB.out.symm)) (.bool false)
    clear c2 f2 k2 e2 hg3 hr3 hk3 hu3 hT3
    generalize (W3.setCell ⟨g, 2, none⟩ (.int .i64 ((R.length : Int) + 1))).setCell ⟨b, 2, none⟩ (.bool false) = W4 at *
    obtain ⟨p, hpe, hp⟩ : ∃ p : Nat, (o2 + R.length) % 128 = p ∧ p < 128 := ⟨_, rfl, by omega⟩
    have c0 : W4.cell? ⟨g, 0, none⟩ = some (.slice (some ⟨r, 0, none⟩) 128 128) := hg4.cell 0
    have c1 : W4.cell? ⟨g, 1, none⟩ = some (.int .i64 (o2 : Int)) := hg4.cell 1
    have c2 : W4.cell? ⟨g, 2, none⟩ = some (.int .i64 ((R.length + 1 : Nat) : Int)) := hg4.cell 2
    have k0 : W4.cell? ⟨b, 0, none⟩ = some (.string n) := hk4.cell 0
    have k1 : W4.cell? ⟨b, 1, none⟩ = some (.string v) := hk4.cell 1
    have k2 : W4.cell? ⟨b, 2, none⟩ = some (.bool false) := hk4.cell 2
    have HAt := Lib.hid (fun (W : World) (hW : Since W4 W) => at_newest (hW.cell c0) (hW.cell c1) (hW.cell c2) ho (by omega) p hpe)
    have hp' : (p : Int) < 128 := by omega
    have HPE := Lib.hid hpe
    clear hpe c1 c2
    refine wp_region_in_tail 8 (Since W4) (Since.drew0 W4) (by kernel_rfl) (by kernel_rfl) ?_
    simp only [List.take_succ_cons, List.take_zero, List.drop_succ_cons, List.drop_zero]
    repeat (first
      | go_big_quiet_skip
      | (go_big_quiet_want; go_big_quiet_op; go_big_quiet_on)
      | (go_big_quiet_want; apply in_val; (· intro W hW; have d0 := hW.cell c0; have d1 := hW.cell k0; have d2 := hW.cell k1; have d3 := hW.cell k2; go_simp; first | done | rfl); simp only [Act.put, List.setIfInBounds_toArray, List.set_cons_zero, List.set_cons_succ]; go_big_quiet_on)
      | (go_big_quiet_want; apply in_q; (· intro W hW; go_simp; (go_at_call 58; with_reducible exact hW.callN (HAt.out W hW))); simp only [Act.put, List.setIfInBounds_toArray, List.set_cons_zero, List.set_cons_succ]; go_big_quiet_on))
    refine wpQuiet_nil ?_
    intro W5 hW5
    have hg5 := hg4.below hW5 hg4.lt
    have hr5 := hr4.below hW5 hr4.lt
    have hk5 := hk4.below hW5 hk4.lt
    have hu5 := hu4.since hW5
    have f0 := hr5.frozen (p * 3)
    have f1 := hr5.frozen (p * 3 + 1)
    have f2 := hr5.frozen (p * 3 + 2)
    have hcs := hR.1
    obtain ⟨v0, a0⟩ : ∃ v, W5.cell? ⟨r, p * 3, none⟩ = some v := ⟨_, (hr5.cell _).trans (Array.getElem?_eq_getElem (by omega))⟩
    obtain ⟨v1, a1⟩ : ∃ v, W5.cell? ⟨r, p * 3 + 1, none⟩ = some v := ⟨_, (hr5.cell _).trans (Array.getElem?_eq_getElem (by omega))⟩
    obtain ⟨v2, a2⟩ : ∃ v, W5.cell? ⟨r, p * 3 + 2, none⟩ = some v := ⟨_, (hr5.cell _).trans (Array.getElem?_eq_getElem (by omega))⟩
    clear hcs
    go_wp2_with fail
    have hg6 := ((hg5.far (p := ⟨r, p * 3, none⟩) hne (.string n)).far (p := ⟨r, p * 3 + 1, none⟩) hne (.string v)).far (p := ⟨r, p * 3 + 2, none⟩) hne (.bool false)
    have hr6 := ((hr5.set_ (p * 3) (.string n)).set_ (p * 3 + 1) (.string v)).set_ (p * 3 + 2) (.bool false)
    have hk6 := ((hk5.far (p := ⟨r, p * 3, none⟩) hbr (.string n)).far (p := ⟨r, p * 3 + 1, none⟩) hbr (.string v)).far (p := ⟨r, p * 3 + 2, none⟩) hbr (.bool false)
    have hu6 := ((hu5.setCell (p := ⟨r, p * 3, none⟩) (Or.inl (Or.inr rfl)) (.string n)).setCell (p := ⟨r, p * 3 + 1, none⟩) (Or.inl (Or.inr rfl)) (.string v)).setCell (p := ⟨r, p * 3 + 2, none⟩) (Or.inl (Or.inr rfl)) (.bool false)
    clear f0 f1 f2 a0 a1 a2 hg5 hr5 hk5 hu5 hW5 c0 k0 k1 k2 hg4 hr4 hk4 hu4
    generalize ((W5.setCell ⟨r, p * 3, none⟩ (.string n)).setCell ⟨r, p * 3 + 1, none⟩ (.string v)).setCell ⟨r, p * 3 + 2, none⟩ (.bool false) = W6 at *
    have c3 : W6.cell? ⟨g, 3, none⟩ = some (.int .i64 (tot R : Int)) := hg6.cell 3
    have k0 : W6.cell? ⟨b, 0, none⟩ = some (.string n) := hk6.cell 0
    have k1 : W6.cell? ⟨b, 1, none⟩ = some (.string v) := hk6.cell 1
    have k2 : W6.cell? ⟨b, 2, none⟩ = some (.bool false) := hk6.cell 2
    have HSF := Lib.hid (HS.out false)
    refine wp_region_in_tail 9 (Since W6) (Since.drew0 W6) (by kernel_rfl) (by kernel_rfl) ?_
    simp only [List.take_succ_cons, List.take_zero, List.drop_succ_cons, List.drop_zero]
    repeat (first
      | go_big_quiet_skip
      | (go_big_quiet_want; go_big_quiet_op; go_big_quiet_on)
      | (go_big_quiet_want; apply in_val; (· intro W hW; have d0 := hW.cell c3; have d1 := hW.cell k0; have d2 := hW.cell k1; have d3 := hW.cell k2; go_simp; first | done | rfl); simp only [Act.put, List.setIfInBounds_toArray, List.set_cons_zero, List.set_cons_succ]; go_big_quiet_on)
      | (go_big_quiet_want; apply in_q; (· intro W hW; go_simp; (go_at_call 17; with_reducible exact hW.call (HSF.out W))); simp only [Act.put, List.setIfInBounds_toArray, List.set_cons_zero, List.set_cons_succ]; go_big_quiet_on))
    refine wpQuiet_nil ?_
    intro W7 hW7
    have hg7 := hg6.below hW7 hg6.lt
    have hr7 := hr6.below hW7 hr6.lt
    have hu7 := hu6.since hW7
    have f3 := hg7.frozen 3
    have b3 : W7.cell? ⟨g, 3, none⟩ = some (.int .i64 (tot R : Int)) := hg7.cell 3
    go_wp2_with fail
    go_end0
    have hg8 := hg7.set_ 3 (.int .i64 ((tot R : Int) + (sx : Int)))
    have hr8 := hr7.far (p := ⟨g, 3, none⟩) (Ne.symm hne) (.int .i64 ((tot R : Int) + (sx : Int)))
    have hu8 := hu7.setCell (p := ⟨g, 3, none⟩) (Or.inl (Or.inl rfl)) (.int .i64 ((tot R : Int) + (sx : Int)))
    have hT : tot (R ++ [(n, v)]) = tot R + sx := by rw [tot_append, tot, tot, HSX.out, Nat.add_zero]
    have hRa := hR.add (h := (n, v)) hl p HPE.out
    have hlen : (R ++ [(n, v)]).length = R.length + 1 := by rw [List.length_append, List.length_singleton]
    refine ⟨rfl, o2, ?_, hu8⟩
    rw [HA.out]
    refine ⟨?_, ⟨_, hr8, hRa⟩, ho, hm, by rw [hT]; omega⟩
    rw [hT, hlen]
    rw [show tcs r o2 (R.length + 1) (tot R + sx) m = ((tcs r o2 R.length (tot R) m).setIfInBounds 2 (.int .i64 ((R.length : Int) + 1))).setIfInBounds 3 (.int .i64 ((tot R : Int) + (sx : Int))) from rfl]
    exact hg8
end Go.Proofs.YtflmgjidnclegaaDoor.Tab
