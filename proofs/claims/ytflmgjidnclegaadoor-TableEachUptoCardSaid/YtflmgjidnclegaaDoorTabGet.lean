/-
  The walks of Resize and Get.
-/
import Derived.Test.YtflmgjidnclegaaDoorTabAdd
import Derived.Outline
namespace Go.Proofs.YtflmgjidnclegaaDoor.Tab
open Go.RowKit
def ResEnd (w : World) (g r m : Nat) (Q : List Hd) (w' : World) : Prop := ∃ o : Nat, Tbl w' g r o (shr (m : Int) Q) m ∧ Upd3 w w' (fun i => i = g ∨ i = r)
set_option maxRecDepth 100000 in
theorem resize_yes {w : World} {g r o m : Nat} {Q : List Hd} (h : Tbl w g r o Q m) (k : Nat) (hk : k ≤ 4096) :
    Calls Tryd.prog 22 #[.pointer (some ⟨g, 0, none⟩), .int .i64 (k : Int)] w fun e w' => e = .returned .nilIface ∧ ResEnd w g r k Q w' := by
  have HF := Lib.hid (fun W => fits_yes k hk W)
  have hg := h.kg.set_ 4 (.int .i64 (k : Int))
  obtain ⟨cs, hr, hR⟩ := h.kr
  have hr1 := hr.far (p := ⟨g, 4, none⟩) (Ne.symm h.ne) (.int .i64 (k : Int))
  have hT : Tbl (w.setCell ⟨g, 4, none⟩ (.int .i64 (k : Int))) g r o Q k := ⟨hg, ⟨cs, hr1, hR⟩, h.ho, hk, h.ht⟩
  have hu := (Upd3.refl w (fun i => i = g ∨ i = r)).setCell (p := ⟨g, 4, none⟩) (Or.inl (Or.inl rfl)) (.int .i64 (k : Int))
  have c4 : w.cell? ⟨g, 4, none⟩ = some (.int .i64 (m : Int)) := h.kg.cell 4
  have f4 := h.kg.frozen 4
  clear h hg hr hr1 hR
  go_enter Tryd.func22, Tryd.ntmps22
  go_wp2_with fail
  refine (HF.out _).mono ?_
  rintro e w' ⟨rfl, rfl⟩
  go_wp2_with fail
  refine (shrink_any hT _).mono ?_
  rintro e w' ⟨rfl, o2, hT2, hu2⟩
  go_wp2_with fail
  go_ret
  exact ⟨rfl, o2, hT2, hu.trans hu2 (fun _ h => Or.inl h)⟩
set_option maxRecDepth 100000 in
theorem resize_no (g : Nat) (k : Int) (hk : k < 0 ∨ 4096 < k) (ev : Value) (w : World) (hv : w.cell? ⟨0, 0, none⟩ = some ev) :
    Calls Tryd.prog 22 #[.pointer (some ⟨g, 0, none⟩), .int .i64 k] w fun e w' => e = .returned ev ∧ w = w' := by
  have HF := Lib.hid (fun W => fits_no k hk W)
  clear hk
  go_enter Tryd.func22, Tryd.ntmps22
  go_wp2_with fail
  refine (HF.out _).mono ?_
  rintro e w' ⟨rfl, rfl⟩
  go_wp2_with fail
  go_ret
  exact ⟨rfl, rfl⟩
/-- the table that stands -/
def stat : List Hd := pairsT.map (fun p => (⟨p.1.toArray⟩, ⟨p.2.toArray⟩))
theorem stat_len : stat.length = 61 := by kernel_rfl
/-- what Static answers -/
def statAt (i : Int) : Option Hd := if 1 ≤ i then stat[i.toNat - 1]? else none
/-- what Get answers -/
def getAt (Q : List Hd) (i : Int) : Option Hd := if 1 ≤ i then (stat ++ Q.reverse)[i.toNat - 1]? else none
def hdN (x : Option Hd) : ByteArray := (x.getD (⟨#[]⟩, ⟨#[]⟩)).1
def hdV (x : Option Hd) : ByteArray := (x.getD (⟨#[]⟩, ⟨#[]⟩)).2
/-- a header and whether there is one -/
def hdR (x : Option Hd) : Value := .tuple #[.agg #[.string (hdN x), .string (hdV x), .bool false], .bool x.isSome]
theorem static_any (m : Int) (i : Int) (w : World) (hm : w.cell? ⟨6, 0, none⟩ = some (.int .i64 m)) :
    Calls Tryd.prog 14 #[.int .i64 i] w fun e w' => e = .returned (hdR (statAt i)) ∧ Below w.heap.size w w' := by
  by_cases hi : i < 1 ∨ 61 < i
  · have e : statAt i = none := by
      unfold statAt
      split
      · exact List.getElem?_eq_none (by rw [stat_len]; omega)
      · rfl
    rw [e]
    exact static_no i hi w
  · obtain ⟨k, hk⟩ : ∃ k : Nat, i = (k : Int) + 1 := ⟨(i - 1).toNat, by omega⟩
    subst hk
    have hk61 : k < 61 := by omega
    have hl : k < pairsT.length := by have := stat_len; unfold stat at this; rw [List.length_map] at this; omega
    have e : statAt ((k : Int) + 1) = some (⟨pairsT[k].1.toArray⟩, ⟨pairsT[k].2.toArray⟩) := by
      unfold statAt stat
      rw [if_pos (by omega), show ((k : Int) + 1).toNat - 1 = k by omega, List.getElem?_map, List.getElem?_eq_getElem hl]
      rfl
    rw [e]
    exact static_yes m k hk61 pairsT[k].1 pairsT[k].2 (List.getElem?_eq_getElem hl) w hm (cell_in hm)
set_option maxRecDepth 100000 in
set_option maxHeartbeats 1000000 in
theorem get_any {w : World} {g r o m : Nat} {Q : List Hd} (h : Tbl w g r o Q m) (i : Int) (M : Int) (hM : w.cell? ⟨6, 0, none⟩ = some (.int .i64 M)) :
    Calls Tryd.prog 25 #[.pointer (some ⟨g, 0, none⟩), .int .i64 i] w fun e w' => e = .returned (hdR (getAt Q i)) ∧ Below w.heap.size w w' := by
  have hl := h.len
  have hB0 := (Below.refl w.heap.size w).alloc (Nat.le_refl _) (.cells #[.string ⟨#[]⟩, .string ⟨#[]⟩, .bool false] 23)
  have hk0 := Blk.new w 23 #[.string ⟨#[]⟩, .string ⟨#[]⟩, .bool false]
  have hT := h.below hB0
  have hM0 := (Below.cell hB0 (p := ⟨6, 0, none⟩) (cell_in hM)).trans hM
  have hgl := h.kg.lt
  have hrl : r < w.heap.size := h.kr.elim fun _ hx => hx.1.lt
  clear hM h
  by_cases h1 : i ≤ 61
  · have HE := Lib.hid (show getAt Q i = statAt i by
      unfold getAt statAt
      split
      · rw [List.getElem?_append_left (by rw [stat_len]; omega)]
      · rfl)
    have hs0 := static_any M i _ hM0
    clear hM0 hT hgl hrl hl
    rw [HE.out]
    unfold hdR at hs0 ⊢
    generalize hdN (statAt i) = xn at *
    generalize hdV (statAt i) = xv at *
    generalize (statAt i).isSome = xb at *
    have HS := Lib.hid hs0
    clear HE hs0
    go_enter Tryd.func25, Tryd.ntmps25
    go_wp2_with fail
    refine HS.out.mono ?_
    rintro e w' ⟨rfl, hb⟩
    have hk1 := hk0.below hb hk0.lt
    have hB1 := hB0.trans (hb.mono hB0.size)
    clear hb hk0 hB0
    have f0 := hk1.frozen 0
    have f1 := hk1.frozen 1
    have f2 := hk1.frozen 2
    have b0 : w'.cell? ⟨w.heap.size, 0, none⟩ = some (.string ⟨#[]⟩) := hk1.cell 0
    have b1 : w'.cell? ⟨w.heap.size, 1, none⟩ = some (.string ⟨#[]⟩) := hk1.cell 1
    have b2 : w'.cell? ⟨w.heap.size, 2, none⟩ = some (.bool false) := hk1.cell 2
    clear HS
    go_wp2_with fail
    have hk2 := ((hk1.set_ 0 (.string xn)).set_ 1 (.string xv)).set_ 2 (.bool false)
    have hB2 := ((hB1.setCell (p := ⟨w.heap.size, 0, none⟩) (Nat.le_refl _) (.string xn)).setCell (p := ⟨w.heap.size, 1, none⟩) (Nat.le_refl _) (.string xv)).setCell (p := ⟨w.heap.size, 2, none⟩) (Nat.le_refl _) (.bool false)
    exact hdr_ret rfl rfl rfl rfl hk2 ⟨rfl, hB2⟩
  · have c2 : (w.alloc (.cells #[.string ⟨#[]⟩, .string ⟨#[]⟩, .bool false] 23)).cell? ⟨g, 2, none⟩ = some (.int .i64 (Q.length : Int)) := hT.kg.cell 2
    by_cases h2 : 61 + (Q.length : Int) < i
    · have HE := Lib.hid (show getAt Q i = none by
        unfold getAt
        rw [if_pos (by omega)]
        exact List.getElem?_eq_none (by rw [List.length_append, stat_len, List.length_reverse]; omega))
      clear hM0 hT hgl hrl
      rw [HE.out]
      go_enter Tryd.func25, Tryd.ntmps25
      go_wp2_with fail
      exact hdr_ret rfl rfl rfl rfl hk0 ⟨rfl, hB0⟩
    · obtain ⟨j, rfl⟩ : ∃ j : Nat, i = (j : Int) + 62 := ⟨(i - 62).toNat, by omega⟩
      have hj : j < Q.length := by omega
      have hd1 : decide ((j : Int) + 62 ≤ 61) = false := decide_eq_false (by omega)
      have hd2 : decide ((j : Int) + 62 > 61 + (Q.length : Int)) = false := decide_eq_false (by omega)
      obtain ⟨cs, hr, hR⟩ := hT.kr
      obtain ⟨p, hp⟩ : ∃ p, (o + (Q.length - 1 - j)) % 128 = p := ⟨_, rfl⟩
      have hp128 : p < 128 := by omega
      obtain ⟨x, hx⟩ : ∃ x, Q[Q.length - 1 - j]? = some x := ⟨_, List.getElem?_eq_getElem (by omega)⟩
      have HE := Lib.hid (show getAt Q ((j : Int) + 62) = some x by
        unfold getAt
        rw [if_pos (by omega), List.getElem?_append_right (by rw [stat_len]; omega), stat_len, show ((j : Int) + 62).toNat - 1 - 61 = j by omega, List.getElem?_reverse hj]
        exact hx)
      obtain ⟨a0, a1, a2⟩ := hR.2 _ x hx
      rw [hp] at a0 a1 a2
      have HA := Lib.hid (fun (W : World) (hW : Since (w.alloc (.cells #[.string ⟨#[]⟩, .string ⟨#[]⟩, .bool false] 23)) W) => at_any (hT.below hW) j p hj hp)
      have c0 : (w.alloc (.cells #[.string ⟨#[]⟩, .string ⟨#[]⟩, .bool false] 23)).cell? ⟨g, 0, none⟩ = some (.slice (some ⟨r, 0, none⟩) 128 128) := hT.kg.cell 0
      have r0 := (hr.cell (p * 3)).trans a0
      have r1 := (hr.cell (p * 3 + 1)).trans a1
      have r2 := (hr.cell (p * 3 + 2)).trans a2
      have hw1 : IntKind.i64.wrap ((j : Int) + 62 - 61) = (j : Int) + 1 := by rw [IntWalk.i64_in _ (by omega)]; omega
      have hw2 : IntKind.i64.wrap (j : Int) = (j : Int) := IntWalk.i64_in _ (by omega)
      have hp' : (p : Int) < 128 := by omega
      clear hM0 hT hgl hrl hR hr hp hx a0 a1 a2
      rw [HE.out]
      go_enter Tryd.func25, Tryd.ntmps25
      go_wp2_with fail
      generalize w.alloc (.cells #[.string ⟨#[]⟩, .string ⟨#[]⟩, .bool false] 23) = W0 at *
      refine wp_region_in_tail 11 (Since W0) (Since.drew0 W0) (by kernel_rfl) (by kernel_rfl) ?_
      simp only [List.take_succ_cons, List.take_zero, List.drop_succ_cons, List.drop_zero]
      repeat (first
        | go_big_quiet_skip
        | (go_big_quiet_want; go_big_quiet_op; go_big_quiet_on)
        | (go_big_quiet_want; apply in_val; (· intro W hW; have d0 := hW.cell c0; have d1 := hW.cell r0; have d2 := hW.cell r1; have d3 := hW.cell r2; go_simp; first | done | rfl); simp only [Act.put, List.setIfInBounds_toArray, List.set_cons_zero, List.set_cons_succ]; go_big_quiet_on)
        | (go_big_quiet_want; apply in_q; (· intro W hW; go_simp; (go_at_call 58; with_reducible exact hW.callN (HA.out W hW))); simp only [Act.put, List.setIfInBounds_toArray, List.set_cons_zero, List.set_cons_succ]; go_big_quiet_on))
      refine wpQuiet_nil ?_
      intro W1 hW1
      have hk1 := hk0.below hW1 hk0.lt
      have hB1 := hB0.trans (Below.mono hW1 hB0.size)
      clear hW1 hk0 hB0 c0 c2 r0 r1 r2
      have f0 := hk1.frozen 0
      have f1 := hk1.frozen 1
      have f2 := hk1.frozen 2
      have b0 : W1.cell? ⟨w.heap.size, 0, none⟩ = some (.string ⟨#[]⟩) := hk1.cell 0
      have b1 : W1.cell? ⟨w.heap.size, 1, none⟩ = some (.string ⟨#[]⟩) := hk1.cell 1
      have b2 : W1.cell? ⟨w.heap.size, 2, none⟩ = some (.bool false) := hk1.cell 2
      go_wp2_with fail
      have hk2 := ((hk1.set_ 0 (.string x.1)).set_ 1 (.string x.2)).set_ 2 (.bool false)
      have hB2 := ((hB1.setCell (p := ⟨w.heap.size, 0, none⟩) (Nat.le_refl _) (.string x.1)).setCell (p := ⟨w.heap.size, 1, none⟩) (Nat.le_refl _) (.string x.2)).setCell (p := ⟨w.heap.size, 2, none⟩) (Nat.le_refl _) (.bool false)
      exact hdr_ret rfl rfl rfl rfl hk2 ⟨rfl, hB2⟩
end Go.Proofs.YtflmgjidnclegaaDoor.Tab
