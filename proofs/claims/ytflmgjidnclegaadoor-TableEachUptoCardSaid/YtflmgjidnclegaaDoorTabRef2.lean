/-
  The walk of the document's room.
-/
import Derived.Test.YtflmgjidnclegaaDoorTabRef
import Derived.Deep.RegionHeld3
namespace Go.Proofs.YtflmgjidnclegaaDoor.Tab
open Go.RowKit
theorem own_base {w : World} {base base' : Nat} {e : TypeId} {size : Nat} {v : Value} {n : Nat} {xs : List Value} (h : w.ownsRow base e size v n xs) (hb : base' ≤ base) : w.ownsRow base' e size v n xs :=
  ⟨h.1, h.2.imp id fun ⟨g, cap, cur, h1, h2, h3⟩ => ⟨g, cap, cur, h1, Nat.le_trans hb h2, h3⟩⟩
theorem own_cap {w : World} {base n c : Nat} {A : Option Addr} {e : TypeId} {size : Nat} {xs : List Value} (h : w.ownsRow base e size (.slice A n c) n xs) : n ≤ c ∧ c ≤ 9223372036854775807 := by
  rcases h.2 with ⟨hv, rfl⟩ | ⟨g, cap, cur, hv, _, _, h1, h2, _⟩
  · injection hv with _ _ hc; subst hc; exact ⟨Nat.le_refl _, by omega⟩
  · injection hv with _ _ hc; subst hc; unfold maxLen at h2; exact ⟨h1, by omega⟩
/-- where the loop of room stands -/
def RoomAt (w : World) (x r B m : Nat) (k : Int) (Q : List Hd) (n : Nat) (wr : World) : Prop := ∃ Q' : List Hd, Q'.length = n ∧ RTbl wr B x r Q' m ∧ shr k Q' = shr k Q ∧ Upd3 w wr (fun i => i = x)
set_option maxRecDepth 100000 in
set_option maxHeartbeats 1000000 in
theorem room_any {w : World} {B x r m : Nat} {Q : List Hd} (h : RTbl w B x r Q m) (hr : r < w.heap.size) (hB : B ≤ w.heap.size) (n : Nat) (hn : n ≤ 4611686018427387904) :
    Calls Tryd.prog 60 #[.pointer (some ⟨x, 0, none⟩), .int .i64 (n : Int)] w fun e w' => e = .returned (.tuple #[]) ∧ RUpd w x r B (shr ((m : Int) - (n : Int)) Q) m w' := by
  have H0 := Lib.hid (⟨Q, rfl, h, rfl, Upd3.refl w _⟩ : RoomAt w x r B m ((m : Int) - (n : Int)) Q Q.length w)
  clear h
  go_enter Tryd.func60, Tryd.ntmps60
  go_wp2_with fail
  go_loopg [] Q.length (fun k wr => RoomAt w x r B m ((m : Int) - (n : Int)) Q k wr)
  case atStart => exact H0.out
  case round =>
    clear H0
    obtain ⟨Q', rfl, hT, hs, hu⟩ := hrel
    obtain ⟨A, c, k1, k2, k3⟩ := hT.kx
    have hm := hT.hm
    have x1 : wr.cell? ⟨x, 1, none⟩ = some (.int .i64 (m : Int)) := k1.cell 1
    rcases Q' with _ | ⟨y, t⟩
    · have x0 : wr.cell? ⟨x, 0, none⟩ = some (.slice A 0 c) := k1.cell 0
      have HE := Lib.hid (⟨by rw [← hs]; exact hT, hu⟩ : RTbl wr B x r (shr ((m : Int) - (n : Int)) Q) m ∧ Upd3 w wr (fun i => i = x))
      clear hT hs hu k1 k2 k3 x1
      go_wp2_with fail
      refine wp_region_in (Since wr) (Since.drew0 wr) (by kernel_rfl) (by kernel_rfl) ?_
      repeat (first
        | go_big_quiet_skip
        | (go_big_quiet_want; go_big_quiet_op; go_big_quiet_on)
        | (go_big_quiet_want; apply in_val; (· intro W hW; have d0 := hW.cell x0; go_simp; first | done | rfl); simp only [Act.put, List.setIfInBounds_toArray, List.set_cons_zero, List.set_cons_succ]; go_big_quiet_on))
      refine wpQuiet_nil ?_
      intro W1 hW1
      go_wp2_with fail
      go_end0
      exact ⟨rfl, HE.out.1.below hW1, HE.out.2.since hW1⟩
    · have hl : t.length < 128 := hT.len
      have htx : tot (y :: t) ≤ 4096 := hT.ht
      have x0 : wr.cell? ⟨x, 0, none⟩ = some (.slice A (t.length + 1) c) := k1.cell 0
      have HS := Lib.hid (fun (W : World) (hW : Since wr W) => rtsize_any (hT.below hW))
      have hpos : decide (((t.length + 1 : Nat) : Int) > 0) = true := decide_eq_true (by omega)
      have hw : IntKind.i64.wrap ((tot (y :: t) : Int) + (n : Int)) = (tot (y :: t) : Int) + (n : Int) := IntWalk.i64_in _ (by omega)
      by_cases hk : (m : Int) - (n : Int) < (tot (y :: t) : Int)
      · rw [shr_go hk] at hs
        have hd : decide ((tot (y :: t) : Int) + (n : Int) > (m : Int)) = true := decide_eq_true (by omega)
        have HT := Lib.hid hT
        have HK1 := Lib.hid k1
        have HK2 := Lib.hid k2
        have HU := Lib.hid hu
        have HSS := Lib.hid hs
        have htt : tot t ≤ 4096 := by simp only [tot] at htx; omega
        clear hT hu k1 k2 k3 hs
        generalize tot (y :: t) = T at *
        go_wp2_with fail
        refine wp_region_in (Since wr) (Since.drew0 wr) (by kernel_rfl) (by kernel_rfl) ?_
        repeat (first
          | go_big_quiet_skip
          | (go_big_quiet_want; go_big_quiet_op; go_big_quiet_on)
          | (go_big_quiet_want; apply in_val; (· intro W hW; have d0 := hW.cell x0; have d1 := hW.cell x1; go_simp; first | done | rfl); simp only [Act.put, List.setIfInBounds_toArray, List.set_cons_zero, List.set_cons_succ]; go_big_quiet_on)
          | (go_big_quiet_want; apply in_q; (· intro W hW; go_simp; (go_at_call 62; with_reducible exact hW.call (HS.out W hW))); simp only [Act.put, List.setIfInBounds_toArray, List.set_cons_zero, List.set_cons_succ]; go_big_quiet_on))
        refine wpQuiet_nil ?_
        intro W1 hW1
        go_wp2_with fail
        have hcap : t.length ≤ c := by have := (own_cap HK2.out).1; simp only [List.length_cons] at this; omega
        have hw2 : IntKind.i64.wrap (t.length : Int) = (t.length : Int) := IntWalk.i64_in _ (by omega)
        have hk1 := HK1.out.below hW1 HK1.out.lt
        have HK3 := Lib.hid hk1.drew
        have y0 : W1.cell? ⟨x, 0, none⟩ = some (.slice A (t.length + 1) c) := hk1.cell 0
        have hha := (HnAt.of_own HK2.out t.length).below hW1
        rw [hq_tail, List.take_left' (hq_length t)] at hha
        have hh0 := hdrs_any A c (hq t) (by rw [hq_length]; omega) W1.drew (hha.below (Below.refl _ _).drew)
        rw [hq_length] at hh0
        have HH := Lib.hid hh0
        clear hh0
        have HB1 := Lib.hid hW1
        clear hk1 hha hW1 x0 x1 hd hpos
        go_region_law (first
          | (go_simp; go_at_call 39; refine Calls.mono HH.out ?_; rintro e w5 ⟨A2, c2, rfl, hO2, hB2⟩; have f0 : w5.frozen? ⟨x, 0, none⟩ = false := (HK3.out.below hB2 HK3.out.lt).frozen 0; have b0 : w5.cell? ⟨x, 0, none⟩ = some (.slice A (t.length + 1) c) := (HK3.out.below hB2 HK3.out.lt).cell 0))
        all_goals
          have hk5 := (HK3.out.below hB2 HK3.out.lt).set_ 0 (.slice A2 t.length c2)
          have hu5 := ((HU.out.since HB1.out).drew.trans (Upd3.of_below hB2 (fun i => i = x)) (fun _ h => Or.inl h)).setCell (p := ⟨x, 0, none⟩) (Or.inl rfl) (.slice A2 t.length c2)
          go_wp2_with fail
          go_roundg t.length
          case measure => simp
          case rel =>
            rw [hq_length] at hO2 ⊢
            have hxr : (Value.slice A2 t.length c2).ownBlock ≠ some x := own_blk_ne hO2 (HK3.out.below hB2 HK3.out.lt) (by decide)
            have hO5 := (Upd3.setCell (Upd3.refl w5 (fun i => i = x)) (p := ⟨x, 0, none⟩) (Or.inl rfl) (.slice A2 t.length c2)).own hO2 (fun b hb h => hxr (by rw [hb, h]))
            have hsz : w.heap.size ≤ W1.drew.heap.size := (HU.out.since HB1.out).drew.size
            refine ⟨t, rfl, ⟨⟨A2, c2, hk5, own_base hO5 (Nat.le_trans hB hsz), fun hb => ?_⟩, hm, htt⟩, HSS.out, hu5⟩
            have := (hO2.lt r hb).1
            omega
      · have HE := Lib.hid (⟨by rw [← hs, shr_stay hk]; exact hT, hu⟩ : RTbl wr B x r (shr ((m : Int) - (n : Int)) Q) m ∧ Upd3 w wr (fun i => i = x))
        have hd : decide ((tot (y :: t) : Int) + (n : Int) > (m : Int)) = false := decide_eq_false (by omega)
        clear hT hs hu k1 k2 k3
        generalize tot (y :: t) = T at *
        go_wp2_with fail
        refine wp_region_in (Since wr) (Since.drew0 wr) (by kernel_rfl) (by kernel_rfl) ?_
        repeat (first
          | go_big_quiet_skip
          | (go_big_quiet_want; go_big_quiet_op; go_big_quiet_on)
          | (go_big_quiet_want; apply in_val; (· intro W hW; have d0 := hW.cell x0; have d1 := hW.cell x1; go_simp; first | done | rfl); simp only [Act.put, List.setIfInBounds_toArray, List.set_cons_zero, List.set_cons_succ]; go_big_quiet_on)
          | (go_big_quiet_want; apply in_q; (· intro W hW; go_simp; (go_at_call 62; with_reducible exact hW.call (HS.out W hW))); simp only [Act.put, List.setIfInBounds_toArray, List.set_cons_zero, List.set_cons_succ]; go_big_quiet_on))
        refine wpQuiet_nil ?_
        intro W1 hW1
        go_wp2_with fail
        go_end0
        exact ⟨rfl, HE.out.1.below hW1, HE.out.2.since hW1⟩
end Go.Proofs.YtflmgjidnclegaaDoor.Tab
