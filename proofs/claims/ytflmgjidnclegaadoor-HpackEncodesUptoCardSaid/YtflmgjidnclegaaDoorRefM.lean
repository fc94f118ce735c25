/-
  The document's table that moves: what it is in memory; the walks of its New, Size and room.
-/
import Derived.Test.YtflmgjidnclegaaDoorSpecM
import Derived.Test.YtflmgjidnclegaaDoorTabM
import Derived.Deep.RegionLaw
import Derived.Deep.RegionHeld3
import Derived.Test.YtflmgjidnclegaaDoorTabNamesM
namespace Go.Proofs.YtflmgjidnclegaaDoor.Tab
open Go.RowKit
/-- what the document's table holds: the newest first -/
def hq (Q : List Hd) : List Hn := Q.reverse.map (fun h => (h.1, h.2, false))
theorem hq_length (Q : List Hd) : (hq Q).length = Q.length := by simp [hq]
theorem hq_at (Q : List Hd) (k : Nat) (x : Hd) (h : Q.reverse[k]? = some x) : (hq Q)[k]? = some (x.1, x.2, false) := by
  unfold hq
  rw [List.getElem?_map, h]
  rfl
theorem hq_tail (x : Hd) (t : List Hd) : hq (x :: t) = hq t ++ [(x.1, x.2, false)] := by simp [hq]
theorem hq_snoc (x : Hd) (t : List Hd) : hq (t ++ [x]) = (x.1, x.2, false) :: hq t := by simp [hq]
/-- the document's table, in memory; its row is not the block r -/
structure RTbl (w : World) (B x r : Nat) (Q : List Hd) (m : Nat) : Prop where
  kx : ∃ A c, Blk w x 90 #[.slice A Q.length c, .int .i64 (m : Int)] ∧ w.ownsRow B 23 3 (.slice A Q.length c) Q.length (hncs (hq Q)) ∧ (Value.slice A Q.length c).ownBlock ≠ some r
  hm : m ≤ 4096
  ht : tot Q ≤ 4096
section
variable {w w' : World} {B x r m : Nat} {Q : List Hd}
theorem RTbl.lt (h : RTbl w B x r Q m) : x < w.heap.size := h.kx.elim fun _ h => h.elim fun _ h => h.1.lt
theorem RTbl.len (h : RTbl w B x r Q m) : Q.length ≤ 128 := by have := tot_len Q; have := h.ht; omega
theorem RTbl.upd {F : Nat → Prop} (h : RTbl w B x r Q m) (u : Upd3 w w' F) (hx : ¬ F x) (hr : ∀ i, F i → i = r ∨ i = x ∨ i < B ∨ ∃ t cs, Blk w i t cs ∧ t ≠ 23) : RTbl w' B x r Q m := by
  obtain ⟨A, c, k1, k2, k3⟩ := h.kx
  refine ⟨⟨A, c, u.blk k1 hx, u.own k2 (fun b hb hf => ?_), k3⟩, h.hm, h.ht⟩
  rcases hr b hf with rfl | rfl | hlt | ⟨t, cs, hk, ht⟩
  · exact k3 hb
  · exact hx hf
  · exact absurd (k2.lt b hb).1 (by omega)
  · exact own_blk_ne k2 hk (Ne.symm ht) hb
theorem RTbl.below (h : RTbl w B x r Q m) (hb : Below w.heap.size w w') : RTbl w' B x r Q m := h.upd (Upd3.of_below hb (fun _ => False)) id (fun _ h => h.elim)
end
set_option maxRecDepth 100000 in
theorem rsize_any (n v : ByteArray) (b : Bool) (s : Nat) (hs : n.size + v.size + 32 = s) (hb : s ≤ 4611686018427387904) (w : World) :
    Calls Tryd.prog 59 #[.agg #[.string n, .string v, .bool b]] w fun e w' => e = .returned (.int .i64 (s : Int)) ∧ Below w.heap.size w w' := by
  have h1 : n.size ≤ 4611686018427387904 := by omega
  have h2 : v.size ≤ 4611686018427387904 := by omega
  go_enter Tryd.func59, Tryd.ntmps59
  go_wp2_with fail
  go_ret
  exact ⟨ret_int (by omega), (Below.refl _ _).alloc (Nat.le_refl _) _⟩
set_option maxRecDepth 100000 in
theorem rnew_any (m : Nat) (hm : m ≤ 4096) (w : World) (B r : Nat) :
    Calls Tryd.prog 26 #[.int .i64 (m : Int)] w fun e w' => e = .returned (.pointer (some ⟨w.heap.size, 0, none⟩)) ∧ Below w.heap.size w w' ∧ RTbl w' B w.heap.size r [] m := by
  go_enter Tryd.func26, Tryd.ntmps26
  go_wp2_with fail
  go_ret
  exact ⟨rfl, (Below.refl _ _).alloc (Nat.le_refl _) _, ⟨⟨none, 0, Blk.new _ _ _, World.ownsRow_nil _ _ _ _, by simp [Value.ownBlock]⟩, hm, by simp [tot]⟩⟩
set_option maxRecDepth 100000 in
set_option maxHeartbeats 1000000 in
theorem rtsize_any {w : World} {B x r m : Nat} {Q : List Hd} (h : RTbl w B x r Q m) :
    Calls Tryd.prog 62 #[.pointer (some ⟨x, 0, none⟩)] w fun e w' => e = .returned (.int .i64 (tot Q : Int)) ∧ Below w.heap.size w w' := by
  obtain ⟨A, c, k1, k2, _⟩ := h.kx
  have hl := h.len
  have ht := h.ht
  have HK := Lib.hid (fun (W : World) (hb : Below w.heap.size w W) => k1.below hb k1.lt)
  have HA := Lib.hid (fun (W : World) (hb : Below w.heap.size w W) => (HnAt.of_own k2 (hq Q).length).below hb)
  clear h k1 k2
  go_enter Tryd.func62, Tryd.ntmps62
  go_wp2_with fail
  go_loopw [3, 4] (fun n i wr => ∃ k : Nat, i = .int .i64 (k : Int) ∧ n = .int .i64 (tot (Q.reverse.take k) : Int) ∧ k ≤ Q.length ∧ Below w.heap.size w wr) (fun _ i _ => Q.length - (intOf i).toNat)
  case atStart => exact ⟨0, rfl, rfl, Nat.zero_le _, Below.refl _ _⟩
  case round =>
    obtain ⟨k, rfl, rfl, hk, hb⟩ := hrel
    have x0 : wr.cell? ⟨x, 0, none⟩ = some (.slice A Q.length c) := (HK.out wr hb).cell 0
    have HB := Lib.hid hb
    by_cases hlt : k < Q.length
    · obtain ⟨y, hy⟩ : ∃ y, Q.reverse[k]? = some y := ⟨_, List.getElem?_eq_getElem (by simpa using hlt)⟩
      obtain ⟨b, off, rfl, _, c0, c1, c2⟩ := (HA.out wr hb) k (y.1, y.2, false) (by rw [List.take_of_length_le (Nat.le_refl _)]; exact hq_at Q k y hy)
      have htk := tot_take Q.reverse k y hy
      have htl := tot_take_le Q.reverse (k + 1)
      rw [tot_reverse] at htl
      have hys : hsz y ≤ 4096 := by omega
      have hts : tot (Q.reverse.take k) ≤ 4096 := by omega
      have HTK := Lib.hid htk
      have hd : decide ((k : Int) < (Q.length : Int)) = true := decide_eq_true (by omega)
      clear htk hy htl hb
      generalize tot (Q.reverse.take k) = S at *
      go_wp2_with fail
      refine (rsize_any y.1 y.2 false (hsz y) rfl (by omega) _).mono ?_
      rintro e w10 ⟨rfl, hx10⟩
      have hb10 := HB.out.trans (hx10.mono HB.out.size)
      clear hx10 x0 c0 c1 c2
      go_wp2_with fail
      go_roundw
      case rel => exact ⟨k + 1, by go_num, by rw [HTK.out]; go_num, by omega, hb10⟩
      case measure => simp [intOf]; omega
    · have hkk : k = Q.length := by omega
      subst hkk
      have hful : tot (Q.reverse.take Q.length) = tot Q := by rw [List.take_of_length_le (by simp), tot_reverse]
      rw [hful]
      have hd : decide ((Q.length : Int) < (Q.length : Int)) = false := decide_eq_false (by omega)
      clear hful hlt hb
      go_wp2_with fail
      go_ret
      exact ⟨rfl, HB.out⟩
def RUpd (w : World) (x r B : Nat) (Q : List Hd) (m : Nat) (w' : World) : Prop := RTbl w' B x r Q m ∧ Upd3 w w' (fun i => i = x)
end Go.Proofs.YtflmgjidnclegaaDoor.Tab
/-
  The walk of the document's room.
-/
namespace Go.Proofs.YtflmgjidnclegaaDoor.Tab
open Go.RowKit
theorem own_base {w : World} {base base' : Nat} {e : TypeId} {size : Nat} {v : Value} {n : Nat} {xs : List Value} (h : w.ownsRow base e size v n xs) (hb : base' ≤ base) : w.ownsRow base' e size v n xs :=
  ⟨h.1, h.2.imp id fun ⟨g, cap, cur, h1, h2, h3⟩ => ⟨g, cap, cur, h1, Nat.le_trans hb h2, h3⟩⟩
theorem own_cap {w : World} {base n c : Nat} {A : Option Addr} {e : TypeId} {size : Nat} {xs : List Value} (h : w.ownsRow base e size (.slice A n c) n xs) : n ≤ c ∧ c ≤ 9223372036854775807 := by
  rcases h.2 with ⟨hv, rfl⟩ | ⟨g, cap, cur, hv, _, _, h1, h2, _⟩
  · injection hv with _ _ hc; subst hc; exact ⟨Nat.le_refl _, by omega⟩
  · injection hv with _ _ hc; subst hc; unfold maxLen at h2; exact ⟨h1, by omega⟩
/-- where the loop of room stands -/
def RoomAt (w : World) (x r B m : Nat) (k : Int) (Q : List Hd) (n : Nat) (wr : World) : Prop := ∃ Q' : List Hd, Q'.length = n ∧ RTbl wr B x r Q' m ∧ shr k Q' = shr k Q ∧ Upd3 w wr (fun i => i = x)
set_option maxRecDepth 100000 in
set_option maxHeartbeats 1000000 in
theorem room_any {w : World} {B x r m : Nat} {Q : List Hd} (h : RTbl w B x r Q m) (hr : r < w.heap.size) (hB : B ≤ w.heap.size) (n : Nat) (hn : n ≤ 4611686018427387904) :
    Calls Tryd.prog 60 #[.pointer (some ⟨x, 0, none⟩), .int .i64 (n : Int)] w fun e w' => e = .returned (.tuple #[]) ∧ RUpd w x r B (shr ((m : Int) - (n : Int)) Q) m w' := by
  have H0 := Lib.hid (⟨Q, rfl, h, rfl, Upd3.refl w _⟩ : RoomAt w x r B m ((m : Int) - (n : Int)) Q Q.length w)
  clear h
  go_enter Tryd.func60, Tryd.ntmps60
  go_wp2_with fail
  go_loopg [] Q.length (fun k wr => RoomAt w x r B m ((m : Int) - (n : Int)) Q k wr)
  case atStart => exact H0.out
  case round =>
    clear H0
    obtain ⟨Q', rfl, hT, hs, hu⟩ := hrel
    obtain ⟨A, c, k1, k2, k3⟩ := hT.kx
    have hm := hT.hm
    have x1 : wr.cell? ⟨x, 1, none⟩ = some (.int .i64 (m : Int)) := k1.cell 1
    rcases Q' with _ | ⟨y, t⟩
    · have x0 : wr.cell? ⟨x, 0, none⟩ = some (.slice A 0 c) := k1.cell 0
      have HE := Lib.hid (⟨by rw [← hs]; exact hT, hu⟩ : RTbl wr B x r (shr ((m : Int) - (n : Int)) Q) m ∧ Upd3 w wr (fun i => i = x))
      clear hT hs hu k1 k2 k3 x1
      go_wp2_with fail
      refine wp_region_in (Since wr) (Since.drew0 wr) (by kernel_rfl) (by kernel_rfl) ?_
      repeat (first
        | go_big_quiet_skip
        | (go_big_quiet_want; go_big_quiet_op; go_big_quiet_on)
        | (go_big_quiet_want; apply in_val; (· intro W hW; have d0 := hW.cell x0; go_simp; first | done | rfl); simp only [Act.put, List.setIfInBounds_toArray, List.set_cons_zero, List.set_cons_succ]; go_big_quiet_on))
      refine wpQuiet_nil ?_
      intro W1 hW1
      go_wp2_with fail
      go_end0
      exact ⟨rfl, HE.out.1.below hW1, HE.out.2.since hW1⟩
    · have hl : t.length < 128 := hT.len
      have htx : tot (y :: t) ≤ 4096 := hT.ht
      have x0 : wr.cell? ⟨x, 0, none⟩ = some (.slice A (t.length + 1) c) := k1.cell 0
      have HS := Lib.hid (fun (W : World) (hW : Since wr W) => rtsize_any (hT.below hW))
      have hpos : decide (((t.length + 1 : Nat) : Int) > 0) = true := decide_eq_true (by omega)
      have hw : IntKind.i64.wrap ((tot (y :: t) : Int) + (n : Int)) = (tot (y :: t) : Int) + (n : Int) := IntWalk.i64_in _ (by omega)
      by_cases hk : (m : Int) - (n : Int) < (tot (y :: t) : Int)
      · rw [shr_go hk] at hs
        have hd : decide ((tot (y :: t) : Int) + (n : Int) > (m : Int)) = true := decide_eq_true (by omega)
        have HT := Lib.hid hT
        have HK1 := Lib.hid k1
        have HK2 := Lib.hid k2
        have HU := Lib.hid hu
        have HSS := Lib.hid hs
        have htt : tot t ≤ 4096 := by simp only [tot] at htx; omega
        clear hT hu k1 k2 k3 hs
        generalize tot (y :: t) = T at *
        go_wp2_with fail
        refine wp_region_in (Since wr) (Since.drew0 wr) (by kernel_rfl) (by kernel_rfl) ?_
        repeat (first
          | go_big_quiet_skip
          | (go_big_quiet_want; go_big_quiet_op; go_big_quiet_on)
          | (go_big_quiet_want; apply in_val; (· intro W hW; have d0 := hW.cell x0; have d1 := hW.cell x1; go_simp; first | done | rfl); simp only [Act.put, List.setIfInBounds_toArray, List.set_cons_zero, List.set_cons_succ]; go_big_quiet_on)
          | (go_big_quiet_want; apply in_q; (· intro W hW; go_simp; (go_at_call 62; with_reducible exact hW.call (HS.out W hW))); simp only [Act.put, List.setIfInBounds_toArray, List.set_cons_zero, List.set_cons_succ]; go_big_quiet_on))
        refine wpQuiet_nil ?_
        intro W1 hW1
        go_wp2_with fail
        have hcap : t.length ≤ c := by have := (own_cap HK2.out).1; simp only [List.length_cons] at this; omega
        have hw2 : IntKind.i64.wrap (t.length : Int) = (t.length : Int) := IntWalk.i64_in _ (by omega)
        have hk1 := HK1.out.below hW1 HK1.out.lt
        have HK3 := Lib.hid hk1.drew
        have y0 : W1.cell? ⟨x, 0, none⟩ = some (.slice A (t.length + 1) c) := hk1.cell 0
        have hha := (HnAt.of_own HK2.out t.length).below hW1
        rw [hq_tail, List.take_left' (hq_length t)] at hha
        have hh0 := hdrs_any A c (hq t) (by rw [hq_length]; omega) W1.drew (hha.below (Below.refl _ _).drew)
        rw [hq_length] at hh0
        have HH := Lib.hid hh0
        clear hh0
        have HB1 := Lib.hid hW1
        clear hk1 hha hW1 x0 x1 hd hpos
        go_region_law (first
          | (go_simp; go_at_call 39; refine Calls.mono HH.out ?_; rintro e w5 ⟨A2, c2, rfl, hO2, hB2⟩; have f0 : w5.frozen? ⟨x, 0, none⟩ = false := (HK3.out.below hB2 HK3.out.lt).frozen 0; have b0 : w5.cell? ⟨x, 0, none⟩ = some (.slice A (t.length + 1) c) := (HK3.out.below hB2 HK3.out.lt).cell 0))
        all_goals
          have hk5 := (HK3.out.below hB2 HK3.out.lt).set_ 0 (.slice A2 t.length c2)
          have hu5 := ((HU.out.since HB1.out).drew.trans (Upd3.of_below hB2 (fun i => i = x)) (fun _ h => Or.inl h)).setCell (p := ⟨x, 0, none⟩) (Or.inl rfl) (.slice A2 t.length c2)
          go_wp2_with fail
          go_roundg t.length
          case measure => simp
          case rel =>
            rw [hq_length] at hO2 ⊢
            have hxr : (Value.slice A2 t.length c2).ownBlock ≠ some x := own_blk_ne hO2 (HK3.out.below hB2 HK3.out.lt) (by decide)
            have hO5 := (Upd3.setCell (Upd3.refl w5 (fun i => i = x)) (p := ⟨x, 0, none⟩) (Or.inl rfl) (.slice A2 t.length c2)).own hO2 (fun b hb h => hxr (by rw [hb, h]))
            have hsz : w.heap.size ≤ W1.drew.heap.size := (HU.out.since HB1.out).drew.size
            refine ⟨t, rfl, ⟨⟨A2, c2, hk5, own_base hO5 (Nat.le_trans hB hsz), fun hb => ?_⟩, hm, htt⟩, HSS.out, hu5⟩
            have := (hO2.lt r hb).1
            omega
      · have HE := Lib.hid (⟨by rw [← hs, shr_stay hk]; exact hT, hu⟩ : RTbl wr B x r (shr ((m : Int) - (n : Int)) Q) m ∧ Upd3 w wr (fun i => i = x))
        have hd : decide ((tot (y :: t) : Int) + (n : Int) > (m : Int)) = false := decide_eq_false (by omega)
        clear hT hs hu k1 k2 k3
        generalize tot (y :: t) = T at *
        go_wp2_with fail
        refine wp_region_in (Since wr) (Since.drew0 wr) (by kernel_rfl) (by kernel_rfl) ?_
        repeat (first
          | go_big_quiet_skip
          | (go_big_quiet_want; go_big_quiet_op; go_big_quiet_on)
          | (go_big_quiet_want; apply in_val; (· intro W hW; have d0 := hW.cell x0; have d1 := hW.cell x1; go_simp; first | done | rfl); simp only [Act.put, List.setIfInBounds_toArray, List.set_cons_zero, List.set_cons_succ]; go_big_quiet_on)
          | (go_big_quiet_want; apply in_q; (· intro W hW; go_simp; (go_at_call 62; with_reducible exact hW.call (HS.out W hW))); simp only [Act.put, List.setIfInBounds_toArray, List.set_cons_zero, List.set_cons_succ]; go_big_quiet_on))
        refine wpQuiet_nil ?_
        intro W1 hW1
        go_wp2_with fail
        go_end0
        exact ⟨rfl, HE.out.1.below hW1, HE.out.2.since hW1⟩
end Go.Proofs.YtflmgjidnclegaaDoor.Tab
/-
  The walks of the document's Add, Resize and Get.
-/
namespace Go.Proofs.YtflmgjidnclegaaDoor.Tab
open Go.RowKit
set_option maxRecDepth 100000 in
set_option maxHeartbeats 1000000 in
theorem rresize_any {w : World} {B x r m : Nat} {Q : List Hd} (h : RTbl w B x r Q m) (hr : r < w.heap.size) (hB : B ≤ w.heap.size) (k : Nat) (hk : k ≤ 4096) :
    Calls Tryd.prog 28 #[.pointer (some ⟨x, 0, none⟩), .int .i64 (k : Int)] w fun e w' => e = .returned (.tuple #[]) ∧ RUpd w x r B (shr (k : Int) Q) k w' := by
  obtain ⟨A, c, k1, k2, k3⟩ := h.kx
  have f1 := k1.frozen 1
  have c1 : w.cell? ⟨x, 1, none⟩ = some (.int .i64 (m : Int)) := k1.cell 1
  have hk1 := k1.set_ 1 (.int .i64 (k : Int))
  have hu := (Upd3.refl w (fun i => i = x)).setCell (p := ⟨x, 1, none⟩) (Or.inl rfl) (.int .i64 (k : Int))
  have hT : RTbl (w.setCell ⟨x, 1, none⟩ (.int .i64 (k : Int))) B x r Q k := ⟨⟨A, c, hk1, hu.own k2 (fun b hb h => own_blk_ne k2 k1 (by decide) (by rw [hb, h])), k3⟩, hk, h.ht⟩
  have HR := Lib.hid (room_any hT (by simpa using hr) (by simpa using hB) 0 (by omega))
  have HU := Lib.hid hu
  clear hT h k1 k2 k3 hk1 hu
  go_enter Tryd.func28, Tryd.ntmps28
  go_wp2_with fail
  refine HR.out.mono ?_
  rintro e w' ⟨rfl, hT2, hu2⟩
  go_wp2_with fail
  go_end0
  rw [show ((k : Int) - ((0 : Nat) : Int)) = (k : Int) by omega] at hT2
  exact ⟨rfl, hT2, HU.out.trans hu2 (fun _ h => Or.inl h)⟩
set_option maxRecDepth 100000 in
set_option maxHeartbeats 1000000 in
theorem radd_any {w : World} {B x r m : Nat} {Q : List Hd} (h : RTbl w B x r Q m) (hr : r < w.heap.size) (hB : B ≤ w.heap.size) (n v : ByteArray) (nv : Bool) (hb : hsz (n, v) ≤ 4611686018427387904) :
    Calls Tryd.prog 27 #[.pointer (some ⟨x, 0, none⟩), .agg #[.string n, .string v, .bool nv]] w fun e w' => e = .returned (.tuple #[]) ∧ RUpd w x r B (addQ m (n, v) Q) m w' := by
  have HS := Lib.hid (fun (W : World) => rsize_any n v nv (hsz (n, v)) rfl hb W)
  have hT := h.below ((Below.refl w.heap.size w).alloc (Nat.le_refl _) (.cells #[.string n, .string v, .bool nv] 23))
  have hk := Blk.new w 23 #[.string n, .string v, .bool nv]
  have hu := (Upd3.refl w (fun i => i = x)).alloc (.cells #[.string n, .string v, .bool nv] 23)
  have hxl := h.lt
  have hm := h.hm
  have hat := addQ_tot m (n, v) Q
  obtain ⟨b, hbb⟩ : ∃ b, b = w.heap.size := ⟨_, rfl⟩
  have hbx : b ≠ x := by omega
  clear h
  go_enter Tryd.func27, Tryd.ntmps27
  go_wp2_with fail
  refine (HS.out _).mono ?_
  rintro e W1 ⟨rfl, hx1⟩
  have hT1 := hT.below hx1
  have hk1 := hk.below hx1 hk.lt
  have hu1 := hu.since hx1
  rw [← hbb] at hk1 ⊢
  have HBB := Lib.hid hbb
  clear hT hk hu hx1 hbb
  go_wp2_with fail
  refine (room_any hT1 (Nat.lt_of_lt_of_le hr hu1.size) (Nat.le_trans hB hu1.size) (hsz (n, v)) hb).mono ?_
  rintro e W2 ⟨rfl, hT2, hu2⟩
  have hk2 := hu2.blk hk1 hbx
  have hu2 := hu1.trans hu2 (fun _ h => Or.inl h)
  clear hk1 hu1 hT1
  obtain ⟨A, c, k1, k2, k3⟩ := hT2.kx
  have x1 : W2.cell? ⟨x, 1, none⟩ = some (.int .i64 (m : Int)) := k1.cell 1
  by_cases hsm : m < hsz (n, v)
  · have HD := Lib.hid (by rw [addQ, if_neg (by omega)]; rw [shr_neg (by omega)] at hT2; exact hT2 : RTbl W2 B x r (addQ m (n, v) Q) m)
    have HU := Lib.hid hu2
    clear hT2 hu2 k1 k2 k3
    go_wp2_with fail
    go_end0
    exact ⟨rfl, HD.out, HU.out⟩
  · have HA := Lib.hid (show addQ m (n, v) Q = shr ((m : Int) - (hsz (n, v) : Int)) Q ++ [(n, v)] by rw [addQ, if_pos (by omega)])
    have hl := hT2.len
    generalize shr ((m : Int) - (hsz (n, v) : Int)) Q = R at *
    obtain ⟨i, hi, hi0, hi1, hi2⟩ := info_parts infoHd
    have HI := Lib.hid hi
    have c0 : W2.cell? ⟨b, 0, none⟩ = some (.string n) := hk2.cell 0
    have c1 : W2.cell? ⟨b, 1, none⟩ = some (.string v) := hk2.cell 1
    have x0 : W2.cell? ⟨x, 0, none⟩ = some (.slice A R.length c) := k1.cell 0
    have hbn := Blk.new W2 23 #[.string n, .string v, .bool false]
    have x0' : (W2.alloc (.cells #[.string n, .string v, .bool false] 23)).cell? ⟨x, 0, none⟩ = some (.slice A R.length c) := (k1.alloc _).cell 0
    have c0' : (W2.alloc (.cells #[.string n, .string v, .bool false] 23)).cell? ⟨b, 0, none⟩ = some (.string n) := (hk2.alloc _).cell 0
    have c1' : (W2.alloc (.cells #[.string n, .string v, .bool false] 23)).cell? ⟨b, 1, none⟩ = some (.string v) := (hk2.alloc _).cell 1
    have hO1 : (W2.alloc (.cells #[.string n, .string v, .bool false] 23)).drew.ownsRow W2.heap.size 23 3 (.slice (some ⟨W2.heap.size, 0, none⟩) 1 1) 1 (hnc (n, v, false)) :=
      ⟨rfl, Or.inr ⟨W2.heap.size, 1, _, rfl, Nat.le_refl _, hbn, Nat.le_refl _, by decide, rfl, rfl⟩⟩
    have HO1 := Lib.hid hO1
    have HRD := Lib.hid (Reads.of_own ((k2.alloc (.cells #[.string n, .string v, .bool false] 23)).drew))
    have HON := Lib.hid (hncs_one (hq R))
    have HK1 := Lib.hid (k1.alloc (.cells #[.string n, .string v, .bool false] 23)).drew
    have HU := Lib.hid ((hu2.alloc (.cells #[.string n, .string v, .bool false] 23)).drew)
    have hxs : x ≠ W2.heap.size := by have := k1.lt; omega
    have hrs : r ≠ W2.heap.size := by have := hu2.size; omega
    have hbs : B ≤ W2.heap.size := Nat.le_trans hB hu2.size
    have hwW : w.heap.size ≤ W2.heap.size := hu2.size
    have hrW : ¬ W2.heap.size ≤ r := by omega
    have hsz3 : (W2.alloc (.cells #[.string n, .string v, .bool false] 23)).drew.heap.size = W2.heap.size + 1 := show (W2.alloc (.cells #[.string n, .string v, .bool false] 23)).heap.size = W2.heap.size + 1 by simp
    have HBS : Hid (W2.heap.size ≤ (W2.alloc (.cells #[.string n, .string v, .bool false] 23)).drew.heap.size) := Lib.hid (by omega)
    have HS3 := Lib.hid hsz3
    clear hT2 k1 k2 k3 hk2 hu2 hi hbn hO1 hsz3
    go_wp2_with fail
    go_region_law (first
      | (refine step_append_any _ rfl (.tmp 22) (.tmp 26) 51 rfl W2.heap.size 23 i (.agg #[.string ByteArray.empty, .string ByteArray.empty, .bool false]) 3 40 Tryd.underlying51 HI.out hi0 hi1 hi2 rfl (by decide) (.slice (some ⟨W2.heap.size, 0, none⟩) 1 1) 1 (hnc (n, v, false)) rfl HO1.out _ A R.length c (hncs (hq R)) rfl HRD.out HON.out (by unfold maxLen; omega) (by omega) HBS.out ?_; intro v6 w6 ho6 hg6 hat6; obtain ⟨A6, c6, rfl, _⟩ := own_slice ho6; have f0 : w6.frozen? ⟨x, 0, none⟩ = false := (HK1.out.grown hg6 (fun e => hxs (Option.some.inj e))).frozen 0; have b0 : w6.cell? ⟨x, 0, none⟩ = some (.slice A R.length c) := (HK1.out.grown hg6 (fun e => hxs (Option.some.inj e))).cell 0))
    all_goals
      rw [Nat.add_comm 1 R.length] at ho6
      have e6 : hnc (n, v, false) ++ hncs (hq R) = hncs (hq (R ++ [(n, v)])) := by rw [hq_snoc]; rfl
      rw [e6] at ho6
      have hg6x : x ≠ W2.heap.size := hxs
      have hk6 := (HK1.out.grown hg6 (fun e => hg6x (Option.some.inj e))).set_ 0 (.slice A6 (R.length + 1) c6)
      have hu6 := (HU.out.grown hg6 (fun b hb => Or.inr (by injection hb with hb; subst hb; exact hwW))).setCell (p := ⟨x, 0, none⟩) (Or.inl rfl) (.slice A6 (R.length + 1) c6)
      have hne6 : (Value.slice A6 (R.length + 1) c6).ownBlock ≠ some x := own_blk_ne ho6 (HK1.out.grown hg6 (fun e => hg6x (Option.some.inj e))) (by decide)
      have hO7 := (Upd3.setCell (Upd3.refl w6 (fun i => i = x)) (p := ⟨x, 0, none⟩) (Or.inl rfl) (.slice A6 (R.length + 1) c6)).own ho6 (fun b hb h => hne6 (by rw [hb, h]))
      have hlen : (R ++ [(n, v)]).length = R.length + 1 := by rw [List.length_append, List.length_singleton]
      rw [Nat.add_comm 1 R.length]
      go_wp2_with fail
      go_end0
      refine ⟨rfl, ?_, hu6⟩
      rw [HA.out]
      refine ⟨⟨A6, c6, ?_, ?_, fun e => ?_⟩, hm, by rw [← HA.out]; omega⟩
      · rw [hlen]; exact hk6
      · rw [hlen]; exact own_base hO7 hbs
      · rw [hlen] at e
        have := (ho6.lt r e).1
        exact hrW this
end Go.Proofs.YtflmgjidnclegaaDoor.Tab
/-
  The walks of the document's Get and Find.
-/
namespace Go.Proofs.YtflmgjidnclegaaDoor.Tab
open Go.RowKit
set_option maxRecDepth 100000 in
set_option maxHeartbeats 1000000 in
theorem rget_any {w : World} {B x r m : Nat} {Q : List Hd} (h : RTbl w B x r Q m) (i : Int) (hi : i ≤ 9223372036854775807) :
    Calls Tryd.prog 61 #[.pointer (some ⟨x, 0, none⟩), .int .i64 i] w fun e w' => e = .returned (hdR (getAt Q i)) ∧ Below w.heap.size w w' := by
  have hB0 := (Below.refl w.heap.size w).alloc (Nat.le_refl _) (.cells #[.string ⟨#[]⟩, .string ⟨#[]⟩, .bool false] 23)
  have hk0 := Blk.new w 23 #[.string ⟨#[]⟩, .string ⟨#[]⟩, .bool false]
  have hT := h.below hB0
  obtain ⟨A, c, k1, k2, _⟩ := hT.kx
  have x0 : (w.alloc (.cells #[.string ⟨#[]⟩, .string ⟨#[]⟩, .bool false] 23)).cell? ⟨x, 0, none⟩ = some (.slice A Q.length c) := k1.cell 0
  by_cases hin : 62 ≤ i ∧ i - 62 < (Q.length : Int)
  · obtain ⟨j, rfl⟩ : ∃ j : Nat, i = (j : Int) + 62 := ⟨(i - 62).toNat, by omega⟩
    have hj : j < Q.length := by omega
    obtain ⟨y, hy⟩ : ∃ y, Q.reverse[j]? = some y := ⟨_, List.getElem?_eq_getElem (by simpa using hj)⟩
    have HE := Lib.hid (show getAt Q ((j : Int) + 62) = some y by rw [Int.add_comm, getAt_new]; exact hy)
    have hd1 : decide ((j : Int) + 62 ≥ 62) = true := decide_eq_true (by omega)
    have hw : IntKind.i64.wrap (j : Int) = (j : Int) := IntWalk.i64_in _ (by omega)
    obtain ⟨b, off, rfl, _, c0, c1, c2⟩ := (HnAt.of_own k2 (hq Q).length) j (y.1, y.2, false) (by rw [List.take_of_length_le (Nat.le_refl _)]; exact hq_at Q j y hy)
    have f0 := hk0.frozen 0
    have f1 := hk0.frozen 1
    have f2 := hk0.frozen 2
    have b0 : (w.alloc (.cells #[.string ⟨#[]⟩, .string ⟨#[]⟩, .bool false] 23)).cell? ⟨w.heap.size, 0, none⟩ = some (.string ⟨#[]⟩) := hk0.cell 0
    have b1 : (w.alloc (.cells #[.string ⟨#[]⟩, .string ⟨#[]⟩, .bool false] 23)).cell? ⟨w.heap.size, 1, none⟩ = some (.string ⟨#[]⟩) := hk0.cell 1
    have b2 : (w.alloc (.cells #[.string ⟨#[]⟩, .string ⟨#[]⟩, .bool false] 23)).cell? ⟨w.heap.size, 2, none⟩ = some (.bool false) := hk0.cell 2
    clear h hT k1 k2 hy hin hi
    rw [HE.out]
    generalize hW : w.alloc (.cells #[.string ⟨#[]⟩, .string ⟨#[]⟩, .bool false] 23) = W0 at *
    have HW := Lib.hid hW
    clear hW
    go_enter Tryd.func61, Tryd.ntmps61
    have hW2 := HW.out
    go_wp2_with fail
    have hk2 := ((hk0.set_ 0 (.string y.1)).set_ 1 (.string y.2)).set_ 2 (.bool false)
    have hB2 := ((hB0.setCell (p := ⟨w.heap.size, 0, none⟩) (Nat.le_refl _) (.string y.1)).setCell (p := ⟨w.heap.size, 1, none⟩) (Nat.le_refl _) (.string y.2)).setCell (p := ⟨w.heap.size, 2, none⟩) (Nat.le_refl _) (.bool false)
    exact hdr_ret rfl rfl rfl rfl hk2 ⟨rfl, hB2⟩
  · have HE := Lib.hid (show getAt Q i = statAt i by
      unfold getAt statAt
      split
      · by_cases h61 : i.toNat - 1 < 61
        · rw [List.getElem?_append_left (by rw [stat_len]; exact h61)]
        · rw [List.getElem?_eq_none (by rw [List.length_append, stat_len, List.length_reverse]; omega), List.getElem?_eq_none (by rw [stat_len]; omega)]
      · rfl)
    have hs0 := rstatic_any i (w.alloc (.cells #[.string ⟨#[]⟩, .string ⟨#[]⟩, .bool false] 23))
    rw [HE.out]
    unfold hdR at hs0 ⊢
    generalize hdN (statAt i) = xn at *
    generalize hdV (statAt i) = xv at *
    generalize (statAt i).isSome = xb at *
    have HS := Lib.hid hs0
    have HB0 := Lib.hid hB0
    have HK0 := Lib.hid hk0
    clear HE hs0 h hT k1 k2 hB0 hk0
    by_cases h62 : 62 ≤ i
    · have hd1 : decide (i ≥ 62) = true := decide_eq_true h62
      have hw : IntKind.i64.wrap (i - 62) = i - 62 := IntWalk.i64_in _ (by omega)
      have hd2 : decide (i - 62 < (Q.length : Int)) = false := decide_eq_false (by omega)
      have hd3 : ¬ i - 62 < (Q.length : Int) := by omega
      clear hin
      go_enter Tryd.func61, Tryd.ntmps61
      go_wp2_with fail
      refine HS.out.mono ?_
      rintro e w' ⟨rfl, hb⟩
      have hk1 := HK0.out.below hb HK0.out.lt
      have hB1 := HB0.out.trans (hb.mono HB0.out.size)
      clear hb HS HK0 HB0 x0
      have f0 := hk1.frozen 0
      have f1 := hk1.frozen 1
      have f2 := hk1.frozen 2
      have b0 : w'.cell? ⟨w.heap.size, 0, none⟩ = some (.string ⟨#[]⟩) := hk1.cell 0
      have b1 : w'.cell? ⟨w.heap.size, 1, none⟩ = some (.string ⟨#[]⟩) := hk1.cell 1
      have b2 : w'.cell? ⟨w.heap.size, 2, none⟩ = some (.bool false) := hk1.cell 2
      go_wp2_with fail
      have hk2 := ((hk1.set_ 0 (.string xn)).set_ 1 (.string xv)).set_ 2 (.bool false)
      have hB2 := ((hB1.setCell (p := ⟨w.heap.size, 0, none⟩) (Nat.le_refl _) (.string xn)).setCell (p := ⟨w.heap.size, 1, none⟩) (Nat.le_refl _) (.string xv)).setCell (p := ⟨w.heap.size, 2, none⟩) (Nat.le_refl _) (.bool false)
      exact hdr_ret rfl rfl rfl rfl hk2 ⟨rfl, hB2⟩
    · have hd1 : decide (i ≥ 62) = false := decide_eq_false h62
      clear hin
      go_enter Tryd.func61, Tryd.ntmps61
      go_wp2_with fail
      refine HS.out.mono ?_
      rintro e w' ⟨rfl, hb⟩
      have hk1 := HK0.out.below hb HK0.out.lt
      have hB1 := HB0.out.trans (hb.mono HB0.out.size)
      clear hb HS HK0 HB0 x0
      have f0 := hk1.frozen 0
      have f1 := hk1.frozen 1
      have f2 := hk1.frozen 2
      have b0 : w'.cell? ⟨w.heap.size, 0, none⟩ = some (.string ⟨#[]⟩) := hk1.cell 0
      have b1 : w'.cell? ⟨w.heap.size, 1, none⟩ = some (.string ⟨#[]⟩) := hk1.cell 1
      have b2 : w'.cell? ⟨w.heap.size, 2, none⟩ = some (.bool false) := hk1.cell 2
      go_wp2_with fail
      have hk2 := ((hk1.set_ 0 (.string xn)).set_ 1 (.string xv)).set_ 2 (.bool false)
      have hB2 := ((hB1.setCell (p := ⟨w.heap.size, 0, none⟩) (Nat.le_refl _) (.string xn)).setCell (p := ⟨w.heap.size, 1, none⟩) (Nat.le_refl _) (.string xv)).setCell (p := ⟨w.heap.size, 2, none⟩) (Nat.le_refl _) (.bool false)
      exact hdr_ret rfl rfl rfl rfl hk2 ⟨rfl, hB2⟩
theorem findIn_name {n v : ByteArray} {h : Hd} {t : List Hd} {i named : Nat} (h1 : h.1 = n) (h2 : h.2 ≠ v) : findIn n v (h :: t) i named = findIn n v t (i + 1) (if named = 0 then i else named) := by rw [findIn, if_pos h1, if_neg h2]
theorem findIn_append (n v : ByteArray) : ∀ (a b : List Hd) (i named : Nat), findIn n v (a ++ b) i named = if (findIn n v a i named).2 then findIn n v a i named else findIn n v b (i + a.length) (findIn n v a i named).1
  | [], b, i, named => by simp [findIn]
  | h :: t, b, i, named => by
    rw [List.cons_append]
    by_cases h1 : h.1 = n
    · by_cases h2 : h.2 = v
      · rw [findIn_hit h1 h2, findIn_hit h1 h2]; rfl
      · rw [findIn_name h1 h2, findIn_name h1 h2, findIn_append n v t b, List.length_cons, show i + 1 + t.length = i + (t.length + 1) by omega]
    · rw [findIn_no h1, findIn_no h1, findIn_append n v t b, List.length_cons, show i + 1 + t.length = i + (t.length + 1) by omega]
set_option maxRecDepth 100000 in
set_option maxHeartbeats 1000000 in
theorem rfind_any {w : World} {B x r m : Nat} {Q : List Hd} (h : RTbl w B x r Q m) (n v : ByteArray) :
    Calls Tryd.prog 31 #[.pointer (some ⟨x, 0, none⟩), .string n, .string v] w fun e w' => FindEnd w n v Q e w' := by
  have hl := h.len
  have hb1 := (Below.refl w.heap.size w).alloc (Nat.le_refl _) (.cells namesV 9)
  have hb2 := hb1.alloc hb1.size (.cells valuesV 9)
  have hT := h.below hb2
  have hn := (Blk.new w 9 namesV).alloc (.cells valuesV 9)
  have hv := Blk.new (w.alloc (.cells namesV 9)) 9 valuesV
  have HN := Lib.hid (fun (k : Nat) (y : Hd) (hy : stat[k]? = some y) => (hn.cell (k + 1)).trans (names_at k y hy).1)
  have HV := Lib.hid (fun (k : Nat) (y : Hd) (hy : stat[k]? = some y) => (hv.cell (k + 1)).trans (names_at k y hy).2)
  obtain ⟨A, c, k1, k2, _⟩ := hT.kx
  have HA := Lib.hid (HnAt.of_own k2 (hq Q).length)
  have HX := Lib.hid k1
  have HB := Lib.hid hb2
  have hz : (w.alloc (.cells namesV 9)).heap.size = w.heap.size + 1 := by simp
  rw [hz] at HV
  have HNA := Lib.hid (names_any w)
  have HVA := Lib.hid (values_any (w.alloc (.cells namesV 9)))
  rw [hz] at HVA
  clear h hb1 hb2 hT hn hv k1 k2 hz
  generalize (w.alloc (.cells namesV 9)).alloc (.cells valuesV 9) = W2 at *
  generalize w.alloc (.cells namesV 9) = W1 at *
  generalize hz : w.heap.size = z at *
  have HZ := Lib.hid hz
  clear hz
  go_enter Tryd.func31, Tryd.ntmps31
  go_wp2_with fail
  refine HNA.out.mono ?_
  rintro e w1 ⟨rfl, rfl⟩
  go_wp2_with fail
  refine HVA.out.mono ?_
  rintro e w2 ⟨rfl, rfl⟩
  go_wp2_with fail
  have H0 := Lib.hid (⟨0, 0, rfl, rfl, by omega, by omega, rfl⟩ : ∃ k named : Nat, Value.int .i64 1 = .int .i64 ((k : Int) + 1) ∧ Value.int .i64 0 = .int .i64 (named : Int) ∧ k ≤ 61 ∧ named ≤ k ∧ findIn n v (stat.drop k) (k + 1) named = findIn n v stat 1 0)
  go_loop [10, 11] (fun f i => ∃ k named : Nat, i = .int .i64 ((k : Int) + 1) ∧ f = .int .i64 (named : Int) ∧ k ≤ 61 ∧ named ≤ k ∧ findIn n v (stat.drop k) (k + 1) named = findIn n v stat 1 0) (fun _ i => 63 - (intOf i).toNat)
  case atStart => exact H0.out
  case round =>
    clear H0 HNA HVA
    obtain ⟨k, named, rfl, rfl, hk, hnk, hf⟩ := hrel
    by_cases hlt : k < 61
    · obtain ⟨y, hy⟩ : ∃ y, stat[k]? = some y := ⟨_, List.getElem?_eq_getElem (by rw [stat_len]; omega)⟩
      have c0 := HN.out k y hy
      have c1 := HV.out k y hy
      have hdr : stat.drop k = y :: stat.drop (k + 1) := by
        obtain ⟨hk', rfl⟩ := List.getElem?_eq_some_iff.1 hy
        exact List.drop_eq_getElem_cons hk'
      rw [hdr] at hf
      have HF := Lib.hid hf
      have hd1 : decide ((k : Int) + 1 < 62) = true := decide_eq_true (by omega)
      have hfr : findR n v Q = if (findIn n v stat 1 0).2 then findIn n v stat 1 0 else findIn n v Q.reverse (1 + stat.length) (findIn n v stat 1 0).1 := findIn_append n v stat Q.reverse 1 0
      have HFR := Lib.hid hfr
      clear hy hdr hf hfr
      go_wp2_with fail
      · have h1 := str_ne (by assumption : (!y.1.toList == n.toList) = true)
        go_round
        case rel => exact ⟨k + 1, named, by go_num, rfl, by omega, by omega, (findIn_no h1).symm.trans HF.out⟩
        case measure => simp [intOf]; omega
      · have h1 := str_eq (by assumption : (!y.1.toList == n.toList) = false)
        have h2 := str_eq' (by assumption : (y.2.toList == v.toList) = true)
        have hR : findIn n v stat 1 0 = (k + 1, true) := HF.out.symm.trans (findIn_hit h1 h2)
        go_ret2
        refine ⟨?_, by rw [HZ.out]; exact HB.out⟩
        rw [HFR.out, hR]
        rfl
      · have h1 := str_eq (by assumption : (!y.1.toList == n.toList) = false)
        have h2 := str_ne' (by assumption : (y.2.toList == v.toList) = false)
        have h3 : named = 0 := by have h0 : ((named : Int) == 0) = true := by assumption
                                  simpa using h0
        go_round
        case rel => exact ⟨k + 1, k + 1, by go_num, by go_num, by omega, by omega, by subst h3; exact (findIn_new h1 h2).symm.trans HF.out⟩
        case measure => simp [intOf]; omega
      · have h1 := str_eq (by assumption : (!y.1.toList == n.toList) = false)
        have h2 := str_ne' (by assumption : (y.2.toList == v.toList) = false)
        have h3 : named ≠ 0 := by have h0 : ((named : Int) == 0) = false := by assumption
                                  simpa using h0
        go_round
        case rel => exact ⟨k + 1, named, by go_num, rfl, by omega, by omega, (findIn_old h1 h2 h3).symm.trans HF.out⟩
        case measure => simp [intOf]; omega
    · have hk61 : k = 61 := by omega
      subst hk61
      have hR : findIn n v stat 1 0 = (named, false) := by
        rw [← hf, List.drop_eq_nil_of_le (by rw [stat_len]; omega), findIn]
      have hfr : findR n v Q = findIn n v Q.reverse 62 named := by
        unfold findR
        rw [findIn_append, hR, stat_len]
        rfl
      have HFR := Lib.hid hfr
      have hn61 : named ≤ 61 := hnk
      have x0 : w2.cell? ⟨x, 0, none⟩ = some (.slice A Q.length c) := HX.out.cell 0
      clear hf hR hfr hlt HN HV hnk
      go_wp2_with fail
      go_loop [10, 12] (fun f i => ∃ k nm : Nat, i = .int .i64 (k : Int) ∧ f = .int .i64 (nm : Int) ∧ k ≤ Q.length ∧ nm ≤ 61 + k ∧ findIn n v (Q.reverse.drop k) (62 + k) nm = findR n v Q) (fun _ i => 200 - (intOf i).toNat)
      case atStart => exact ⟨0, named, rfl, rfl, Nat.zero_le _, hn61, HFR.out.symm⟩
      case round =>
        obtain ⟨k, nm, rfl, rfl, hk, hnk, hf⟩ := hrel
        by_cases hlt : k < Q.length
        · obtain ⟨y, hy⟩ : ∃ y, Q.reverse[k]? = some y := ⟨_, List.getElem?_eq_getElem (by simpa using hlt)⟩
          obtain ⟨b, off, rfl, _, c0, c1, _⟩ := HA.out k (y.1, y.2, false) (by rw [List.take_of_length_le (Nat.le_refl _)]; exact hq_at Q k y hy)
          have hdr : Q.reverse.drop k = y :: Q.reverse.drop (k + 1) := by
            obtain ⟨hk', rfl⟩ := List.getElem?_eq_some_iff.1 hy
            exact List.drop_eq_getElem_cons hk'
          rw [hdr] at hf
          have HF := Lib.hid hf
          have hd1 : decide ((k : Int) < (Q.length : Int)) = true := decide_eq_true (by omega)
          clear hy hdr hf
          go_wp2_with fail
          · have h1 := str_ne (by assumption : (!y.1.toList == n.toList) = true)
            go_round
            case rel => exact ⟨k + 1, nm, by go_num, rfl, by omega, by omega, (findIn_no h1).symm.trans HF.out⟩
            case measure => simp [intOf]; omega
          · have h1 := str_eq (by assumption : (!y.1.toList == n.toList) = false)
            have h2 := str_eq' (by assumption : (y.2.toList == v.toList) = true)
            have hR : findR n v Q = (62 + k, true) := HF.out.symm.trans (findIn_hit h1 h2)
            go_ret2
            refine ⟨?_, by rw [HZ.out]; exact HB.out⟩
            rw [hR]
            rfl
          · have h1 := str_eq (by assumption : (!y.1.toList == n.toList) = false)
            have h2 := str_ne' (by assumption : (y.2.toList == v.toList) = false)
            have h3 : nm = 0 := by have h0 : ((nm : Int) == 0) = true := by assumption
                                   simpa using h0
            go_round
            case rel => exact ⟨k + 1, 62 + k, by go_num, by go_num, by omega, by omega, by subst h3; exact (findIn_new h1 h2).symm.trans HF.out⟩
            case measure => simp [intOf]; omega
          · have h1 := str_eq (by assumption : (!y.1.toList == n.toList) = false)
            have h2 := str_ne' (by assumption : (y.2.toList == v.toList) = false)
            have h3 : nm ≠ 0 := by have h0 : ((nm : Int) == 0) = false := by assumption
                                   simpa using h0
            go_round
            case rel => exact ⟨k + 1, nm, by go_num, rfl, by omega, by omega, (findIn_old h1 h2 h3).symm.trans HF.out⟩
            case measure => simp [intOf]; omega
        · have hkk : k = Q.length := by omega
          have hR : findR n v Q = (nm, false) := by
            rw [← hf, List.drop_eq_nil_of_le (by rw [List.length_reverse]; omega), findIn]
          have HR := Lib.hid hR
          have hd1 : decide ((k : Int) < (Q.length : Int)) = false := decide_eq_false (by omega)
          clear hf hR hkk
          go_wp2_with fail
          go_ret2
          refine ⟨?_, by rw [HZ.out]; exact HB.out⟩
          rw [HR.out]
          rfl
end Go.Proofs.YtflmgjidnclegaaDoor.Tab
