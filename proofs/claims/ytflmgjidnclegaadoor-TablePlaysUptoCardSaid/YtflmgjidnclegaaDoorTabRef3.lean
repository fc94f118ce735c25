/-
  The walks of the document's Add, Resize and Get.
-/
import Derived.Test.YtflmgjidnclegaaDoorTabRef2
import Derived.Test.YtflmgjidnclegaaDoorTabNames
import Derived.Outline
namespace Go.Proofs.YtflmgjidnclegaaDoor.Tab
open Go.RowKit
set_option maxRecDepth 100000 in
set_option maxHeartbeats 1000000 in
theorem rresize_any {w : World} {B x r m : Nat} {Q : List Hd} (h : RTbl w B x r Q m) (hr : r < w.heap.size) (hB : B ≤ w.heap.size) (k : Nat) (hk : k ≤ 4096) :
    Calls Tryd.prog 28 #[.pointer (some ⟨x, 0, none⟩), .int .i64 (k : Int)] w fun e w' => e = .returned (.tuple #[]) ∧ RUpd w x r B (shr (k : Int) Q) k w' := by
  obtain ⟨A, c, k1, k2, k3⟩ := h.kx
  have f1 := k1.frozen 1
  have c1 : w.cell? ⟨x, 1, none⟩ = some (.int .i64 (m : Int)) := k1.cell 1
  have hk1 := k1.set_ 1 (.int .i64 (k : Int))
  have hu := (Upd3.refl w (fun i => i = x)).setCell (p := ⟨x, 1, none⟩) (Or.inl rfl) (.int .i64 (k : Int))
  have hT : RTbl (w.setCell ⟨x, 1, none⟩ (.int .i64 (k : Int))) B x r Q k := ⟨⟨A, c, hk1, hu.own k2 (fun b hb h => own_blk_ne k2 k1 (by decide) (by rw [hb, h])), k3⟩, hk, h.ht⟩
  have HR := Lib.hid (room_any hT (by simpa using hr) (by simpa using hB) 0 (by omega))
  have HU := Lib.hid hu
  clear hT h k1 k2 k3 hk1 hu
  go_enter Tryd.func28, Tryd.ntmps28
  go_wp2_with fail
  refine HR.out.mono ?_
  rintro e w' ⟨rfl, hT2, hu2⟩
  go_wp2_with fail
  go_end0
  rw [show ((k : Int) - ((0 : Nat) : Int)) = (k : Int) by omega] at hT2
  exact ⟨rfl, hT2, HU.out.trans hu2 (fun _ h => Or.inl h)⟩
set_option maxRecDepth 100000 in
set_option maxHeartbeats 1000000 in
theorem radd_any {w : World} {B x r m : Nat} {Q : List Hd} (h : RTbl w B x r Q m) (hr : r < w.heap.size) (hB : B ≤ w.heap.size) (n v : ByteArray) (nv : Bool) (hb : hsz (n, v) ≤ 4611686018427387904) :
    Calls Tryd.prog 27 #[.pointer (some ⟨x, 0, none⟩), .agg #[.string n, .string v, .bool nv]] w fun e w' => e = .returned (.tuple #[]) ∧ RUpd w x r B (addQ m (n, v) Q) m w' := by
  have HS := Lib.hid (fun (W : World) => rsize_any n v nv (hsz (n, v)) rfl hb W)
  have hT := h.below ((Below.refl w.heap.size w).alloc (Nat.le_refl _) (.cells #[.string n, .string v, .bool nv] 23))
  have hk := Blk.new w 23 #[.string n, .string v, .bool nv]
  have hu := (Upd3.refl w (fun i => i = x)).alloc (.cells #[.string n, .string v, .bool nv] 23)
  have hxl := h.lt
  have hm := h.hm
  have hat := addQ_tot m (n, v) Q
  obtain ⟨b, hbb⟩ : ∃ b, b = w.heap.size := ⟨_, rfl⟩
  have hbx : b ≠ x := by omega
  clear h
  go_enter Tryd.func27, Tryd.ntmps27
  go_wp2_with fail
  refine (HS.out _).mono ?_
  rintro e W1 ⟨rfl, hx1⟩
  have hT1 := hT.below hx1
  have hk1 := hk.below hx1 hk.lt
  have hu1 := hu.since hx1
  rw [← hbb] at hk1 ⊢
  have HBB := Lib.hid hbb
  clear hT hk hu hx1 hbb
  go_wp2_with fail
  refine (room_any hT1 (Nat.lt_of_lt_of_le hr hu1.size) (Nat.le_trans hB hu1.size) (hsz (n, v)) hb).mono ?_
  rintro e W2 ⟨rfl, hT2, hu2⟩
  have hk2 := hu2.blk hk1 hbx
  have hu2 := hu1.trans hu2 (fun _ h => Or.inl h)
  clear hk1 hu1 hT1
  obtain ⟨A, c, k1, k2, k3⟩ := hT2.kx
  have x1 : W2.cell? ⟨x, 1, none⟩ = some (.int .i64 (m : Int)) := k1.cell 1
  by_cases hsm : m < hsz (n, v)
  · have HD := Lib.hid (by rw [addQ, if_neg (by omega)]; rw [shr_neg (by omega)] at hT2; exact hT2 : RTbl W2 B x r (addQ m (n, v) Q) m)
    have HU := Lib.hid hu2
    clear hT2 hu2 k1 k2 k3
    go_wp2_with fail
    go_end0
    exact ⟨rfl, HD.out, HU.out⟩
  · have HA := Lib.hid (show addQ m (n, v) Q = shr ((m : Int) - (hsz (n, v) : Int)) Q ++ [(n, v)] by rw [addQ, if_pos (by omega)])
    have hl := hT2.len
    generalize shr ((m : Int) - (hsz (n, v) : Int)) Q = R at *
    obtain ⟨i, hi, hi0, hi1, hi2⟩ := info_parts infoHd
    have HI := Lib.hid hi
    have c0 : W2.cell? ⟨b, 0, none⟩ = some (.string n) := hk2.cell 0
    have c1 : W2.cell? ⟨b, 1, none⟩ = some (.string v) := hk2.cell 1
    have x0 : W2.cell? ⟨x, 0, none⟩ = some (.slice A R.length c) := k1.cell 0
    have hbn := Blk.new W2 23 #[.string n, .string v, .bool false]
    have x0' : (W2.alloc (.cells #[.string n, .string v, .bool false] 23)).cell? ⟨x, 0, none⟩ = some (.slice A R.length c) := (k1.alloc _).cell 0
    have c0' : (W2.alloc (.cells #[.string n, .string v, .bool false] 23)).cell? ⟨b, 0, none⟩ = some (.string n) := (hk2.alloc _).cell 0
    have c1' : (W2.alloc (.cells #[.string n, .string v, .bool false] 23)).cell? ⟨b, 1, none⟩ = some (.string v) := (hk2.alloc _).cell 1
    have hO1 : (W2.alloc (.cells #[.string n, .string v, .bool false] 23)).drew.ownsRow W2.heap.size 23 3 (.slice (some ⟨W2.heap.size, 0, none⟩) 1 1) 1 (hnc (n, v, false)) :=
      ⟨rfl, Or.inr ⟨W2.heap.size, 1, _, rfl, Nat.le_refl _, hbn, Nat.le_refl _, by decide, rfl, rfl⟩⟩
    have HO1 := Lib.hid hO1
    have HRD := Lib.hid (Reads.of_own ((k2.alloc (.cells #[.string n, .string v, .bool false] 23)).drew))
    have HON := Lib.hid (hncs_one (hq R))
    have HK1 := Lib.hid (k1.alloc (.cells #[.string n, .string v, .bool false] 23)).drew
    have HU := Lib.hid ((hu2.alloc (.cells #[.string n, .string v, .bool false] 23)).drew)
    have hxs : x ≠ W2.heap.size := by have := k1.lt; omega
    have hrs : r ≠ W2.heap.size := by have := hu2.size; omega
    have hbs : B ≤ W2.heap.size := Nat.le_trans hB hu2.size
    have hwW : w.heap.size ≤ W2.heap.size := hu2.size
    have hrW : ¬ W2.heap.size ≤ r := by omega
    have hsz3 : (W2.alloc (.cells #[.string n, .string v, .bool false] 23)).drew.heap.size = W2.heap.size + 1 := show (W2.alloc (.cells #[.string n, .string v, .bool false] 23)).heap.size = W2.heap.size + 1 by simp
    have HBS : Hid (W2.heap.size ≤ (W2.alloc (.cells #[.string n, .string v, .bool false] 23)).drew.heap.size) := Lib.hid (by omega)
    have HS3 := Lib.hid hsz3
    clear hT2 k1 k2 k3 hk2 hu2 hi hbn hO1 hsz3
    go_wp2_with fail
    go_region_law (first
      | (refine step_append_any _ rfl (.tmp 22) (.tmp 26) 51 rfl W2.heap.size 23 i (.agg #[.string ByteArray.empty, .string ByteArray.empty, .bool false]) 3 40 Tryd.underlying51 HI.out hi0 hi1 hi2 rfl (by decide) (.slice (some ⟨W2.heap.size, 0, none⟩) 1 1) 1 (hnc (n, v, false)) rfl HO1.out _ A R.length c (hncs (hq R)) rfl HRD.out HON.out (by unfold maxLen; omega) (by omega) HBS.out ?_; intro v6 w6 ho6 hg6 hat6; obtain ⟨A6, c6, rfl, _⟩ := own_slice ho6; have f0 : w6.frozen? ⟨x, 0, none⟩ = false := (HK1.out.grown hg6 (fun e => hxs (Option.some.inj e))).frozen 0; have b0 : w6.cell? ⟨x, 0, none⟩ = some (.slice A R.length c) := (HK1.out.grown hg6 (fun e => hxs (Option.some.inj e))).cell 0))
    all_goals
      rw [Nat.add_comm 1 R.length] at ho6
      have e6 : hnc (n, v, false) ++ hncs (hq R) = hncs (hq (R ++ [(n, v)])) := by rw [hq_snoc]; rfl
      rw [e6] at ho6
      have hg6x : x ≠ W2.heap.size := hxs
      have hk6 := (HK1.out.grown hg6 (fun e => hg6x (Option.some.inj e))).set_ 0 (.slice A6 (R.length + 1) c6)
      have hu6 := (HU.out.grown hg6 (fun b hb => Or.inr (by injection hb with hb; subst hb; exact hwW))).setCell (p := ⟨x, 0, none⟩) (Or.inl rfl) (.slice A6 (R.length + 1) c6)
      have hne6 : (Value.slice A6 (R.length + 1) c6).ownBlock ≠ some x := own_blk_ne ho6 (HK1.out.grown hg6 (fun e => hg6x (Option.some.inj e))) (by decide)
      have hO7 := (Upd3.setCell (Upd3.refl w6 (fun i => i = x)) (p := ⟨x, 0, none⟩) (Or.inl rfl) (.slice A6 (R.length + 1) c6)).own ho6 (fun b hb h => hne6 (by rw [hb, h]))
      have hlen : (R ++ [(n, v)]).length = R.length + 1 := by rw [List.length_append, List.length_singleton]
      rw [Nat.add_comm 1 R.length]
      go_wp2_with fail
      go_end0
      refine ⟨rfl, ?_, hu6⟩
      rw [HA.out]
      refine ⟨⟨A6, c6, ?_, ?_, fun e => ?_⟩, hm, by rw [← HA.out]; omega⟩
      · rw [hlen]; exact hk6
      · rw [hlen]; exact own_base hO7 hbs
      · rw [hlen] at e
        have := (ho6.lt r e).1
        exact hrW this
end Go.Proofs.YtflmgjidnclegaaDoor.Tab
