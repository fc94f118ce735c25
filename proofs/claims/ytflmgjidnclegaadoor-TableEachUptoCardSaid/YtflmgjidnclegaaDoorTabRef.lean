/-
  The document's table that moves: what it is in memory; the walks of its New, Size and room.
-/
import Derived.Test.YtflmgjidnclegaaDoorHdrs
import Derived.Test.YtflmgjidnclegaaDoorTabPlain
import Derived.Deep.RegionLaw
import Derived.Outline
namespace Go.Proofs.YtflmgjidnclegaaDoor.Tab
open Go.RowKit
/-- what the document's table holds: the newest first -/
def hq (Q : List Hd) : List Hn := Q.reverse.map (fun h => (h.1, h.2, false))
theorem hq_length (Q : List Hd) : (hq Q).length = Q.length := by simp [hq]
theorem hq_at (Q : List Hd) (k : Nat) (x : Hd) (h : Q.reverse[k]? = some x) : (hq Q)[k]? = some (x.1, x.2, false) := by
  unfold hq
  rw [List.getElem?_map, h]
  rfl
theorem hq_tail (x : Hd) (t : List Hd) : hq (x :: t) = hq t ++ [(x.1, x.2, false)] := by simp [hq]
theorem hq_snoc (x : Hd) (t : List Hd) : hq (t ++ [x]) = (x.1, x.2, false) :: hq t := by simp [hq]
/-- the document's table, in memory; its row is not the block r -/
structure RTbl (w : World) (B x r : Nat) (Q : List Hd) (m : Nat) : Prop where
  kx : ∃ A c, Blk w x 90 #[.slice A Q.length c, .int .i64 (m : Int)] ∧ w.ownsRow B 23 3 (.slice A Q.length c) Q.length (hncs (hq Q)) ∧ (Value.slice A Q.length c).ownBlock ≠ some r
  hm : m ≤ 4096
  ht : tot Q ≤ 4096
section
variable {w w' : World} {B x r m : Nat} {Q : List Hd}
theorem RTbl.lt (h : RTbl w B x r Q m) : x < w.heap.size := h.kx.elim fun _ h => h.elim fun _ h => h.1.lt
theorem RTbl.len (h : RTbl w B x r Q m) : Q.length ≤ 128 := by have := tot_len Q; have := h.ht; omega
theorem RTbl.upd {F : Nat → Prop} (h : RTbl w B x r Q m) (u : Upd3 w w' F) (hx : ¬ F x) (hr : ∀ i, F i → i = r ∨ i = x ∨ i < B ∨ ∃ t cs, Blk w i t cs ∧ t ≠ 23) : RTbl w' B x r Q m := by
  obtain ⟨A, c, k1, k2, k3⟩ := h.kx
  refine ⟨⟨A, c, u.blk k1 hx, u.own k2 (fun b hb hf => ?_), k3⟩, h.hm, h.ht⟩
  rcases hr b hf with rfl | rfl | hlt | ⟨t, cs, hk, ht⟩
  · exact k3 hb
  · exact hx hf
  · exact absurd (k2.lt b hb).1 (by omega)
  · exact own_blk_ne k2 hk (Ne.symm ht) hb
theorem RTbl.below (h : RTbl w B x r Q m) (hb : Below w.heap.size w w') : RTbl w' B x r Q m := h.upd (Upd3.of_below hb (fun _ => False)) id (fun _ h => h.elim)
end
set_option maxRecDepth 100000 in
theorem rsize_any (n v : ByteArray) (b : Bool) (s : Nat) (hs : n.size + v.size + 32 = s) (hb : s ≤ 4611686018427387904) (w : World) :
    Calls Tryd.prog 59 #[.agg #[.string n, .string v, .bool b]] w fun e w' => e = .returned (.int .i64 (s : Int)) ∧ Below w.heap.size w w' := by
  have h1 : n.size ≤ 4611686018427387904 := by omega
  have h2 : v.size ≤ 4611686018427387904 := by omega
  go_enter Tryd.func59, Tryd.ntmps59
  go_wp2_with fail
  go_ret
  exact ⟨ret_int (by omega), (Below.refl _ _).alloc (Nat.le_refl _) _⟩
set_option maxRecDepth 100000 in
theorem rnew_any (m : Nat) (hm : m ≤ 4096) (w : World) (B r : Nat) :
    Calls Tryd.prog 26 #[.int .i64 (m : Int)] w fun e w' => e = .returned (.pointer (some ⟨w.heap.size, 0, none⟩)) ∧ Below w.heap.size w w' ∧ RTbl w' B w.heap.size r [] m := by
  go_enter Tryd.func26, Tryd.ntmps26
  go_wp2_with fail
  go_ret
  exact ⟨rfl, (Below.refl _ _).alloc (Nat.le_refl _) _, ⟨⟨none, 0, Blk.new _ _ _, World.ownsRow_nil _ _ _ _, by simp [Value.ownBlock]⟩, hm, by simp [tot]⟩⟩
set_option maxRecDepth 100000 in
set_option maxHeartbeats 1000000 in
theorem rtsize_any {w : World} {B x r m : Nat} {Q : List Hd} (h : RTbl w B x r Q m) :
    Calls Tryd.prog 62 #[.pointer (some ⟨x, 0, none⟩)] w fun e w' => e = .returned (.int .i64 (tot Q : Int)) ∧ Below w.heap.size w w' := by
  obtain ⟨A, c, k1, k2, _⟩ := h.kx
  have hl := h.len
  have ht := h.ht
  have HK := Lib.hid (fun (W : World) (hb : Below w.heap.size w W) => k1.below hb k1.lt)
  have HA := Lib.hid (fun (W : World) (hb : Below w.heap.size w W) => (HnAt.of_own k2 (hq Q).length).below hb)
  clear h k1 k2
  go_enter Tryd.func62, Tryd.ntmps62
  go_wp2_with fail
  go_loopw [3, 4] (fun n i wr => ∃ k : Nat, i = .int .i64 (k : Int) ∧ n = .int .i64 (tot (Q.reverse.take k) : Int) ∧ k ≤ Q.length ∧ Below w.heap.size w wr) (fun _ i _ => Q.length - (intOf i).toNat)
  case atStart => exact ⟨0, rfl, rfl, Nat.zero_le _, Below.refl _ _⟩
  case round =>
    obtain ⟨k, rfl, rfl, hk, hb⟩ := hrel
    have x0 : wr.cell? ⟨x, 0, none⟩ = some (.slice A Q.length c) := (HK.out wr hb).cell 0
    have HB := Lib.hid hb
    by_cases hlt : k < Q.length
    · obtain ⟨y, hy⟩ : ∃ y, Q.reverse[k]? = some y := ⟨_, List.getElem?_eq_getElem (by simpa using hlt)⟩
      obtain ⟨b, off, rfl, _, c0, c1, c2⟩ := (HA.out wr hb) k (y.1, y.2, false) (by rw [List.take_of_length_le (Nat.le_refl _)]; exact hq_at Q k y hy)
      have htk := tot_take Q.reverse k y hy
      have htl := tot_take_le Q.reverse (k + 1)
      rw [tot_reverse] at htl
      have hys : hsz y ≤ 4096 := by omega
      have hts : tot (Q.reverse.take k) ≤ 4096 := by omega
      have HTK := Lib.hid htk
      have hd : decide ((k : Int) < (Q.length : Int)) = true := decide_eq_true (by omega)
      clear htk hy htl hb
      generalize tot (Q.reverse.take k) = S at *
      go_wp2_with fail
      refine (rsize_any y.1 y.2 false (hsz y) rfl (by omega) _).mono ?_
      rintro e w10 ⟨rfl, hx10⟩
      have hb10 := HB.out.trans (hx10.mono HB.out.size)
      clear hx10 x0 c0 c1 c2
      go_wp2_with fail
      go_roundw
      case rel => exact ⟨k + 1, by go_num, by rw [HTK.out]; go_num, by omega, hb10⟩
      case measure => simp [intOf]; omega
    · have hkk : k = Q.length := by omega
      subst hkk
      have hful : tot (Q.reverse.take Q.length) = tot Q := by rw [List.take_of_length_le (by simp), tot_reverse]
      rw [hful]
      have hd : decide ((Q.length : Int) < (Q.length : Int)) = false := decide_eq_false (by omega)
      clear hful hlt hb
      go_wp2_with fail
      go_ret
      exact ⟨rfl, HB.out⟩
def RUpd (w : World) (x r B : Nat) (Q : List Hd) (m : Nat) (w' : World) : Prop := RTbl w' B x r Q m ∧ Upd3 w w' (fun i => i = x)
end Go.Proofs.YtflmgjidnclegaaDoor.Tab
