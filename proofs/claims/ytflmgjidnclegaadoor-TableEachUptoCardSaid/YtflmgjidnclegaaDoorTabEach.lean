/-
  The walk of Each: the iterator's contract.
-/
import Derived.Test.YtflmgjidnclegaaDoorTabRef2
import Derived.RangeFuncNested
import Derived.RangeFuncBound
import Derived.RangeFuncCalls
import Derived.RangeFuncLeaves
import Derived.Shelf.Abstract
import Derived.Shelf.RegionOpen
import Derived.OwnWalkIn
import Derived.TacticsInMore
import Derived.LoopNIn
import Derived.LoopIn
import Derived.Deep.RegionLaw
import Derived.Deep.AppendLies
namespace Go.Proofs.YtflmgjidnclegaaDoor.Tab
open Go.RowKit Go.Shelf
set_option maxRecDepth 100000 in
theorem each_any (g : Nat) (w : World) : Calls Tryd.prog 33 #[.pointer (some ⟨g, 0, none⟩)] w fun e w' => e = .returned (.func (.func 63) #[] #[.pointer (some ⟨w.heap.size, 0, none⟩)]) ∧ w' = w.alloc (.cells #[.pointer (some ⟨g, 0, none⟩)] 33) := by
  go_enter Tryd.func33, Tryd.ntmps33
  go_wp2_with fail
  go_ret
  exact ⟨rfl, rfl⟩
/-- what a round of the loop keeps: what lies in cells from n₀ on -/
def KpC (n₀ : Nat) (W W' : World) : Prop := W.heap.size ≤ W'.heap.size ∧ ∀ (i : Nat) (cs : Array Value) (t : TypeId), n₀ ≤ i → W.heap[i]? = some (.cells cs t (0, 0)) → W'.heap[i]? = some (.cells cs t (0, 0))
theorem KpC.trans {n₀ : Nat} {A B C : World} (h : KpC n₀ A B) (k : KpC n₀ B C) : KpC n₀ A C := ⟨Nat.le_trans h.1 k.1, fun i cs t hi hc => k.2 i cs t hi (h.2 i cs t hi hc)⟩
theorem KpC.own {n₀ : Nat} {W W' : World} (h : KpC n₀ W W') {e : TypeId} {size n : Nat} {v : Value} {xs : List Value} (ho : W.ownsRow n₀ e size v n xs) : W'.ownsRow n₀ e size v n xs := by
  refine ⟨ho.1, ?_⟩
  rcases ho.2 with ⟨hv, h0⟩ | ⟨g, cap, cur, hv, hb, hg, rest⟩
  · exact .inl ⟨hv, h0⟩
  · exact .inr ⟨g, cap, cur, hv, hb, h.2 g cur e hb hg, rest⟩
/-- the header that is told in the k-th place -/
def hat (Q : List Hd) (k : Nat) : Hd := (Q.reverse[k]?).getD (⟨#[]⟩, ⟨#[]⟩)
def eachV (Q : List Hd) (k : Nat) : Array Value := #[.int .i64 ((62 : Int) + (k : Int)), .agg #[.string (hat Q k).1, .string (hat Q k).2, .bool false]]
theorem hq_hat (Q : List Hd) (k : Nat) (hk : k < Q.length) : (hq Q)[k]? = some ((hat Q k).1, (hat Q k).2, false) := by
  have hy : Q.reverse[k]? = some (hat Q k) := by
    unfold hat
    rw [List.getElem?_eq_getElem (by simpa using hk)]
    rfl
  exact hq_at Q k _ hy
set_option maxRecDepth 100000 in
set_option maxHeartbeats 2000000 in
theorem each1_in (n : Nat) (l bx n₀ g r o m : Nat) (Q : List Hd) (J Jx : List Nat → World → Prop) (W : World) (hT : Tbl W g r o Q m) (hbx : W.cell? ⟨bx, 0, none⟩ = some (.pointer (some ⟨g, 0, none⟩))) (hn₀ : n₀ ≤ W.heap.size)
    (hJ : ∀ s W1 W2, J s W1 → Below W1.heap.size W1 W2 → J s W2)
    (hY : ∀ pre x W1, J pre W1 → pre.length < Q.length → YieldAt Fence.wide (n - 1) Tryd.prog l (eachV Q x) W1 fun e W' =>
      (e = .returned (.bool true) ∧ J (pre ++ [x]) W' ∧ KpC n₀ W1 W') ∨ (e = .returned (.bool false) ∧ Jx (pre ++ [x]) W'))
    (h0 : J [] W) :
    CallsIn Fence.wide n Tryd.prog 63 #[.func (.yield l) #[] #[], .pointer (some ⟨bx, 0, none⟩)] W fun e W' => (∃ v, e = .returned v) ∧
      ((∃ xs, xs = List.range Q.length ∧ J xs W') ∨ (∃ pre, (∃ k, k ≤ Q.length ∧ pre = List.range k) ∧ Jx pre W')) := by
  have c2 : W.cell? ⟨g, 2, none⟩ = some (.int .i64 (Q.length : Int)) := hT.kg.cell 2
  have hl := hT.len
  obtain ⟨i, hi, hi0, hi1, hi2⟩ := info_parts infoHd
  have HI := Lib.hid hi
  have hmk : ∀ W : World, (Instr.makeSlice 51 (.int .i64 0) (.int .i64 (Q.length : Int))).run Tryd.prog W = .ok (.slice (some ⟨W.heap.size, 0, none⟩) 0 Q.length) (W.alloc (.cells (madeCells (Value.agg #[.string ByteArray.empty, .string ByteArray.empty, .bool false]).cells (Q.length * 3)) 23)) := by
    intro W
    have := run_make_rowN (P := Tryd.prog) 51 23 i (.agg #[.string ByteArray.empty, .string ByteArray.empty, .bool false]) Tryd.underlying51 hi hi0 .i64 .i64 0 Q.length (Nat.zero_le _) (by rw [hi2]; omega) (by omega) W
    rw [hi1] at this
    exact this
  have hO0 : (W.alloc (.cells (madeCells (Value.agg #[.string ByteArray.empty, .string ByteArray.empty, .bool false]).cells (Q.length * 3)) 23)).ownsRow W.heap.size 23 3 (.slice (some ⟨W.heap.size, 0, none⟩) 0 Q.length) 0 [] :=
    World.ownsRow_made W _ _ (Nat.le_refl _) (by unfold maxLen; omega) (size_madeCells _ _)
  have hB0 := (Below.refl W.heap.size W).alloc (Nat.le_refl _) (.cells (madeCells (Value.agg #[.string ByteArray.empty, .string ByteArray.empty, .bool false]).cells (Q.length * 3)) 23)
  have HO0 := Lib.hid hO0
  have HB0 := Lib.hid hB0
  have HT := Lib.hid hT
  have hbx' := Since.cell hB0 hbx
  have c2' := Since.cell hB0 c2
  have HBX := Lib.hid hbx
  clear hi hO0 hB0 hT
  generalize madeCells (Value.agg #[.string ByteArray.empty, .string ByteArray.empty, .bool false]).cells (Q.length * 3) = MC at *
  refine callsIn_of_wp Tryd.func63 rfl trivial ?_ rfl
  simp only [Tryd.ntmps63, List.size_toArray, List.length_cons, List.length_nil, Nat.reduceAdd, Nat.reduceSub, Array.replicate_succ, Array.replicate_zero, List.push_toArray, List.append_toArray, List.nil_append, List.cons_append]
  gi_wp2
  clear hmk hbx' c2' hbx c2
  refine wpIn_wide.2 ?_
  go_loopw [3, 4, 16] (fun v _ i wr => ∃ (k : Nat) (A' : Option Addr) (c' : Nat), i = .int .i64 (k : Int) ∧ v = .slice A' k c' ∧ k ≤ Q.length ∧ wr.ownsRow W.heap.size 23 3 (.slice A' k c') k (hncs ((hq Q).take k)) ∧ Below W.heap.size W wr) (fun _ _ i _ => Q.length - (intOf i).toNat)
  case atStart => exact ⟨0, _, _, rfl, rfl, Nat.zero_le _, HO0.out, HB0.out⟩
  case round =>
    clear HO0 HB0
    obtain ⟨k, A', c', rfl, rfl, hk, hO, hB⟩ := hrel
    by_cases hlt : k < Q.length
    · have hd : decide ((k : Int) < (Q.length : Int)) = true := decide_eq_true (by omega)
      have hT2 := HT.out.below hB
      obtain ⟨cs, hr, hR⟩ := hT2.kr
      obtain ⟨p, hp⟩ : ∃ p, (o + (Q.length - 1 - k)) % 128 = p := ⟨_, rfl⟩
      have hp128 : (p : Int) < 128 := by omega
      obtain ⟨x, hx⟩ : ∃ x, Q[Q.length - 1 - k]? = some x := ⟨_, List.getElem?_eq_getElem (by omega)⟩
      obtain ⟨a0, a1, a2⟩ := hR.2 _ x hx
      rw [hp] at a0 a1 a2
      have hxr : Q.reverse[k]? = some x := by rw [List.getElem?_reverse hlt]; exact hx
      have hxq := hq_at Q k x hxr
      have HTK : Hid (hncs ((hq Q).take (k + 1)) = hncs ((hq Q).take k) ++ hnc (x.1, x.2, false)) := Lib.hid (by
        obtain ⟨hkl, hxe⟩ := List.getElem?_eq_some_iff.1 hxq
        rw [List.take_succ_eq_append_getElem hkl, hncs_append, hxe]
        simp [hncs])
      have HA := Lib.hid (fun (W' : World) (hW : Since wr W') => at_any (hT2.below hW) k p hlt hp)
      have c0 : wr.cell? ⟨g, 0, none⟩ = some (.slice (some ⟨r, 0, none⟩) 128 128) := hT2.kg.cell 0
      have r0 := (hr.cell (p * 3)).trans a0
      have r1 := (hr.cell (p * 3 + 1)).trans a1
      have r2 := (hr.cell (p * 3 + 2)).trans a2
      have hbx := Since.cell hB HBX.out
      have HNW : Hid (∀ (j : Nat) (u : Value), (hnc (x.1, x.2, false))[j]? = some u → (wr.alloc (.cells #[.string x.1, .string x.2, .bool false] 23)).cell? ((⟨wr.heap.size, 0, none⟩ : Addr).add j) = some u) := Lib.hid (fun j u hu => by
        rw [add_pl, Nat.zero_add]
        exact ((Blk.new wr 23 #[.string x.1, .string x.2, .bool false]).cell j).trans (by simpa [hnc] using hu))
      have HON : Hid (∀ u ∈ hnc (x.1, x.2, false), u.oneCell' = true) := Lib.hid (by
        intro u hu
        simp only [hnc, List.mem_cons, List.not_mem_nil, or_false] at hu
        rcases hu with rfl | rfl | rfl <;> rfl)
      have HOA := Lib.hid (hO.alloc (.cells #[.string x.1, .string x.2, .bool false] 23))
      have HBA := Lib.hid (hB.alloc hB.size (.cells #[.string x.1, .string x.2, .bool false] 23))
      have HBS : Hid (W.heap.size ≤ (wr.alloc (.cells #[.string x.1, .string x.2, .bool false] 23)).heap.size) := Lib.hid (HBA.out.size)
      clear hT2 hr hR hp hx hxr hxq a0 a1 a2 hO hB
      go_wp2_with fail
      go_region_law (first
        | (refine step_append_lies _ rfl (.tmp 19) (.tmp 29) 51 rfl W.heap.size 23 i (.agg #[.string ByteArray.empty, .string ByteArray.empty, .bool false]) 3 40 Tryd.underlying51 HI.out hi0 hi1 hi2 rfl (by decide) (.slice A' k c') k (hncs ((hq Q).take k)) rfl HOA.out ⟨wr.heap.size, 0, none⟩ 1 1 (hnc (x.1, x.2, false)) rfl rfl HNW.out HON.out (by decide) (by unfold maxLen; omega) (by omega) HBS.out _ rfl ?_; intro gr cp w8 ho hgr hat hlt8)
        | (go_simp; go_at_call 58; refine Calls.mono (HA.out _ (by first | exact Below.refl _ _ | exact below_drewN (Below.refl _ _) _)) ?_; rintro e w5 ⟨rfl, q5, rfl⟩))
      all_goals
        have hgr' : (wr.alloc (.cells #[.string x.1, .string x.2, .bool false] 23)).grownBy w8 (Value.slice A' k c').ownBlock := ⟨hgr.os, hgr.tape, hgr.output, hgr.size, hgr.block⟩
        have hB8 := HBA.out.grown hgr' HBA.out.size (fun y hy => (HOA.out.lt y hy).1)
        have ho8 := ho
        rw [← HTK.out] at ho8
        have HO8 := Lib.hid ho8
        clear ho ho8 hgr hgr' hat hlt8
        go_wp2_with fail
        go_roundw
        case rel => exact ⟨k + 1, _, _, by go_num, rfl, by omega, HO8.out, hB8⟩
        case measure => simp [intOf]; omega
    · have hkl : k = Q.length := by omega
      subst hkl
      have hd : decide ((Q.length : Int) < (Q.length : Int)) = false := decide_eq_false (by omega)
      have h1 := hJ [] W wr h0 hB
      rw [List.take_of_length_le (by rw [hq_length]; exact Nat.le_refl _)] at hO
      have HO := Lib.hid (own_base hO hn₀)
      have HJ1 := Lib.hid h1
      clear hO hB h1 h0 hlt
      go_wp2_with fail
      gi_wp2
      gi_loopw [34] (fun i wr2 => ∃ k : Nat, k ≤ Q.length ∧ i = .int .i64 (k : Int) ∧ J (List.range k) wr2 ∧ wr2.ownsRow n₀ 23 3 (.slice A' Q.length c') Q.length (hncs (hq Q))) (fun i _ => Q.length - (intOf i).toNat)
      case atStart => exact ⟨0, Nat.zero_le _, rfl, HJ1.out, HO.out⟩
      case round =>
        clear HO HJ1
        obtain ⟨k, hk2, rfl, hJs, hOs⟩ := hrel
        by_cases hlt2 : k < Q.length
        · obtain ⟨b, off, rfl, _, c0, c1, c2⟩ := (HnAt.of_own hOs (hq Q).length) k _ (by rw [List.take_of_length_le (Nat.le_refl _)]; exact hq_hat Q k hlt2)
          have hd2 : decide ((k : Int) < (Q.length : Int)) = true := decide_eq_true (by omega)
          have hJa := hJ _ _ _ hJs ((Below.refl _ _).alloc (Nat.le_refl _) (.cells #[.string (hat Q k).1, .string (hat Q k).2, .bool false] 23))
          obtain ⟨fn, tmps, assign, body, hy, hR⟩ := hY _ k _ hJa (by rw [List.length_range]; exact hlt2)
          have HOs := Lib.hid (hOs.alloc (.cells #[.string (hat Q k).1, .string (hat Q k).2, .bool false] 23))
          clear hJs hOs hJa
          unfold eachV at hy
          gi_wp2
          refine ⟨fun h => (by cases h), hR.mono ?_⟩
          rintro e W3 (⟨rfl, hJ3, hk3⟩ | ⟨rfl, hJx3⟩)
          · have hO3 := Lib.hid (hk3.own HOs.out)
            clear hk3 hR hy c0 c1 c2
            gi_wp2
            go_roundw
            case rel => exact ⟨k + 1, by omega, by go_num, by rw [List.range_succ]; exact hJ3, hO3.out⟩
            case measure => simp [intOf]; omega
          · gi_wp2
            refine bodyPost_ret (results_none rfl _ _ _) rfl ?_
            exact ⟨⟨_, rfl⟩, .inr ⟨_, ⟨k + 1, by omega, (List.range_succ).symm⟩, hJx3⟩⟩
        · have hkk : k = Q.length := by omega
          subst hkk
          have hd2 : decide ((Q.length : Int) < (Q.length : Int)) = false := decide_eq_false (by omega)
          clear hOs hlt2
          gi_wp2
          go_end0
          exact ⟨⟨_, rfl⟩, .inl ⟨_, rfl, hJs⟩⟩
end Go.Proofs.YtflmgjidnclegaaDoor.Tab
