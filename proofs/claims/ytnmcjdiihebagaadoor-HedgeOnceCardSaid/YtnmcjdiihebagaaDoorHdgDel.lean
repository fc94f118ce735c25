/-
  slices.Delete, slices.DeleteFunc of a row that is owned; slices.Index, where it lies.
-/
import Derived.Test.YtnmcjdiihebagaaDoorHdgTick
import Derived.Test.YtnmcjdiihebagaaDoorShelf
import Derived.Lib.SliceRun
namespace Go.Proofs.YtnmcjdiihebagaaDoor.Hdg
open Go.RowKit Go.Shelf Go.Lib Go.Sort
open Pol (intsV IntsAt)
theorem blk_setCells {t : TypeId} {g : Nat} : ∀ (vs : List Value) (o : Nat) (w : World) (cs : Array Value), Blk w g t cs → ∃ cs', Blk (w.setCells g o vs) g t cs' ∧ cs'.size = cs.size ∧ ∀ j, cs'[j]? = if o ≤ j ∧ j < o + vs.length ∧ j < cs.size then vs[j - o]? else cs[j]?
  | [], o, w, cs, h => ⟨cs, h, rfl, fun j => by rw [if_neg (by simp; omega)]⟩
  | v :: vs, o, w, cs, h => by
    obtain ⟨cs', h', hs, hc⟩ := blk_setCells vs (o + 1) (w.setCell ⟨g, o, none⟩ v) (cs.setIfInBounds o v) (h.set_ o v)
    refine ⟨cs', h', by rw [hs]; simp, fun j => ?_⟩
    rw [hc j, Array.size_setIfInBounds, Array.getElem?_setIfInBounds, List.length_cons]
    by_cases hj : o = j
    · subst hj
      by_cases hz : o < cs.size
      · rw [if_neg (by omega), if_pos rfl, if_pos hz, if_pos (by omega), Nat.sub_self]; rfl
      · rw [if_neg (by omega), if_pos rfl, if_neg hz, if_neg (by omega), Array.getElem?_eq_none (by omega)]
    · rw [if_neg hj]
      by_cases hr : o + 1 ≤ j ∧ j < o + 1 + vs.length ∧ j < cs.size
      · rw [if_pos hr, if_pos (by omega), show j - o = (j - (o + 1)) + 1 by omega, List.getElem?_cons_succ]
      · rw [if_neg hr, if_neg (by omega)]
theorem grown_setCells (w : World) (g o : Nat) (vs : List Value) : w.grownBy (w.setCells g o vs) (some g) := by
  induction vs generalizing w o with
  | nil => exact World.grownBy.refl w _
  | cons v vs ih =>
    have h1 := only_setCell (p := ⟨g, o, none⟩) (World.grownBy.refl w (some g)) (Or.inl rfl) v
    have h2 := ih (w.setCell ⟨g, o, none⟩ v) (o + 1)
    exact ⟨h2.os.trans h1.os, h2.tape.trans h1.tape, h2.output.trans h1.output, Nat.le_trans h1.size h2.size, fun i hi hn => (h2.block i (Nat.lt_of_lt_of_le hi h1.size) hn).trans (h1.block i hi hn)⟩
/-- a row that is owned, its head written anew and cut -/
theorem own_cut {w w' : World} {B g n cap : Nat} {xs ys : List Value} {cs' : Array Value} {cs : Array Value} (h : w.ownsRow B 3 1 (.slice (some ⟨g, 0, none⟩) n cap) n xs) (hb : Blk w g 3 cs) (h' : Blk w' g 3 cs') (hs : cs'.size = cs.size) (hk : ys.length ≤ n) (hy : ∀ j, j < ys.length → cs'[j]? = ys[j]?) :
    w'.ownsRow B 3 1 (.slice (some ⟨g, 0, none⟩) ys.length cap) ys.length ys := by
  rcases h.2 with ⟨e, _⟩ | ⟨g', cap', cur, e, hB, hg, hnc, hm, hcs, _⟩
  · cases e
  · injection e with e1 e2 e3
    injection e1 with e1
    injection e1 with e1
    subst e1 e3
    have hcur : cur = cs := by
      have := hg.symm.trans hb
      injection this with this
      injection this
    subst hcur
    refine ⟨by simp, Or.inr ⟨g, cap, cs', rfl, hB, h', by omega, hm, by omega, ?_⟩⟩
    apply List.ext_getElem?
    intro j
    rw [Nat.mul_one, List.getElem?_take]
    by_cases hj : j < ys.length
    · rw [if_pos hj, ← hy j hj]; simp
    · rw [if_neg hj, List.getElem?_eq_none (by omega)]
theorem own_blk {w : World} {B g n cap : Nat} {xs : List Value} (h : w.ownsRow B 3 1 (.slice (some ⟨g, 0, none⟩) n cap) n xs) : ∃ cs, Blk w g 3 cs ∧ n ≤ cap ∧ cap ≤ maxLen ∧ cs.size = cap ∧ ∀ j, j < n → cs[j]? = xs[j]? := by
  rcases h.2 with ⟨e, _⟩ | ⟨g', cap', cur, e, hB, hg, hnc, hm, hcs, ht⟩
  · cases e
  · injection e with e1 e2 e3
    injection e1 with e1
    injection e1 with e1
    subst e1 e3
    refine ⟨cur, hg, hnc, hm, by omega, fun j hj => ?_⟩
    rw [← ht, Nat.mul_one, List.getElem?_take, if_pos hj]; simp
theorem delete_any {w : World} {B g cap : Nat} {xs : List Int} (h : w.ownsRow B 3 1 (.slice (some ⟨g, 0, none⟩) xs.length cap) xs.length (intsV xs)) (i : Nat) (hi : i < xs.length) :
    Calls Tryd.prog 55 #[.slice (some ⟨g, 0, none⟩) xs.length cap, .int .i64 i, .int .i64 ((i : Int) + 1)] w fun e w' => e = .returned (.slice (some ⟨g, 0, none⟩) (xs.length - 1) cap) ∧
      w'.ownsRow B 3 1 (.slice (some ⟨g, 0, none⟩) (xs.length - 1) cap) (xs.length - 1) (intsV (xs.take i ++ xs.drop (i + 1))) ∧ w.grownBy w' (some g) := by
  obtain ⟨cs, hb, hnc, hm, hcs, hat⟩ := own_blk h
  unfold maxLen at hm
  have hc : ∀ j, j < xs.length → w.cell? ⟨g, 0 + j, none⟩ = some (.int .i64 (xs.getD j 0)) := fun j hj => by
    rw [Nat.zero_add, hb.cell j, hat j hj]
    simp [intsV, List.getElem?_eq_getElem hj, List.getD]
  have hf : ∀ j, j < xs.length → w.frozen? ⟨g, 0 + j, none⟩ = false := fun j _ => hb.frozen _
  have C := Any.slices_Delete_int_cells Tryd.laysNm223 g 0 xs.length cap i (i + 1) xs w (Nat.le_refl _) hnc (by omega) (by omega) (by omega) hc hf
  refine (show Calls Tryd.prog 55 _ w _ from C).mono ?_
  rintro e w' ⟨rfl, q, rfl⟩
  have hlen : (intsV (xs.take i ++ xs.drop (i + 1))).length = xs.length - 1 := by simp [intsV]; omega
  refine ⟨by rw [show i + 1 - i = 1 by omega], ?_, ?_⟩
  · obtain ⟨cs', h', hs', hc'⟩ := blk_setCells (((xs.take xs.length).take i ++ (xs.take xs.length).drop (i + 1) ++ List.replicate (i + 1 - i) 0).map (Value.int .i64)) 0 (w.drewN q) cs (hb.drewN q)
    have := own_cut (ys := intsV (xs.take i ++ xs.drop (i + 1))) h hb h' hs' (by omega) (fun j hj => by
      rw [hc' j, if_pos ⟨Nat.zero_le _, by simp; omega, by omega⟩, Nat.sub_zero, List.take_length, List.map_append]
      exact List.getElem?_append_left hj)
    rwa [hlen] at this
  · have h1 := grown_setCells (w.drewN q) g 0 (((xs.take xs.length).take i ++ (xs.take xs.length).drop (i + 1) ++ List.replicate (i + 1 - i) 0).map (Value.int .i64))
    exact ⟨h1.os, h1.tape, h1.output, h1.size, h1.block⟩
set_option maxHeartbeats 1000000 in
theorem index_at (xs : List Int) (A : Option Addr) (n c : Nat) (x : Int) (hn : xs.length = n) (hcap : n ≤ 9223372036854775807) (w : World) (hx : IntsAt w A xs) :
    Calls Tryd.prog 54 #[.slice A n c, .int .i64 x] w fun e w' => ∃ r : Int, e = .returned (.int .i64 r) ∧ ((r = -1 ∧ ¬ x ∈ xs) ∨ ∃ k : Nat, r = (k : Int) ∧ k < n ∧ xs.getD k 0 = x) ∧ w = w' := by
  go_enter Tryd.func54, Tryd.ntmps54
  go_wp2
  go_loop [8] (fun i => ∃ k : Nat, k ≤ n ∧ i = .int .i64 (k : Int) ∧ ∀ j, j < k → xs.getD j 0 ≠ x) (fun i => n - (intOf i).toNat)
  case atStart => exact ⟨0, Nat.zero_le _, rfl, fun j hj => absurd hj (by omega)⟩
  case round =>
    obtain ⟨k, hk, rfl, hne⟩ := hrel
    by_cases hlt : k < n
    · obtain ⟨b, off, rfl, hb, hc⟩ := hx k (by omega)
      have hnx : xs.getD k 0 ≠ x → ∀ j, j < k + 1 → xs.getD j 0 ≠ x := by
        intro h j hj
        rcases Nat.lt_or_ge j k with h1 | h1
        · exact hne j h1
        · rw [show j = k by omega]; exact h
      obtain ⟨y, hy0⟩ : ∃ y, xs.getD k 0 = y := ⟨_, rfl⟩
      rw [hy0] at hc hnx
      have HY := Lib.hid hy0
      clear hy0
      by_cases hy : x = y
      · have ht : (x == y) = true := by rw [hy]; simp
        have HX := Lib.hid hy
        clear hnx hy hne
        go_wp2
        go_ret
        exact ⟨_, rfl, Or.inr ⟨k, rfl, hlt, HY.out.trans HX.out.symm⟩, rfl⟩
      · have HN := Lib.hid (hnx (fun h => hy h.symm))
        have ht : (x == y) = false := by rw [beq_eq_false_iff_ne]; exact hy
        clear hnx hne
        go_wp2
        go_round
        case rel => exact ⟨k + 1, by omega, by go_num, HN.out⟩
        case measure => simp [intOf]; omega
    · have hnm : ¬ x ∈ xs := by
        intro h
        obtain ⟨j, hj, e⟩ := List.getElem_of_mem h
        refine hne j (by omega) ?_
        simp [List.getD, List.getElem?_eq_getElem hj, e]
      have HM := Lib.hid hnm
      clear hnm hne
      go_wp2
      go_ret
      exact ⟨_, rfl, Or.inl ⟨rfl, HM.out⟩, rfl⟩
/-- the closure of cancel -/
theorem cancel1_gives (but x : Int) (b : Nat) (W : World) (hc : W.cell? ⟨b, 0, none⟩ = some (.int .i64 but)) :
    FnGives Tryd.prog 57 #[.pointer (some ⟨b, 0, none⟩)] #[.int .i64 x] (.bool (!(x == but))) W := by
  show Calls Tryd.prog 57 #[.int .i64 x, .pointer (some ⟨b, 0, none⟩)] W _
  cases hq : (x == but) with
  | true =>
    go_enter Tryd.func57, Tryd.ntmps57
    go_wp2
    go_ret
    exact ⟨by simp_all, 0, rfl⟩
  | false =>
    go_enter Tryd.func57, Tryd.ntmps57
    go_wp2
    go_ret
    exact ⟨by simp_all, 0, rfl⟩
theorem blk_putRow {w : World} {g : Nat} {t : TypeId} {cs : Array Value} (h : Blk w g t cs) (d : Array Int) : Blk (putRow (Value.int .i64) w g 0 d) g t (putCells (Value.int .i64) 0 d cs) := by
  unfold Blk at h ⊢
  simp [putRow, mapBlock, Array.getElem?_modify, h, onCells]
theorem grown_putRow (w : World) (g : Nat) (d : Array Int) : w.grownBy (putRow (Value.int .i64) w g 0 d) (some g) :=
  ⟨rfl, rfl, rfl, by simp [putRow, mapBlock], fun i _ hn => by
    have : ¬ g = i := fun e => hn (by rw [e])
    simp [putRow, mapBlock, Array.getElem?_modify, this]⟩
theorem deletefunc_any {w : World} {B g cap b : Nat} {xs : List Int} (but : Int) (h : w.ownsRow B 3 1 (.slice (some ⟨g, 0, none⟩) xs.length cap) xs.length (intsV xs)) (hb : b < w.heap.size) (hne : b ≠ g) (hc : w.cell? ⟨b, 0, none⟩ = some (.int .i64 but)) :
    Calls Tryd.prog 56 #[.slice (some ⟨g, 0, none⟩) xs.length cap, .func (.func 57) #[] #[.pointer (some ⟨b, 0, none⟩)]] w fun e w' => e = .returned (.slice (some ⟨g, 0, none⟩) (xs.filter (· == but)).length cap) ∧
      w'.ownsRow B 3 1 (.slice (some ⟨g, 0, none⟩) (xs.filter (· == but)).length cap) (xs.filter (· == but)).length (intsV (xs.filter (· == but))) ∧ w.grownBy w' (some g) := by
  obtain ⟨cs, hbk, hnc, hm, hcs, hat⟩ := own_blk h
  unfold maxLen at hm
  have eg : ∀ args w, (callFunc 57 args).run Tryd.prog w = .ok (.enter 57 args) w := enters_of Tryd.func57 (by kernel_rfl) rfl
  have hH : Holds (Value.int .i64) w g 0 xs.toArray := fun j hj => by
    have hj' : j < xs.length := by simpa using hj
    rw [Nat.zero_add]
    refine ⟨?_, hbk.frozen _⟩
    rw [hbk.cell j, hat j hj', getElem!_pos xs.toArray j hj]
    simp [intsV, List.getElem?_eq_getElem hj']
  have hp : PredAt Tryd.prog 57 #[.pointer (some ⟨b, 0, none⟩)] (Value.int .i64) (fun x => !(x == but)) w :=
    fun W x hB => cancel1_gives but x b W ((hB.cell (p := ⟨b, 0, none⟩) hb).trans hc)
  have hpo : PredOver Tryd.prog 57 #[.pointer (some ⟨b, 0, none⟩)] (Value.int .i64) (fun x => !(x == but)) g 0 xs.toArray.size w :=
    fun n os dk x _ => cancel1_gives but x b _ (by
      unfold sortWorld
      rw [cell?_grow _ _ _ (by show b < (putRow _ _ _ _ _).heap.size; rw [size_putRow]; exact hb), cell?_putRow_other _ _ g 0 _ _ (Or.inl hne)]
      exact hc)
  have C := AnyE.slices_DeleteFunc Tryd.laysH10 (Value.int .i64) (fun _ => rfl) (fun x => !(x == but)) 57 #[.pointer (some ⟨b, 0, none⟩)] eg 0 Tryd.zeroValue3 g 0 cap xs.toArray w hp hpo hH (by simp; omega) (by simpa using hnc)
  have ef : (xs.toArray.toList.filter fun x => !(!(x == but))) = xs.filter (· == but) := by simp
  rw [ef] at C
  have C2 : Calls Tryd.prog 56 #[.slice (some ⟨g, 0, none⟩) xs.length cap, .func (.func 57) #[] #[.pointer (some ⟨b, 0, none⟩)]] w _ := C
  refine C2.mono ?_
  rintro e w' ⟨rfl, q, rfl⟩
  have hfl : (xs.filter (· == but)).length ≤ xs.length := List.length_filter_le _ _
  have hlen : (intsV (xs.filter (· == but))).length = (xs.filter (· == but)).length := by simp [intsV]
  have hq : Blk (Sort.ahead w q) g 3 cs := hbk
  obtain ⟨dd, hdd⟩ : ∃ dd : Array Int, dd = ((xs.filter (· == but)) ++ List.replicate (xs.toArray.size - (xs.filter (· == but)).length) (0 : Int)).toArray := ⟨_, rfl⟩
  have hds : dd.size = xs.length := by rw [hdd]; simp; omega
  have hdg : ∀ j, j < (xs.filter (· == but)).length → some (Value.int .i64 dd[j]!) = (intsV (xs.filter (· == but)))[j]? := fun j hj => by
    rw [getElem!_pos dd j (by omega)]
    subst hdd
    simp [intsV, hj]
  rw [← hdd]
  refine ⟨rfl, ?_, ?_⟩
  · have := own_cut (ys := intsV (xs.filter (· == but))) h hbk (blk_putRow hq dd) (by simp [putCells]) (by omega) (fun j hj => by
      rw [hlen] at hj
      simp only [putCells, Array.getElem?_mapIdx]
      rw [Array.getElem?_eq_getElem (show j < cs.size by omega), Option.map_some, if_pos ⟨Nat.zero_le _, by omega⟩, Nat.sub_zero]
      exact hdg j hj)
    rwa [hlen] at this
  · have h1 := grown_putRow (Sort.ahead w q) g dd
    exact ⟨h1.os, h1.tape, h1.output, h1.size, h1.block⟩
end Go.Proofs.YtnmcjdiihebagaaDoor.Hdg
