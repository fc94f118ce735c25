/-
  The walks of the document's names, values and Static.
-/
import Derived.Test.YtflmgjidnclegaaDoorLaidM
import Derived.Deep.RegionWith
namespace Go.Proofs.YtflmgjidnclegaaDoor.Tab
open Go.RowKit
noncomputable def namesV : Array Value := (([] :: pairsT.map (·.1)).map (fun p => Value.string ⟨p.toArray⟩)).toArray
noncomputable def valuesV : Array Value := (([] :: pairsT.map (·.2)).map (fun p => Value.string ⟨p.toArray⟩)).toArray
set_option maxRecDepth 100000 in
theorem names_any (w : World) : Calls Tryd.prog 54 #[] w fun e w' => e = .returned (.slice (some ⟨w.heap.size, 0, none⟩) 62 62) ∧ w' = w.alloc (.cells namesV 9) := by
  go_enter Tryd.func54, Tryd.ntmps54
  go_wp2_with fail
  go_ret
  exact ⟨rfl, congrArg (fun a => w.alloc (.cells a 9)) (by kernel_rfl)⟩
set_option maxRecDepth 100000 in
theorem values_any (w : World) : Calls Tryd.prog 55 #[] w fun e w' => e = .returned (.slice (some ⟨w.heap.size, 0, none⟩) 62 62) ∧ w' = w.alloc (.cells valuesV 9) := by
  go_enter Tryd.func55, Tryd.ntmps55
  go_wp2_with fail
  go_ret
  exact ⟨rfl, congrArg (fun a => w.alloc (.cells a 9)) (by kernel_rfl)⟩
theorem names_at (k : Nat) (x : Hd) (h : stat[k]? = some x) : namesV[k + 1]? = some (.string x.1) ∧ valuesV[k + 1]? = some (.string x.2) := by
  unfold stat at h
  rw [List.getElem?_map] at h
  obtain ⟨p, hp, rfl⟩ := Option.map_eq_some_iff.1 h
  constructor
  · unfold namesV
    rw [List.getElem?_toArray, List.getElem?_map, List.getElem?_cons_succ, List.getElem?_map, hp]
    rfl
  · unfold valuesV
    rw [List.getElem?_toArray, List.getElem?_map, List.getElem?_cons_succ, List.getElem?_map, hp]
    rfl
set_option maxRecDepth 100000 in
set_option maxHeartbeats 1000000 in
theorem rstatic_any (i : Int) (w : World) :
    Calls Tryd.prog 15 #[.int .i64 i] w fun e w' => e = .returned (hdR (statAt i)) ∧ Below w.heap.size w w' := by
  have hB0 := (Below.refl w.heap.size w).alloc (Nat.le_refl _) (.cells #[.string ⟨#[]⟩, .string ⟨#[]⟩, .bool false] 23)
  have hk0 := Blk.new w 23 #[.string ⟨#[]⟩, .string ⟨#[]⟩, .bool false]
  by_cases hi : i < 1
  · have HE := Lib.hid (show statAt i = none by unfold statAt; rw [if_neg (by omega)])
    rw [HE.out]
    go_enter Tryd.func15, Tryd.ntmps15
    go_wp2_with fail
    exact hdr_ret rfl rfl rfl rfl hk0 ⟨rfl, hB0⟩
  · by_cases hi2 : 62 ≤ i
    · have HE := Lib.hid (show statAt i = none by unfold statAt; rw [if_pos (by omega)]; exact List.getElem?_eq_none (by rw [stat_len]; omega))
      rw [HE.out]
      have hd1 : decide (i < 1) = false := decide_eq_false hi
      go_enter Tryd.func15, Tryd.ntmps15
      go_wp2_with fail
      exact hdr_ret rfl rfl rfl rfl hk0 ⟨rfl, hB0⟩
    · obtain ⟨k, rfl⟩ : ∃ k : Nat, i = (k : Int) + 1 := ⟨(i - 1).toNat, by omega⟩
      obtain ⟨x, hx⟩ : ∃ x, stat[k]? = some x := ⟨_, List.getElem?_eq_getElem (by rw [stat_len]; omega)⟩
      have HE := Lib.hid (show statAt ((k : Int) + 1) = some x by unfold statAt; rw [if_pos (by omega), show ((k : Int) + 1).toNat - 1 = k by omega]; exact hx)
      rw [HE.out]
      obtain ⟨n1, n2⟩ := names_at k x hx
      have hd1 : decide ((k : Int) + 1 < 1) = false := decide_eq_false hi
      have hd2 : decide (62 ≤ (k : Int) + 1) = false := decide_eq_false hi2
      have hk61 : k < 61 := by omega
      have HN := Lib.hid names_any
      have HV := Lib.hid values_any
      clear hx
      generalize namesV = NV at *
      generalize valuesV = VV at *
      go_enter Tryd.func15, Tryd.ntmps15
      go_wp2_with fail
      generalize w.alloc (.cells #[.string ⟨#[]⟩, .string ⟨#[]⟩, .bool false] 23) = W0 at *
      have c1 : (W0.alloc (.cells NV 9)).cell? ⟨W0.heap.size, k + 1, none⟩ = some (.string x.1) := by rw [World.cell?_alloc_at _ _ _ _ rfl]; exact n1
      have z1 : (W0.alloc (.cells NV 9)).heap.size = W0.heap.size + 1 := by simp
      have c2 : ((W0.alloc (.cells NV 9)).alloc (.cells VV 9)).cell? ⟨W0.heap.size + 1, k + 1, none⟩ = some (.string x.2) := by
        rw [← z1, World.cell?_alloc_at _ _ _ _ rfl]; exact n2
      have c3 : ((W0.alloc (.cells NV 9)).alloc (.cells VV 9)).cell? ⟨W0.heap.size, k + 1, none⟩ = some (.string x.1) := by
        rw [World.cell?_alloc_lt _ _ _ (by rw [z1]; exact Nat.lt_succ_self _)]; exact c1
      have hk2 := (hk0.alloc (.cells NV 9)).alloc (.cells VV 9)
      have HB2 := Lib.hid ((hB0.alloc hB0.size (.cells NV 9)).alloc (Nat.le_trans hB0.size (by simp)) (.cells VV 9))
      have f0 := hk2.frozen 0
      have f1 := hk2.frozen 1
      have f2 := hk2.frozen 2
      have b0 : ((W0.alloc (.cells NV 9)).alloc (.cells VV 9)).cell? ⟨w.heap.size, 0, none⟩ = some (.string ⟨#[]⟩) := hk2.cell 0
      have b1 : ((W0.alloc (.cells NV 9)).alloc (.cells VV 9)).cell? ⟨w.heap.size, 1, none⟩ = some (.string ⟨#[]⟩) := hk2.cell 1
      have b2 : ((W0.alloc (.cells NV 9)).alloc (.cells VV 9)).cell? ⟨w.heap.size, 2, none⟩ = some (.bool false) := hk2.cell 2
      have HK := Lib.hid hk2
      clear z1 n1 n2 hk2 hk0 hB0
      go_region_with (first | (go_at_call 54; refine (HN.out _).mono ?_; rintro e w' ⟨rfl, rfl⟩) | (go_at_call 55; refine (HV.out _).mono ?_; rintro e w' ⟨rfl, rfl⟩))
      all_goals
        go_wp2_with fail
        have hk3 := (((HK.out.set_ 0 (.string x.1)).set_ 1 (.string x.2)).set_ 2 (.bool false)).drew
        have hB3 := (((HB2.out.setCell (p := ⟨w.heap.size, 0, none⟩) (Nat.le_refl _) (.string x.1)).setCell (p := ⟨w.heap.size, 1, none⟩) (Nat.le_refl _) (.string x.2)).setCell (p := ⟨w.heap.size, 2, none⟩) (Nat.le_refl _) (.bool false)).drew
        exact hdr_ret rfl rfl rfl rfl hk3 ⟨rfl, hB3⟩
end Go.Proofs.YtflmgjidnclegaaDoor.Tab
