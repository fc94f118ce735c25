/-
  The hedge's Next, Running, start.
-/
import Derived.Test.YtnmcjdiihebagaaDoorHdgBase
import Derived.BigRegion
import Derived.Deep.RegionLaw
import Derived.Laws.EntriesVeiled
namespace Go.Proofs.YtnmcjdiihebagaaDoor.Hdg
open Go.RowKit
open Pol (intsV IntsAt)
set_option maxRecDepth 100000 in
theorem next_any (g : Nat) (T D : Int) (fv tp : Value) (now started : Int) (nx : Bool) (due : Int) (rv : Value) (ans : Int) (done : Bool) (code : Int) (w : World) (h : Blk w g 91 (hcC T D fv tp now started (nxV g nx) due rv ans done code)) :
    Calls Tryd.prog 31 #[.pointer (some ⟨g, 0, none⟩)] w fun e w' => e = .returned (.tuple #[.int .i64 (if nx then due else 0), .bool nx]) ∧ w = w' := by
  cases nx with
  | true =>
    have c0 : w.cell? ⟨g, 6, none⟩ = some (.func (.func 53) #[.pointer (some ⟨g, 0, none⟩)] #[]) := h.cell 6
    have HS := Lib.hid (some_any g T D fv tp now started _ due rv ans done code w h)
    clear h
    go_enter Tryd.func31, Tryd.ntmps31
    go_wp2_with fail
    refine HS.out.mono ?_
    rintro e w' ⟨rfl, rfl⟩
    go_wp2_with fail
    go_ret2
    exact ⟨rfl, rfl⟩
  | false =>
    have c0 : w.cell? ⟨g, 6, none⟩ = some (.func (.func 45) #[.pointer (some ⟨g, 0, none⟩)] #[]) := h.cell 6
    clear h
    go_enter Tryd.func31, Tryd.ntmps31
    go_wp2_with fail
    refine (none_any g w).mono ?_
    rintro e w' ⟨rfl, rfl⟩
    go_wp2_with fail
    go_ret2
    exact ⟨rfl, rfl⟩
set_option maxRecDepth 100000 in
set_option maxHeartbeats 1000000 in
theorem running_any (B g : Nat) (T D : Int) (fv tp : Value) (now started : Int) (nf : Value) (due : Int) (rv : Value) (run : List Int) (ans : Int) (done : Bool) (code : Int) (w : World) (h : Blk w g 91 (hcC T D fv tp now started nf due rv ans done code))
    (hr : w.ownsRow B 3 1 rv run.length (intsV run)) (hl : run.length ≤ 1000) :
    Calls Tryd.prog 27 #[.pointer (some ⟨g, 0, none⟩)] w fun e w' => ∃ v, e = .returned v ∧ w'.ownsRow w.heap.size 3 1 v run.length (intsV run) ∧ Below w.heap.size w w' := by
  have c0 : w.cell? ⟨g, 8, none⟩ = some rv := h.cell 8
  obtain ⟨A, cap, rfl, hx⟩ := Pol.own_ints rfl hr
  have hR := Pol.ints_reads hx
  have H1 := ints_one run
  obtain ⟨i, hi, hi0, hi1, hi2⟩ := info_parts (P := Tryd.prog) (e := 3) (z := .int .i64 0) (size := 1) (bytes := 8) (by kernel_rfl)
  have hnil := World.ownsRow_nil w w.heap.size 3 1
  clear h hr hx
  go_enter Tryd.func27, Tryd.ntmps27
  go_wp2_with (at_builtin; refine wpList_append_any _ rfl _ _ 22 rfl w.heap.size 3 i (.int .i64 0) 1 8 Tryd.underlying22 hi hi0 hi1 hi2 rfl (by decide) _ 0 [] rfl hnil w.heap.size A run.length cap (intsV run) rfl hR H1 (by unfold maxLen; omega) (by omega) (Nat.le_refl _) ?_; intro v' w' ho hgr hat)
  go_ret
  refine ⟨v', rfl, ?_, (Below.refl _ _).grown hgr (Nat.le_refl _) (fun k hk => by cases hk)⟩
  rw [Nat.zero_add, List.nil_append] at ho
  exact ho
set_option maxRecDepth 100000 in
set_option maxHeartbeats 4000000 in
theorem start_any (B g : Nat) (T D : Int) (fv tp : Value) (now started : Int) (nf : Value) (due : Int) (rv : Value) (run : List Int) (ans : Int) (done : Bool) (code : Int) (w : World) (h : Blk w g 91 (hcC T D fv tp now started nf due rv ans done code))
    (hr : w.ownsRow B 3 1 rv run.length (intsV run)) (hB : B ≤ w.heap.size) (hl : run.length ≤ 1000) (hst : 0 ≤ started ∧ started ≤ 1000) (hD : 0 ≤ D ∧ D ≤ 1000000) (hnow : 0 ≤ now ∧ now ≤ 4503599627370496) :
    Calls Tryd.prog 39 #[.pointer (some ⟨g, 0, none⟩)] w fun e w' => ∃ rv' b, e = .returned (.slice (some ⟨b, 0, none⟩) 1 1) ∧ w.heap.size ≤ b ∧ w'.ownsRow w.heap.size 56 4 (.slice (some ⟨b, 0, none⟩) 1 1) 1 (evV [⟨1, started, 0, now⟩]) ∧
      HMid w w' B g rv.ownBlock (hcC T D fv tp now (started + 1) (nxV g (decide (started + 1 < T))) (now + D) rv' ans done code) rv' (run ++ [started]) := by
  have hM := HMid.start h hr hB
  have c0 : w.cell? ⟨g, 5, none⟩ = some (.int .i64 started) := h.cell 5
  have c1 : w.cell? ⟨g, 4, none⟩ = some (.int .i64 now) := h.cell 4
  have hgl := h.lt
  have HM := Lib.hid hM
  clear h hr hM
  go_enter Tryd.func39, Tryd.ntmps39
  go_wp2
  go_region
  have he : Blk (w.alloc (.cells #[.int .i64 1, .int .i64 started, .int .i64 0, .int .i64 now] 56)).drew w.heap.size 56 #[.int .i64 1, .int .i64 started, .int .i64 0, .int .i64 now] := (Blk.new _ _ _).drew
  have M1 := (HM.out.alloc (.cells #[.int .i64 1, .int .i64 started, .int .i64 0, .int .i64 now] 56)).drew
  have hs1 : (w.alloc (.cells #[.int .i64 1, .int .i64 started, .int .i64 0, .int .i64 now] 56)).drew.heap.size = w.heap.size + 1 := by show (w.heap.push _).size = _; simp
  generalize (w.alloc (.cells #[.int .i64 1, .int .i64 started, .int .i64 0, .int .i64 now] 56)).drew = w1 at *
  have d0 : w1.cell? ⟨g, 5, none⟩ = some (.int .i64 started) := M1.kg.cell 5
  have d8 : w1.cell? ⟨g, 8, none⟩ = some rv := M1.kg.cell 8
  have HS1 := Lib.hid hs1
  have HE := Lib.hid he
  have hg1 : g < w1.heap.size := M1.kg.lt
  have M2 := (M1.alloc (.cells #[.int .i64 started] 3)).drew
  have kn : Blk (w1.alloc (.cells #[.int .i64 started] 3)).drew w1.heap.size 3 #[.int .i64 started] := (Blk.new _ _ _).drew
  have hnw : ∀ j u, [Value.int .i64 started][j]? = some u → (w1.alloc (.cells #[.int .i64 started] 3)).drew.cell? ((⟨w1.heap.size, 0, none⟩ : Addr).add j) = some u := World.news_of_block kn
  have hone : ∀ u ∈ [Value.int .i64 started], u.oneCell' = true := fun u hu => by simp only [List.mem_cons, List.not_mem_nil, or_false] at hu; subst hu; rfl
  obtain ⟨i, hi, hi0, hi1, hi2⟩ := info_parts (P := Tryd.prog) (e := 3) (z := .int .i64 0) (size := 1) (bytes := 8) (by kernel_rfl)
  have HM2 := Lib.hid M2
  have HM1 := Lib.hid M1
  have HNW := Lib.hid hnw
  have HON := Lib.hid hone
  have HI := Lib.hid hi
  have hB2 : B ≤ (w1.alloc (.cells #[.int .i64 started] 3)).drew.heap.size := M2.hB
  have HB2 := Lib.hid hB2
  clear M1 M2 hnw hone he hs1 kn HM c0 c1 hi hB2 hgl
  go_wp2_with fail
  go_region_law ((refine step_append_lies _ rfl _ _ 22 rfl B 3 i (.int .i64 0) 1 8 Tryd.underlying22 HI.out hi0 hi1 hi2 rfl (by decide) _ run.length (intsV run) rfl HM2.out.kr ⟨w1.heap.size, 0, none⟩ 1 1 [.int .i64 started] rfl rfl HNW.out HON.out (by decide) (by unfold maxLen; omega) (by omega) HB2.out _ rfl ?_; intro gr cp w' ho hgr hat hlt; have f8 : w'.frozen? ⟨g, 8, none⟩ = false := (HM2.out.kg.grown hgr (fun e => HM2.out.ne e.symm)).frozen 8; have c8 : w'.cell? ⟨g, 8, none⟩ = some rv := (HM2.out.kg.grown hgr (fun e => HM2.out.ne e.symm)).cell 8))
  all_goals
    have hrv : (Value.slice (some ⟨gr, 0, none⟩) (run.length + 1) cp).ownBlock = rv.ownBlock ∨ (Value.slice (some ⟨gr, 0, none⟩) (run.length + 1) cp).ownBlock = none ∨ ∃ b, (Value.slice (some ⟨gr, 0, none⟩) (run.length + 1) cp).ownBlock = some b ∧ (w1.alloc (.cells #[.int .i64 started] 3)).drew.heap.size ≤ b := by
      rcases hat with e | e
      · exact Or.inl e.symm
      · exact Or.inr (Or.inr ⟨gr, rfl, Nat.le_of_eq e.symm⟩)
    have ho2 : w'.ownsRow B 3 1 (.slice (some ⟨gr, 0, none⟩) (run.length + 1) cp) (run ++ [started]).length (intsV (run ++ [started])) := by
      rw [List.length_append]
      simpa [intsV] using ho
    have M3 := (HM2.out.row ho2 hgr hrv).set 8 (.slice (some ⟨gr, 0, none⟩) (run.length + 1) cp)
    have hev : rv.ownBlock ≠ some w.heap.size := own_blk_ne HM2.out.kr ((HE.out.alloc (.cells #[.int .i64 started] 3)).drew) (by decide)
    have E3 := (((HE.out.alloc (.cells #[.int .i64 started] 3)).drew.grown hgr (fun e => hev e.symm)).far (p := ⟨g, 8, none⟩) (Blk.ne_ HE.out HM1.out.kg (by decide)) (.slice (some ⟨gr, 0, none⟩) (run.length + 1) cp))
    have HE3 := Lib.hid E3
    have HM3 := Lib.hid M3
    clear hrv ho ho2 hgr hat hlt f8 c8 M3 hev E3 HE HM2 HM1 HNW HON HI HB2 d0 d8 HS1 hg1 hi0 hi1 hi2
    generalize w'.setCell ⟨g, 8, none⟩ (.slice (some ⟨gr, 0, none⟩) (run.length + 1) cp) = w3 at *
    have d5 : w3.cell? ⟨g, 5, none⟩ = some (.int .i64 started) := HM3.out.kg.cell 5
    have f5 : w3.frozen? ⟨g, 5, none⟩ = false := HM3.out.kg.frozen 5
    go_wp2_with fail
    have M4 := HM3.out.set 5 (.int .i64 (started + 1))
    have E4 := HE3.out.far (p := ⟨g, 5, none⟩) (Blk.ne_ HE3.out HM3.out.kg (by decide)) (.int .i64 (started + 1))
    clear d5 f5 HM3 HE3
    generalize w3.setCell ⟨g, 5, none⟩ (.int .i64 (started + 1)) = w4 at *
    have d4 : w4.cell? ⟨g, 4, none⟩ = some (.int .i64 now) := M4.kg.cell 4
    have d1 : w4.cell? ⟨g, 1, none⟩ = some (.int .i64 D) := M4.kg.cell 1
    have d7 : w4.cell? ⟨g, 7, none⟩ = some (.int .i64 due) := M4.kg.cell 7
    have f7 : w4.frozen? ⟨g, 7, none⟩ = false := M4.kg.frozen 7
    have hsum : IntKind.i64.wrap (now + D) = now + D := by rw [IntKind.wrap_i64]; omega
    have HM4 := Lib.hid M4
    have HE4 := Lib.hid E4
    clear M4 E4
    go_region
    have M5 := (HM4.out.set 7 (.int .i64 (now + D))).drew
    have E5 := (HE4.out.far (p := ⟨g, 7, none⟩) (Blk.ne_ HE4.out HM4.out.kg (by decide)) (.int .i64 (now + D))).drew
    clear d4 d1 d7 f7 hsum HM4 HE4
    generalize (w4.setCell ⟨g, 7, none⟩ (.int .i64 (now + D))).drew = w5 at *
    have d6 : w5.cell? ⟨g, 6, none⟩ = some nf := M5.kg.cell 6
    have f6 : w5.frozen? ⟨g, 6, none⟩ = false := M5.kg.frozen 6
    have M6 := M5.set 6 (nxV g false)
    have E6 := E5.far (p := ⟨g, 6, none⟩) (Blk.ne_ E5 M5.kg (by decide)) (nxV g false)
    have HM6 := Lib.hid M6
    have HE6 := Lib.hid E6
    have hgl := M5.kg.lt
    clear M5 E5 M6 E6
    unfold nxV at HM6 HE6
    simp only [Bool.false_eq_true, if_false] at HM6 HE6
    go_wp2_with fail
    generalize w5.setCell ⟨g, 6, none⟩ (.func (.func 45) #[.pointer (some ⟨g, 0, none⟩)] #[]) = w6 at *
    have r5 : w6.cell? ⟨g, 5, none⟩ = some (.int .i64 (started + 1)) := HM6.out.kg.cell 5
    have r0 : w6.cell? ⟨g, 0, none⟩ = some (.int .i64 T) := HM6.out.kg.cell 0
    by_cases hT : started + 1 < T
    · go_quiet (fail)
      have M7 := HM6.out.drewN nq
      have E7 := HE6.out.drewN nq
      clear r5 r0 HM6 HE6 d6 f6 hgl
      generalize w6.drewN nq = w7 at *
      have d6 : w7.cell? ⟨g, 6, none⟩ = some (.func (.func 45) #[.pointer (some ⟨g, 0, none⟩)] #[]) := M7.kg.cell 6
      have f6 : w7.frozen? ⟨g, 6, none⟩ = false := M7.kg.frozen 6
      have hgl := M7.kg.lt
      have M8 := M7.set 6 (nxV g true)
      have E8 := E7.far (p := ⟨g, 6, none⟩) (Blk.ne_ E7 M7.kg (by decide)) (nxV g true)
      have e0 : w7.cell? ⟨w.heap.size, 0, none⟩ = some (.int .i64 1) := E7.cell 0
      have e1 : w7.cell? ⟨w.heap.size, 1, none⟩ = some (.int .i64 started) := E7.cell 1
      have e2 : w7.cell? ⟨w.heap.size, 2, none⟩ = some (.int .i64 0) := E7.cell 2
      have e3 : w7.cell? ⟨w.heap.size, 3, none⟩ = some (.int .i64 now) := E7.cell 3
      have hgne : g ≠ w.heap.size := Blk.ne_ M7.kg E7 (by decide)
      have HM8 := Lib.hid M8
      have HE8 := Lib.hid E8
      have hz8 : w.heap.size ≤ w7.heap.size := M7.up.size
      clear M7 E7 M8 E8
      unfold nxV at HM8 HE8
      simp only [if_true] at HM8 HE8
      go_wp2_with fail
      have hb : Blk ((w7.setCell ⟨g, 6, none⟩ (.func (.func 53) #[.pointer (some ⟨g, 0, none⟩)] #[])).alloc (.cells #[.int .i64 1, .int .i64 started, .int .i64 0, .int .i64 now] 56)) w7.heap.size 56 #[.int .i64 1, .int .i64 started, .int .i64 0, .int .i64 now] := Pol.blk_set_new w7 ⟨g, 6, none⟩ _ 56 _
      go_ret
      refine ⟨.slice (some ⟨gr, 0, none⟩) (run.length + 1) cp, w7.heap.size, rfl, hz8, ⟨rfl, Or.inr ⟨_, 1, _, rfl, hz8, hb, Nat.le_refl _, by decide, rfl, rfl⟩⟩, ?_⟩
      rw [decide_eq_true hT]
      exact HM8.out.alloc _
    · go_quiet (fail)
      have M7 := HM6.out.drewN nq
      have E7 := HE6.out.drewN nq
      clear r5 r0 HM6 HE6 d6 f6 hgl
      generalize w6.drewN nq = w7 at *
      have e0 : w7.cell? ⟨w.heap.size, 0, none⟩ = some (.int .i64 1) := E7.cell 0
      have e1 : w7.cell? ⟨w.heap.size, 1, none⟩ = some (.int .i64 started) := E7.cell 1
      have e2 : w7.cell? ⟨w.heap.size, 2, none⟩ = some (.int .i64 0) := E7.cell 2
      have e3 : w7.cell? ⟨w.heap.size, 3, none⟩ = some (.int .i64 now) := E7.cell 3
      have hz8 : w.heap.size ≤ w7.heap.size := M7.up.size
      have HM8 := Lib.hid M7
      clear M7 E7
      go_wp2_with fail
      have hb := Blk.new w7 56 #[.int .i64 1, .int .i64 started, .int .i64 0, .int .i64 now]
      go_ret
      refine ⟨.slice (some ⟨gr, 0, none⟩) (run.length + 1) cp, w7.heap.size, rfl, hz8, ⟨rfl, Or.inr ⟨_, 1, _, rfl, hz8, hb, Nat.le_refl _, by decide, rfl, rfl⟩⟩, ?_⟩
      rw [decide_eq_false (by omega)]
      exact HM8.out.alloc _
end Go.Proofs.YtnmcjdiihebagaaDoor.Hdg
