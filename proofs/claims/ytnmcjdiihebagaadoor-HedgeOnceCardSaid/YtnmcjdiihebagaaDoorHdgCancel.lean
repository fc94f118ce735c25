/-
  The hedge's cancel and ends.
-/
import Derived.Test.YtnmcjdiihebagaaDoorHdgDel
namespace Go.Proofs.YtnmcjdiihebagaaDoor.Hdg
open Go.RowKit
open Pol (intsV IntsAt)
set_option maxRecDepth 100000 in
theorem indexfunc_nil (fn : Value) (w : World) :
    Calls Tryd.prog 58 #[.slice none 0 0, fn] w fun e w' => e = .returned (.int .i64 (-1)) ∧ w = w' := by
  go_enter Tryd.func58, Tryd.ntmps58
  go_wp2
  refine wp_loop_rounds 1 ?_
  rw [rounds_succ]
  go_wp2
  go_ret
  exact ⟨rfl, rfl⟩
set_option maxRecDepth 100000 in
theorem deletefunc_nil (fn : Value) (w : World) :
    Calls Tryd.prog 56 #[.slice none 0 0, fn] w fun e w' => e = .returned (.slice none 0 0) ∧ w = w' := by
  go_enter Tryd.func56, Tryd.ntmps56
  go_wp2_with fail
  refine (indexfunc_nil fn w).mono ?_
  rintro e w' ⟨rfl, rfl⟩
  go_wp2_with fail
  go_ret
  exact ⟨rfl, rfl⟩
/-- the events of the tries that are cancelled -/
def cancelEvs (run : List Int) (but now : Int) : List Ev := (run.filter (fun x => !(x == but))).map fun t => ⟨2, t, 0, now⟩
theorem cancelEvs_length (run : List Int) (but now : Int) : (cancelEvs run but now).length = (run.filter (fun x => !(x == but))).length := by simp [cancelEvs]
theorem cancelEvs_le (run : List Int) (but now : Int) : (cancelEvs run but now).length ≤ run.length := by rw [cancelEvs_length]; exact List.length_filter_le _ _
theorem cancelEvs_snoc (run : List Int) (k : Nat) (but now : Int) (hk : k < run.length) : cancelEvs (run.take (k + 1)) but now = cancelEvs (run.take k) but now ++ (if run.getD k 0 == but then [] else [⟨2, run.getD k 0, 0, now⟩]) := by
  unfold cancelEvs
  rw [List.take_succ_eq_append_getElem hk, List.filter_append, List.map_append]
  have : run.getD k 0 = run[k] := by simp [List.getD, List.getElem?_eq_getElem hk]
  rw [this]
  cases h : (run[k] == but) <;> simp [h]
set_option maxRecDepth 100000 in
set_option maxHeartbeats 4000000 in
theorem cancel_any (B g : Nat) (T D : Int) (fv tp : Value) (now started : Int) (nf : Value) (due : Int) (rv : Value) (run : List Int) (ans : Int) (done : Bool) (code : Int) (but : Int) (w : World) (h : Blk w g 91 (hcC T D fv tp now started nf due rv ans done code))
    (hr : w.ownsRow B 3 1 rv run.length (intsV run)) (hB : B ≤ w.heap.size) (hl : run.length ≤ 500) :
    Calls Tryd.prog 52 #[.pointer (some ⟨g, 0, none⟩), .int .i64 but] w fun e w' => ∃ rv' v, e = .returned v ∧ w'.ownsRow w.heap.size 56 4 v (cancelEvs run but now).length (evV (cancelEvs run but now)) ∧
      HMid w w' B g rv.ownBlock (hcC T D fv tp now started nf due rv' ans done code) rv' (run.filter (· == but)) := by
  have hM := (HMid.start h hr hB).alloc (.cells #[.int .i64 but] 3)
  have hkb := Blk.new w 3 #[.int .i64 but]
  have c8 : w.cell? ⟨g, 8, none⟩ = some rv := h.cell 8
  have hgl := h.lt
  have hrl := hr.lt
  obtain ⟨A, cap, rfl, _⟩ := Pol.own_ints rfl hr
  have HM := Lib.hid hM
  have HKB := Lib.hid hkb
  have HRL := Lib.hid hrl
  clear h hr hM hkb hrl
  go_enter Tryd.func52, Tryd.ntmps52
  go_wp2_with fail
  go_loopw [5, 13] (fun l i wr => ∃ k : Nat, k ≤ run.length ∧ i = .int .i64 (k : Int) ∧ wr.ownsRow w.heap.size 56 4 l (cancelEvs (run.take k) but now).length (evV (cancelEvs (run.take k) but now)) ∧ Blk wr w.heap.size 3 #[.int .i64 but] ∧
      HMid w wr B g (Value.slice A run.length cap).ownBlock (hcC T D fv tp now started nf due (.slice A run.length cap) ans done code) (.slice A run.length cap) run) (fun _ i _ => run.length - (intOf i).toNat)
  case atStart => exact ⟨0, Nat.zero_le _, rfl, by simpa [cancelEvs, evV] using World.ownsRow_nil _ _ _ _, HKB.out, HM.out⟩
  case round =>
    obtain ⟨k, hk, rfl, hev, hkb, hM⟩ := hrel
    clear HM HKB c8
    by_cases hlt : k < run.length
    · obtain ⟨A2, cap2, e2, hx⟩ := Pol.own_ints rfl hM.kr
      injection e2 with e2 _ e3
      subst e2 e3
      obtain ⟨b, off, rfl, hb, hc⟩ := hx k hlt
      have hsn := cancelEvs_snoc run k but now hlt
      obtain ⟨x, hx0⟩ : ∃ x, run.getD k 0 = x := ⟨_, rfl⟩
      rw [hx0] at hc hsn
      have hle := cancelEvs_le (run.take k) but now
      have hle2 : (run.take k).length ≤ k := List.length_take_le _ _
      have hlk : (cancelEvs (run.take k) but now).length ≤ 500 := by omega
      have kb0 : wr.cell? ⟨w.heap.size, 0, none⟩ = some (.int .i64 but) := hkb.cell 0
      have k4 : wr.cell? ⟨g, 4, none⟩ = some (.int .i64 now) := hM.kg.cell 4
      have hgl2 := hM.kg.lt
      have HSN := Lib.hid hsn
      have HM := Lib.hid hM
      have HEV := Lib.hid hev
      have HKB := Lib.hid hkb
      clear hsn hM hev hkb hx0 hx hle hle2
      by_cases hxb : x = but
      · have ht : (x == but) = true := by rw [hxb]; simp
        have hs2 := HSN.out
        rw [ht, if_pos rfl, List.append_nil] at hs2
        have HS2 := Lib.hid hs2
        have ht2 : (x != but) = false := by simp [hxb]
        clear hs2 hxb ht HSN
        go_wp2_with fail
        go_roundw
        case rel => exact ⟨k + 1, by omega, by go_num, by rw [HS2.out]; exact HEV.out, HKB.out, HM.out⟩
        case measure => simp [intOf]; omega
      · have ht : (x == but) = false := beq_eq_false_iff_ne.2 hxb
        have hs2 := HSN.out
        rw [ht] at hs2
        simp only [Bool.false_eq_true, if_false] at hs2
        have HS2 := Lib.hid hs2
        have ht2 : (x != but) = true := by simp [hxb]
        have hkn : Blk (wr.alloc (.cells #[.int .i64 2, .int .i64 x, .int .i64 0, .int .i64 now] 56)) wr.heap.size 56 #[.int .i64 2, .int .i64 x, .int .i64 0, .int .i64 now] := Blk.new _ _ _
        have hR : Reads (wr.alloc (.cells #[.int .i64 2, .int .i64 x, .int .i64 0, .int .i64 now] 56)) (wr.heap.size + 1) 4 (some ⟨wr.heap.size, 0, none⟩) 1 (evV [⟨2, x, 0, now⟩]) := ⟨rfl, fun _ => ⟨_, rfl, by simp, World.news_of_block hkn⟩⟩
        have hone := evV_one [⟨2, x, 0, now⟩]
        have hown := HEV.out.alloc (.cells #[.int .i64 2, .int .i64 x, .int .i64 0, .int .i64 now] 56)
        have hM2 := HM.out.alloc (.cells #[.int .i64 2, .int .i64 x, .int .i64 0, .int .i64 now] 56)
        have hkb2 := HKB.out.alloc (.cells #[.int .i64 2, .int .i64 x, .int .i64 0, .int .i64 now] 56)
        have hbs : w.heap.size ≤ (wr.alloc (.cells #[.int .i64 2, .int .i64 x, .int .i64 0, .int .i64 now] 56)).heap.size := hM2.up.size
        obtain ⟨i, hi, hi0, hi1, hi2⟩ := info_parts (P := Tryd.prog) (e := 56) (z := .agg #[.int .i64 0, .int .i64 0, .int .i64 0, .int .i64 0]) (size := 4) (bytes := 32) (by kernel_rfl)
        have HI := Lib.hid hi
        have HR := Lib.hid hR
        have HON := Lib.hid hone
        have HOW := Lib.hid hown
        have HM2 := Lib.hid hM2
        have HKB2 := Lib.hid hkb2
        have HBS := Lib.hid hbs
        clear hs2 hxb ht HSN hkn hR hone hown hM2 hkb2 hbs hi HM HKB HEV
        go_wp2_with (refine wpList_append_any _ rfl (.tmp 20) (.tmp 27) 51 rfl w.heap.size 56 i (.agg #[.int .i64 0, .int .i64 0, .int .i64 0, .int .i64 0]) 4 32 Tryd.underlying51 HI.out hi0 hi1 hi2 rfl (by decide) _ (cancelEvs (run.take k) but now).length (evV (cancelEvs (run.take k) but now)) rfl HOW.out (wr.heap.size + 1) (some ⟨wr.heap.size, 0, none⟩) 1 1 (evV [⟨2, x, 0, now⟩]) rfl HR.out HON.out (by unfold maxLen; omega) (by omega) HBS.out ?_; intro v6 w6 ho6 hg6 hat6)
        have hE6 : w6.ownsRow w.heap.size 56 4 v6 (cancelEvs (run.take (k + 1)) but now).length (evV (cancelEvs (run.take (k + 1)) but now)) := by rw [HS2.out, evV_append, List.length_append]; exact ho6
        have hM6 := HM2.out.other hg6 (own_blk_ne HOW.out HM2.out.kg (by decide)) (fun b hb => ⟨own_own_ne HOW.out HM2.out.kr (by decide) hb, (HOW.out.lt b hb).1⟩)
        have hkb6 := HKB2.out.grown hg6 (fun e => own_blk_ne HOW.out HKB2.out (by decide) e.symm)
        have HM6 := Lib.hid hM6
        have HE6 := Lib.hid hE6
        have HK6 := Lib.hid hkb6
        clear hM6 hE6 hkb6 ho6 hg6 hat6 HM2 HOW HR HON HI HKB2 HBS
        go_roundw
        case rel => exact ⟨k + 1, by omega, by go_num, HE6.out, HK6.out, HM6.out⟩
        case measure => simp [intOf]; omega
    · have hkn : k = run.length := by omega
      have htk : run.take k = run := List.take_of_length_le (by omega)
      rw [htk] at hev
      have c8 : wr.cell? ⟨g, 8, none⟩ = some (.slice A run.length cap) := hM.kg.cell 8
      have f8 : wr.frozen? ⟨g, 8, none⟩ = false := hM.kg.frozen 8
      have hgl2 := hM.kg.lt
      have hkr := hM.kr
      have HM := Lib.hid hM
      have HEV := Lib.hid hev
      have HKB := Lib.hid hkb
      clear hM hev hkb htk
      rcases hkr.2 with ⟨e, e0⟩ | ⟨g0, cap0, cur, e, _, hg0, _⟩
      · injection e with e1 _ e3
        subst e1 e3
        have hrn : run = [] := List.eq_nil_of_length_eq_zero e0
        subst hrn
        have DF := deletefunc_nil (.func (.func 57) #[] #[.pointer (some ⟨w.heap.size, 0, none⟩)]) wr
        have HDF := Lib.hid DF
        clear DF hkr
        go_wp2_with fail
        refine HDF.out.mono ?_
        rintro e w2 ⟨rfl, rfl⟩
        have HM3 := Lib.hid (HM.out.set 8 (.slice none 0 0))
        have HE3 := Lib.hid (HEV.out.kept (only_setCell (p := ⟨g, 8, none⟩) (World.grownBy.refl wr (some g)) (Or.inl rfl) (.slice none 0 0)) (Or.inr (own_blk_ne HEV.out HM.out.kg (by decide))))
        clear HM HDF HKB HEV
        go_wp2_with fail
        go_ret
        exact ⟨_, _, rfl, HE3.out, HM3.out⟩
      · injection e with e1 _ e3
        subst e1 e3
        have hg0w := (HRL.out g0 rfl).2
        have hbs : w.heap.size < wr.heap.size := HKB.out.lt
        have DF := deletefunc_any but hkr hbs (by omega) (HKB.out.cell 0)
        have HDF := Lib.hid DF
        clear DF hkr hg0
        go_wp2_with fail
        refine HDF.out.mono ?_
        rintro e w2 ⟨rfl, ho2, hg2⟩
        have hM2 := HM.out.row ho2 hg2 (Or.inl rfl)
        have hev2 := HEV.out.kept hg2 (by
          rcases hv : Value.ownBlock _ with _ | b
          · exact Or.inl rfl
          · exact Or.inr (fun e => own_own_ne HEV.out HM.out.kr (by decide) hv e.symm))
        have d8 : w2.cell? ⟨g, 8, none⟩ = some (.slice (some ⟨g0, 0, none⟩) run.length cap) := hM2.kg.cell 8
        have e8 : w2.frozen? ⟨g, 8, none⟩ = false := hM2.kg.frozen 8
        have hgl3 := hM2.kg.lt
        have hev3 := hev2.kept (only_setCell (p := ⟨g, 8, none⟩) (World.grownBy.refl w2 (some g)) (Or.inl rfl) (.slice (some ⟨g0, 0, none⟩) (run.filter (· == but)).length cap)) (Or.inr (own_blk_ne hev2 hM2.kg (by decide)))
        have HM3 := Lib.hid (hM2.set 8 (.slice (some ⟨g0, 0, none⟩) (run.filter (· == but)).length cap))
        have HE3 := Lib.hid hev3
        clear HM HDF HKB hM2 hev2 hev3 ho2 hg2 c8 f8 HEV
        go_wp2_with fail
        go_ret
        exact ⟨_, _, rfl, HE3.out, HM3.out⟩
end Go.Proofs.YtnmcjdiihebagaaDoor.Hdg
