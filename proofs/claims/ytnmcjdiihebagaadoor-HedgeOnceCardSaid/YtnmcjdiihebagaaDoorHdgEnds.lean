/-
  The hedge's ends.
-/
import Derived.Test.YtnmcjdiihebagaaDoorHdgCancel
namespace Go.Proofs.YtnmcjdiihebagaaDoor.Hdg
open Go.RowKit
open Pol (intsV IntsAt)
theorem own_base {w : World} {base base' : Nat} {e : TypeId} {size n : Nat} {v : Value} {xs : List Value} (h : w.ownsRow base e size v n xs) (hb : base' ≤ base) : w.ownsRow base' e size v n xs := by
  refine ⟨h.1, ?_⟩
  rcases h.2 with h0 | ⟨g, cap, cur, hv, hg, rest⟩
  · exact .inl h0
  · exact .inr ⟨g, cap, cur, hv, Nat.le_trans hb hg, rest⟩
/-- the events of an end -/
def endsEvs (run : List Int) (now try_ code : Int) : List Ev := cancelEvs run (-1) now ++ [⟨3, try_, code, now⟩]
set_option maxRecDepth 100000 in
set_option maxHeartbeats 4000000 in
theorem ends_any (B g : Nat) (T D : Int) (fv tp : Value) (now started : Int) (nf : Value) (due : Int) (rv : Value) (run : List Int) (ans : Int) (done : Bool) (code : Int) (try_ cd : Int) (w : World) (h : Blk w g 91 (hcC T D fv tp now started nf due rv ans done code))
    (hr : w.ownsRow B 3 1 rv run.length (intsV run)) (hB : B ≤ w.heap.size) (hl : run.length ≤ 500) :
    Calls Tryd.prog 44 #[.pointer (some ⟨g, 0, none⟩), .int .i64 try_, .int .i64 cd] w fun e w' => ∃ rv' v, e = .returned v ∧ w'.ownsRow w.heap.size 56 4 v (endsEvs run now try_ cd).length (evV (endsEvs run now try_ cd)) ∧
      HMid w w' B g rv.ownBlock (hcC T D fv tp now started (nxV g false) due rv' ans true cd) rv' (run.filter (· == -1)) := by
  have hM := HMid.start h hr hB
  have c4 : w.cell? ⟨g, 4, none⟩ = some (.int .i64 now) := h.cell 4
  have hgl := h.lt
  have HM := Lib.hid hM
  clear h hr hM
  have hlk := cancelEvs_le run (-1) now
  have a4 : ∀ o : Obj, (w.alloc o).cell? ⟨g, 4, none⟩ = some (.int .i64 now) := fun o => (HM.out.alloc o).kg.cell 4
  obtain ⟨i, hi, hi0, hi1, hi2⟩ := info_parts (P := Tryd.prog) (e := 56) (z := .agg #[.int .i64 0, .int .i64 0, .int .i64 0, .int .i64 0]) (size := 4) (bytes := 32) (by kernel_rfl)
  have HI := Lib.hid hi
  have HON := Lib.hid (evV_one [⟨3, try_, cd, now⟩])
  clear hi
  go_enter Tryd.func44, Tryd.ntmps44
  go_wp2_with fail
  go_region_held3 (fun W : World => W.cell? ⟨g, 4, none⟩ = some (.int .i64 now))
    (first | exact c4 | exact a4 _ | exact d4 | exact (D4 _) | exact e4)
    (first
      | (go_at_call 52; refine Calls.mono (cancel_any B g T D fv tp now started nf due rv run ans done code (-1) _ (by first | exact HM.out.drew.kg | exact (HM.out.alloc _).drew.kg) (by first | exact HM.out.drew.kr | exact (HM.out.alloc _).drew.kr) (by first | exact HM.out.drew.hB | exact (HM.out.alloc _).drew.hB) hl) ?_; rintro e w2 ⟨rv', v, rfl, hev, hM2⟩; have d4 : w2.cell? ⟨g, 4, none⟩ = some (.int .i64 now) := hM2.kg.cell 4; have D4 : ∀ o : Obj, (w2.alloc o).cell? ⟨g, 4, none⟩ = some (.int .i64 now) := fun o => (hM2.alloc o).kg.cell 4)
      | (refine step_append_lies _ rfl _ _ 51 rfl w.heap.size 56 i (.agg #[.int .i64 0, .int .i64 0, .int .i64 0, .int .i64 0]) 4 32 Tryd.underlying51 HI.out hi0 hi1 hi2 rfl (by decide) _ (cancelEvs run (-1) now).length (evV (cancelEvs run (-1) now)) rfl ((own_base hev (Nat.le_refl _)).alloc (.cells #[.int .i64 3, .int .i64 try_, .int .i64 cd, .int .i64 now] 56)) ⟨w2.heap.size, 0, none⟩ 1 1 (evV [⟨3, try_, cd, now⟩]) rfl rfl (World.news_of_block (Blk.new w2 56 #[.int .i64 3, .int .i64 try_, .int .i64 cd, .int .i64 now])) HON.out (by decide) (by unfold maxLen; omega) (by omega) ((HM.out.drew.trans hM2).alloc (.cells #[.int .i64 3, .int .i64 try_, .int .i64 cd, .int .i64 now] 56)).up.size _ rfl ?_; intro gr cp w3 ho3 hg3 hat3 hlt3; have M3 := (HM.out.drew.trans hM2).alloc (.cells #[.int .i64 3, .int .i64 try_, .int .i64 cd, .int .i64 now] 56); have hne3 := own_blk_ne (((own_base hev (Nat.le_refl _)).alloc (.cells #[.int .i64 3, .int .i64 try_, .int .i64 cd, .int .i64 now] 56))) M3.kg (by decide); have M4 := M3.other hg3 hne3 (fun b hb => ⟨own_own_ne (((own_base hev (Nat.le_refl _)).alloc (.cells #[.int .i64 3, .int .i64 try_, .int .i64 cd, .int .i64 now] 56))) M3.kr (by decide) hb, ((((own_base hev (Nat.le_refl _)).alloc (.cells #[.int .i64 3, .int .i64 try_, .int .i64 cd, .int .i64 now] 56))).lt b hb).1⟩); have e4 : w3.cell? ⟨g, 4, none⟩ = some (.int .i64 now) := M4.kg.cell 4)
      | (refine step_append_lies _ rfl _ _ 51 rfl w.heap.size 56 i (.agg #[.int .i64 0, .int .i64 0, .int .i64 0, .int .i64 0]) 4 32 Tryd.underlying51 HI.out hi0 hi1 hi2 rfl (by decide) _ (cancelEvs run (-1) now).length (evV (cancelEvs run (-1) now)) rfl (own_base hev (HM.out.alloc (.cells #[.int .i64 3, .int .i64 try_, .int .i64 cd, .int .i64 now] 56)).drew.up.size) ⟨w.heap.size, 0, none⟩ 1 1 (evV [⟨3, try_, cd, now⟩]) rfl rfl (World.news_of_block (hM2.up.blk (Blk.new w 56 #[.int .i64 3, .int .i64 try_, .int .i64 cd, .int .i64 now]).drew (by rintro (e | e); omega; exact own_blk_ne (HM.out.alloc (.cells #[.int .i64 3, .int .i64 try_, .int .i64 cd, .int .i64 now] 56)).kr (Blk.new w 56 #[.int .i64 3, .int .i64 try_, .int .i64 cd, .int .i64 now]) (by decide) e))) HON.out (by decide) (by unfold maxLen; omega) (by omega) ((HM.out.alloc (.cells #[.int .i64 3, .int .i64 try_, .int .i64 cd, .int .i64 now] 56)).drew.trans hM2).up.size _ rfl ?_; intro gr cp w3 ho3 hg3 hat3 hlt3; have M3 := (HM.out.alloc (.cells #[.int .i64 3, .int .i64 try_, .int .i64 cd, .int .i64 now] 56)).drew.trans hM2; have hne3 := own_blk_ne ((own_base hev (HM.out.alloc (.cells #[.int .i64 3, .int .i64 try_, .int .i64 cd, .int .i64 now] 56)).drew.up.size)) M3.kg (by decide); have M4 := M3.other hg3 hne3 (fun b hb => ⟨own_own_ne ((own_base hev (HM.out.alloc (.cells #[.int .i64 3, .int .i64 try_, .int .i64 cd, .int .i64 now] 56)).drew.up.size)) M3.kr (by decide) hb, (((own_base hev (HM.out.alloc (.cells #[.int .i64 3, .int .i64 try_, .int .i64 cd, .int .i64 now] 56)).drew.up.size)).lt b hb).1⟩); have e4 : w3.cell? ⟨g, 4, none⟩ = some (.int .i64 now) := M4.kg.cell 4))
  all_goals
    have hE : w3.ownsRow w.heap.size 56 4 (.slice (some ⟨gr, 0, none⟩) ((cancelEvs run (-1) now).length + 1) cp) (endsEvs run now try_ cd).length (evV (endsEvs run now try_ cd)) := by
      unfold endsEvs
      rw [evV_append, List.length_append]
      exact ho3
    have HM4 := Lib.hid M4
    have HE := Lib.hid hE
    clear hE ho3 hg3 hat3 hlt3 M3 hne3 M4 e4 d4 D4 hM2 hev HM c4 a4 HI HON hgl
    have d6 : w3.cell? ⟨g, 6, none⟩ = some nf := HM4.out.kg.cell 6
    have d10 : w3.cell? ⟨g, 10, none⟩ = some (.bool done) := HM4.out.kg.cell 10
    have d11 : w3.cell? ⟨g, 11, none⟩ = some (.int .i64 code) := HM4.out.kg.cell 11
    have f6 : w3.frozen? ⟨g, 6, none⟩ = false := HM4.out.kg.frozen 6
    have f10 : w3.frozen? ⟨g, 10, none⟩ = false := HM4.out.kg.frozen 10
    have f11 : w3.frozen? ⟨g, 11, none⟩ = false := HM4.out.kg.frozen 11
    have hgl := HM4.out.kg.lt
    go_wp2_with fail
    have M7 := ((HM4.out.set 6 (nxV g false)).set 10 (.bool true)).set 11 (.int .i64 cd)
    have hk : w3.grownBy (((w3.setCell ⟨g, 6, none⟩ (nxV g false)).setCell ⟨g, 10, none⟩ (.bool true)).setCell ⟨g, 11, none⟩ (.int .i64 cd)) (some g) := only_setCell (only_setCell (only_setCell (World.grownBy.refl w3 (some g)) (Or.inl rfl) _) (Or.inl rfl) _) (Or.inl rfl) _
    have hE7 := HE.out.kept hk (Or.inr (own_blk_ne HE.out HM4.out.kg (by decide)))
    have HM7 := Lib.hid M7
    have HE7 := Lib.hid hE7
    clear M7 hE7 hk
    go_ret
    exact ⟨_, _, rfl, HE7.out, HM7.out⟩
end Go.Proofs.YtnmcjdiihebagaaDoor.Hdg
