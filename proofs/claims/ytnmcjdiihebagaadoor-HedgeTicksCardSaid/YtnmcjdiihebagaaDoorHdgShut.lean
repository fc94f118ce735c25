/-
  Failed with a throttle that is shut; the walk of the law HedgeShut.
-/
import Derived.Test.YtnmcjdiihebagaaDoorHdgFirst
namespace Go.Proofs.YtnmcjdiihebagaaDoor.Hdg
open Go.RowKit
open Pol (intsV IntsAt codeOk thrC)
set_option maxRecDepth 100000 in
set_option maxHeartbeats 4000000 in
/-- Failed of the only try, its code fine, the throttle shut -/
theorem failed_shut (B g gt : Nat) (T D : Int) (A : Option Addr) (nf cf : Nat) (fine : List Int) (now started : Int) (nx : Bool) (due : Int) (rv : Value) (ans : Int) (code : Int) (try_ cd n : Int) (tok most ratio : Int) (w : World) (h : Blk w g 91 (hcC T D (.slice A nf cf) (.pointer (some ⟨gt, 0, none⟩)) now started (nxV g nx) due rv ans false code))
    (hr : w.ownsRow B 3 1 rv [try_].length (intsV [try_])) (hB : B ≤ w.heap.size) (hBg : B ≤ g) (hBt : B ≤ gt) (hfl : fine.length = nf) (hf6 : nf ≤ 1000000) (hfx : IntsAt w A fine) (hfd : ∀ ad, A = some ad → ad.block ≠ g ∧ rv.ownBlock ≠ some ad.block) (hcd : cd ∈ fine) (hat : ans ≠ try_)
    (kt : Blk w gt 83 (thrC tok most ratio)) (htk : 0 ≤ tok ∧ tok ≤ 1000000) (hsh : 2 * tok ≤ most) :
    Calls Tryd.prog 25 #[.pointer (some ⟨g, 0, none⟩), .int .i64 try_, .int .i64 cd, .int .i64 (-1), .int .i64 n] w fun e w' => ∃ rv' v due', e = .returned v ∧ w'.ownsRow w.heap.size 56 4 v 1 (evV [⟨3, try_, cd, max now n⟩]) ∧
      Blk w' g 91 (hcC T D (.slice A nf cf) (.pointer (some ⟨gt, 0, none⟩)) (max now n) started (nxV g false) due' rv' ans true cd) ∧ w'.ownsRow B 3 1 rv' ([] : List Int).length (intsV []) ∧ Below B w w' := by
  have hM := hmid_clock h hr hB n
  have hlr := hr.lt
  have hgt : gt ≠ g := Blk.ne_ kt h (by decide)
  have hrt : rv.ownBlock ≠ some gt := own_blk_ne hr kt (by decide)
  have HC := Lib.hid (clock_any g _ _ _ _ now started _ due rv ans false code n w h)
  have HFX := Lib.hid hfx
  have HFD := Lib.hid hfd
  have HM := Lib.hid hM
  have HKT := Lib.hid kt
  have HLR := Lib.hid hlr
  clear h hr hM hfx hfd kt hlr
  go_enter Tryd.func25, Tryd.ntmps25
  go_wp2_with fail
  refine HC.out.mono ?_
  rintro e w1 ⟨rfl, rfl⟩
  generalize w.setCell ⟨g, 4, none⟩ (.int .i64 (max now n)) = w1 at *
  have c10 : w1.cell? ⟨g, 10, none⟩ = some (.bool false) := HM.out.kg.cell 10
  go_wp2_with fail
  refine (runs_yes B g _ _ _ _ _ _ _ _ rv [try_] _ _ _ try_ w1 HM.out.kg HM.out.kr HM.out.hB (by simp) (by simp)).mono ?_
  rintro e w2 ⟨k, rv2, rfl, hk, _, hM2⟩
  have hk0 : k = 0 := by simp at hk; exact hk
  subst hk0
  have HM2 := Lib.hid (HM.out.trans hM2)
  clear c10 hM2 HM HC hk
  have c9 : w2.cell? ⟨g, 9, none⟩ = some (.int .i64 ans) := HM2.out.kg.cell 9
  have c2 : w2.cell? ⟨g, 2, none⟩ = some (.slice A nf cf) := HM2.out.kg.cell 2
  have c3 : w2.cell? ⟨g, 3, none⟩ = some (.pointer (some ⟨gt, 0, none⟩)) := HM2.out.kg.cell 3
  have ht : (ans == try_) = false := beq_eq_false_iff_ne.2 hat
  have HCT := Pol.contains_any fine A nf cf cd hfl (by omega) w2 (hmid_own HM2.out HFX.out HFD.out)
  rw [decide_eq_true hcd] at HCT
  have HCT2 := Lib.hid HCT
  have kt2 := HM2.out.up.blk HKT.out (by rintro (e | e); exact hgt e; exact hrt e)
  have HFA := Lib.hid (Pol.fail_any gt tok most ratio w2 htk kt2)
  have HKT2 := Lib.hid kt2
  clear hat HCT kt2
  go_wp2_with fail
  refine HCT2.out.mono ?_
  rintro e w3 ⟨rfl, rfl⟩
  go_wp2_with fail
  refine HFA.out.mono ?_
  rintro e w3 ⟨rfl, hw3⟩
  have kt3 : Blk w3 gt 83 (thrC (max 0 (tok - 1000)) most ratio) := by rw [hw3]; exact HKT2.out.set_ 0 _
  have kg3 : Blk w3 g 91 (hcC T D (.slice A nf cf) (.pointer (some ⟨gt, 0, none⟩)) (max now n) started (nxV g nx) due rv2 ans false code) := by rw [hw3]; exact HM2.out.kg.far (p := ⟨gt, 0, none⟩) (Ne.symm hgt) _
  have kr3 : w3.ownsRow B 3 1 rv2 ([] : List Int).length (intsV []) := by
    rw [hw3]
    exact HM2.out.kr.kept (only_setCell (p := ⟨gt, 0, none⟩) (World.grownBy.refl w2 (some gt)) (Or.inl rfl) _) (Or.inr (own_blk_ne HM2.out.kr HKT2.out (by decide)))
  have hB2 := HM2.out.up.below (B := B) (fun i hi => by rcases hi with e | e; omega; exact (HLR.out i e).1) hB
  have hB3 : Below B w w3 := by rw [hw3]; exact hB2.setCell (p := ⟨gt, 0, none⟩) hBt _
  have hs3 : w.heap.size ≤ w3.heap.size := hB3.size
  have hM3 := HMid.start kg3 kr3 (Nat.le_trans hB hs3)
  have HM3 := Lib.hid hM3
  have HKT3 := Lib.hid kt3
  have HB3 := Lib.hid hB3
  have hlr3 := kr3.lt
  have HLR3 := Lib.hid hlr3
  clear hw3 kt3 kg3 kr3 hB2 hB3 hM3 hlr3 HKT2 HFA HCT2 c9 c2 c3 HM2 HKT HFX HFD HLR
  obtain ⟨tk, htk2⟩ : ∃ tk : Int, tk = max 0 (tok - 1000) := ⟨_, rfl⟩
  rw [← htk2] at HKT3
  have htk3 : 0 ≤ tk ∧ tk ≤ 1000000 ∧ 2 * tk ≤ most := by omega
  obtain ⟨Ar, capr, rfl, _⟩ := Pol.own_ints (xs := []) rfl HM3.out.kr
  clear htk2 hsh htk
  obtain ⟨m, hm⟩ : ∃ m : Int, max now n = m := ⟨_, rfl⟩
  have HMX := Lib.hid hm
  rw [hm] at HM3
  clear hm
  have hmid : ∀ (dd : Int), HMid w3 (w3.setCell ⟨g, 7, none⟩ (.int .i64 dd)).drew B g (Value.slice Ar 0 capr).ownBlock (hcC T D (.slice A nf cf) (.pointer (some ⟨gt, 0, none⟩)) m started (nxV g nx) dd (.slice Ar 0 capr) ans false code) (.slice Ar 0 capr) [] := fun dd => (HM3.out.set 7 (.int .i64 dd)).drew
  have HMD := Lib.hid hmid
  have c6 : w3.cell? ⟨g, 6, none⟩ = some (nxV g nx) := HM3.out.kg.cell 6
  have c8 : w3.cell? ⟨g, 8, none⟩ = some (.slice Ar 0 capr) := HM3.out.kg.cell 8
  have c7 : w3.cell? ⟨g, 7, none⟩ = some (.int .i64 due) := HM3.out.kg.cell 7
  have c4 : w3.cell? ⟨g, 4, none⟩ = some (.int .i64 m) := HM3.out.kg.cell 4
  have f7 : w3.frozen? ⟨g, 7, none⟩ = false := HM3.out.kg.frozen 7
  have HSM := Lib.hid (some_any g _ _ _ _ _ _ _ _ _ _ _ _ w3 HM3.out.kg)
  unfold nxV at c6
  cases nx with
  | true =>
    simp only [if_true] at c6
    go_wp2_with fail
    refine HSM.out.mono ?_
    rintro e w4 ⟨rfl, rfl⟩
    go_wp2_with fail
    go_region
    all_goals
      have HM5 := Lib.hid (HMD.out (min due m))
      have hk5 := HKT3.out.far (p := ⟨g, 7, none⟩) hgt (.int .i64 (min due m))
      have SS := starts_shut B g gt T D (.slice A nf cf) m started _ (min due m) (.slice Ar 0 capr) [] ans false code tk most ratio _ HM5.out.kg HM5.out.kr HM5.out.hB hk5.drew ⟨htk3.1, htk3.2.1⟩ htk3.2.2
      have HSS := Lib.hid SS
      clear SS hk5 c6 c8 c7 c4 f7 HSM HMD HKT3 HM3
      generalize (w3.setCell ⟨g, 7, none⟩ (.int .i64 (min due m))).drew = w5 at *
      go_wp2_with fail
      refine HSS.out.mono ?_
      rintro e w6 ⟨nx', rfl, hM6, hnx'⟩
      have hn6 : nx' = false := by
        cases nx' with
        | false => rfl
        | true => exact absurd (hnx' rfl) (by omega)
      subst hn6
      have HM6 := Lib.hid (HM5.out.trans hM6)
      have d6 : w6.cell? ⟨g, 6, none⟩ = some (.func (.func 45) #[.pointer (some ⟨g, 0, none⟩)] #[]) := hM6.kg.cell 6
      have d8 : w6.cell? ⟨g, 8, none⟩ = some (.slice Ar 0 capr) := hM6.kg.cell 8
      clear hM6 hnx' HSS HM5
      go_wp2_with fail
      refine (none_any g w6).mono ?_
      rintro e w7 ⟨rfl, rfl⟩
      have EN := Lib.hid (ends_any B g _ _ _ _ _ _ _ _ _ [] _ _ _ try_ cd w6 HM6.out.kg HM6.out.kr HM6.out.hB (by simp))
      go_wp2_with fail
      refine EN.out.mono ?_
      rintro e w8 ⟨rv8, v8, rfl, he8, hM8⟩
      obtain ⟨A8, c8, rfl, _⟩ := evs_of_own (E := [⟨3, try_, cd, m⟩]) he8
      have hR8 := Reads.of_own he8
      have HM8 := Lib.hid (HM6.out.trans hM8)
      have HR8 := Lib.hid hR8
      have HON := Lib.hid (evV_one [⟨3, try_, cd, m⟩])
      have hbs : w.heap.size ≤ w8.heap.size := Nat.le_trans hs3 HM8.out.up.size
      have hnil := World.ownsRow_nil w8 w.heap.size 56 4
      obtain ⟨i, hi, hi0, hi1, hi2⟩ := info_parts (P := Tryd.prog) (e := 56) (z := .agg #[.int .i64 0, .int .i64 0, .int .i64 0, .int .i64 0]) (size := 4) (bytes := 32) (by kernel_rfl)
      have HI := Lib.hid hi
      have HNIL := Lib.hid hnil
      have HBS := Lib.hid hbs
      have HB8 := Lib.hid (HB3.out.trans ((HM8.out.up.below (B := B) (fun i hi => by rcases hi with e | e; omega; exact (HLR3.out i e).1) (Nat.le_trans hB hs3))))
      clear hi hnil hbs hM8 he8 hR8 EN d6 d8 HM6
      go_wp2_with (refine wpList_append_any _ rfl (.tmp 129) (.tmp 133) 51 rfl w.heap.size 56 i (.agg #[.int .i64 0, .int .i64 0, .int .i64 0, .int .i64 0]) 4 32 Tryd.underlying51 HI.out hi0 hi1 hi2 rfl (by decide) _ 0 [] rfl HNIL.out w8.heap.size A8 1 c8 (evV [⟨3, try_, cd, m⟩]) rfl HR8.out HON.out (by decide) (by decide) HBS.out ?_; intro v9 w9 ho9 hg9 hat9)
      have hg9n : w8.grownBy w9 none := hg9
      have h9 := HM8.out.other hg9n (by simp) (fun b hb => by cases hb)
      have HG9 := Lib.hid h9.kg
      have HR9 := Lib.hid h9.kr
      have HO9 := Lib.hid ho9
      have HB9 := Lib.hid (HB8.out.grown hg9n (Nat.le_trans hB HBS.out) (fun k hk => by cases hk))
      clear h9 ho9 hg9 hg9n hat9 HM8 HNIL HI HR8 HB8
      go_wp2_with fail
      go_ret
      exact ⟨_, _, _, rfl, by rw [HMX.out]; exact HO9.out, by rw [HMX.out]; exact HG9.out, HR9.out, HB9.out⟩
  | false =>
    simp only [Bool.false_eq_true, if_false] at c6
    go_wp2_with fail
    refine (none_any g w3).mono ?_
    rintro e w4 ⟨rfl, rfl⟩
    go_wp2_with fail
    go_region
    all_goals
      have HM5 := Lib.hid (HMD.out (min due m))
      have hk5 := HKT3.out.far (p := ⟨g, 7, none⟩) hgt (.int .i64 (min due m))
      have SS := starts_shut B g gt T D (.slice A nf cf) m started _ (min due m) (.slice Ar 0 capr) [] ans false code tk most ratio _ HM5.out.kg HM5.out.kr HM5.out.hB hk5.drew ⟨htk3.1, htk3.2.1⟩ htk3.2.2
      have HSS := Lib.hid SS
      clear SS hk5 c6 c8 c7 c4 f7 HSM HMD HKT3 HM3
      generalize (w3.setCell ⟨g, 7, none⟩ (.int .i64 (min due m))).drew = w5 at *
      go_wp2_with fail
      refine HSS.out.mono ?_
      rintro e w6 ⟨nx', rfl, hM6, hnx'⟩
      have hn6 : nx' = false := by
        cases nx' with
        | false => rfl
        | true => exact absurd (hnx' rfl) (by omega)
      subst hn6
      have HM6 := Lib.hid (HM5.out.trans hM6)
      have d6 : w6.cell? ⟨g, 6, none⟩ = some (.func (.func 45) #[.pointer (some ⟨g, 0, none⟩)] #[]) := hM6.kg.cell 6
      have d8 : w6.cell? ⟨g, 8, none⟩ = some (.slice Ar 0 capr) := hM6.kg.cell 8
      clear hM6 hnx' HSS HM5
      go_wp2_with fail
      refine (none_any g w6).mono ?_
      rintro e w7 ⟨rfl, rfl⟩
      have EN := Lib.hid (ends_any B g _ _ _ _ _ _ _ _ _ [] _ _ _ try_ cd w6 HM6.out.kg HM6.out.kr HM6.out.hB (by simp))
      go_wp2_with fail
      refine EN.out.mono ?_
      rintro e w8 ⟨rv8, v8, rfl, he8, hM8⟩
      obtain ⟨A8, c8, rfl, _⟩ := evs_of_own (E := [⟨3, try_, cd, m⟩]) he8
      have hR8 := Reads.of_own he8
      have HM8 := Lib.hid (HM6.out.trans hM8)
      have HR8 := Lib.hid hR8
      have HON := Lib.hid (evV_one [⟨3, try_, cd, m⟩])
      have hbs : w.heap.size ≤ w8.heap.size := Nat.le_trans hs3 HM8.out.up.size
      have hnil := World.ownsRow_nil w8 w.heap.size 56 4
      obtain ⟨i, hi, hi0, hi1, hi2⟩ := info_parts (P := Tryd.prog) (e := 56) (z := .agg #[.int .i64 0, .int .i64 0, .int .i64 0, .int .i64 0]) (size := 4) (bytes := 32) (by kernel_rfl)
      have HI := Lib.hid hi
      have HNIL := Lib.hid hnil
      have HBS := Lib.hid hbs
      have HB8 := Lib.hid (HB3.out.trans ((HM8.out.up.below (B := B) (fun i hi => by rcases hi with e | e; omega; exact (HLR3.out i e).1) (Nat.le_trans hB hs3))))
      clear hi hnil hbs hM8 he8 hR8 EN d6 d8 HM6
      go_wp2_with (refine wpList_append_any _ rfl (.tmp 129) (.tmp 133) 51 rfl w.heap.size 56 i (.agg #[.int .i64 0, .int .i64 0, .int .i64 0, .int .i64 0]) 4 32 Tryd.underlying51 HI.out hi0 hi1 hi2 rfl (by decide) _ 0 [] rfl HNIL.out w8.heap.size A8 1 c8 (evV [⟨3, try_, cd, m⟩]) rfl HR8.out HON.out (by decide) (by decide) HBS.out ?_; intro v9 w9 ho9 hg9 hat9)
      have hg9n : w8.grownBy w9 none := hg9
      have h9 := HM8.out.other hg9n (by simp) (fun b hb => by cases hb)
      have HG9 := Lib.hid h9.kg
      have HR9 := Lib.hid h9.kr
      have HO9 := Lib.hid ho9
      have HB9 := Lib.hid (HB8.out.grown hg9n (Nat.le_trans hB HBS.out) (fun k hk => by cases hk))
      clear h9 ho9 hg9 hg9n hat9 HM8 HNIL HI HR8 HB8
      go_wp2_with fail
      go_ret
      exact ⟨_, _, _, rfl, by rw [HMX.out]; exact HO9.out, by rw [HMX.out]; exact HG9.out, HR9.out, HB9.out⟩
end Go.Proofs.YtnmcjdiihebagaaDoor.Hdg
