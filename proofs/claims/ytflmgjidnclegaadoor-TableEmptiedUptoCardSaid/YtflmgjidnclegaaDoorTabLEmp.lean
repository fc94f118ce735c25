/-
  The law TableEmptied returns true.
-/
import Derived.Test.YtflmgjidnclegaaDoorTabCals
import Derived.Outline
namespace Go.Proofs.YtflmgjidnclegaaDoor.Tab
open Go.RowKit
theorem shr_zero (Q : List Hd) : shr 0 Q = [] := by
  induction Q with
  | nil => rfl
  | cons h t ih => rw [shr_go (by simp only [tot, hsz]; omega), ih]
/-- where the first loop stands: one table with whatever, the other one new -/
def EmpOne (w : World) (B ga ra gb rb m : Nat) (wr : World) : Prop := ∃ (o : Nat) (Q : List Hd), Tbl wr ga ra o Q m ∧ Tbl wr gb rb 0 [] m ∧ Below B w wr
/-- where the second loop stands: both have the same -/
def EmpTwo (w : World) (B ga ra gb rb m : Nat) (wr : World) : Prop := ∃ (oa ob : Nat) (Q : List Hd), Tbl wr ga ra oa Q m ∧ Tbl wr gb rb ob Q m ∧ Below B w wr
set_option maxRecDepth 100000 in
set_option maxHeartbeats 2000000 in
theorem lemptied_any (n : Int) (A1 A2 : Option Addr) (cap1 cap2 : Nat) (l1 l2 : List Cal) (ask : Int) (hl1 : l1.length ≤ 4611686018427387904) (hl2 : l2.length ≤ 4611686018427387904) (hs1 : Small l1) (hs2 : Small l2)
    (M : Int) (w : World) (hM : w.cell? ⟨6, 0, none⟩ = some (.int .i64 M)) (h1 : CalsAt w A1 l1) (h2 : CalsAt w A2 l2) :
    Calls Tryd.prog 4 #[.int .i64 n, .slice A1 l1.length cap1, .slice A2 l2.length cap2, .int .i64 ask] w fun e w' => e = .returned (.bool true) ∧ Below w.heap.size w w' := by
  have HM := Lib.hid (fun (W : World) (hb : Below w.heap.size w W) => (Below.cell hb (p := ⟨6, 0, none⟩) (cell_in hM)).trans hM)
  have H1 := Lib.hid (fun (W : World) (hb : Below w.heap.size w W) => h1.below hb)
  have H2 := Lib.hid (fun (W : World) (hb : Below w.heap.size w W) => h2.below hb)
  have HF := Lib.hid (first_any M w hM)
  have HS1 := Lib.hid hs1
  have HS2 := Lib.hid hs2
  obtain ⟨B, hB⟩ : ∃ B, B = w.heap.size := ⟨_, rfl⟩
  have hle : B ≤ w.heap.size := Nat.le_of_eq hB
  rw [← hB] at H1 H2 HM HF ⊢
  clear hM h1 h2 hB hs1 hs2
  go_enter Tryd.func4, Tryd.ntmps4
  go_wp2_with fail
  refine HF.out.mono ?_
  rintro e w1 ⟨rfl, hb1⟩
  clear HF
  go_wp2_with fail
  refine (light_any A1 cap1 l1 hl1 w1 (H1.out w1 hb1)).mono ?_
  rintro e w2 ⟨b1, rfl, hx⟩
  have hb2 := hb1.trans (hx.mono (Nat.le_trans hle hb1.size))
  clear hb1 hx
  rcases b1 with _ | _
  · go_wp2_with fail
    go_ret
    exact ⟨rfl, hb2⟩
  go_wp2_with fail
  refine (light_any A2 cap2 l2 hl2 w2 (H2.out w2 hb2)).mono ?_
  rintro e w3 ⟨b2, rfl, hx⟩
  have hb3 := hb2.trans (hx.mono (Nat.le_trans hle hb2.size))
  clear hb2 hx
  rcases b2 with _ | _
  · go_wp2_with fail
    go_ret
    exact ⟨rfl, hb3⟩
  by_cases hn : n < 0 ∨ 4096 < n
  · go_wp2_with fail
    refine (can_no n hn _).mono ?_
    rintro e w4 ⟨rfl, rfl⟩
    clear hn
    go_wp2_with fail
    go_ret
    exact ⟨rfl, hb3⟩
  obtain ⟨m, rfl⟩ : ∃ m : Nat, n = (m : Int) := ⟨n.toNat, by omega⟩
  have hm : m ≤ 4096 := by omega
  clear hn
  go_wp2_with fail
  refine (can_yes m hm _).mono ?_
  rintro e w4 ⟨rfl, rfl⟩
  go_wp2_with fail
  refine (new_yes m hm w3).mono ?_
  rintro e w5 ⟨rfl, hx, hTa⟩
  have hb5 := hb3.trans (hx.mono (Nat.le_trans hle hb3.size))
  have hga : B ≤ w3.heap.size := Nat.le_trans hle hb3.size
  clear hb3 hx
  generalize hra : w3.heap.size = ra at *
  clear hra
  go_wp2_with fail
  refine (new_yes m hm w5).mono ?_
  rintro e w6 ⟨rfl, hx, hTb⟩
  have hTa6 := hTa.below hx
  have hb6 := hb5.trans (hx.mono (Nat.le_trans hle hb5.size))
  have hgab : ra + 1 < w5.heap.size := hTa.kg.lt
  clear hb5 hx hTa
  generalize hrb : w5.heap.size = rb at *
  clear hrb
  have H0 := Lib.hid (⟨0, [], hTa6, hTb, hb6⟩ : EmpOne w B (ra + 1) ra (rb + 1) rb m w6)
  clear hTa6 hTb hb6
  go_wp2_with fail
  go_loopw [14] (fun i wr => ∃ j : Nat, i = .int .i64 (j : Int) ∧ j ≤ l1.length ∧ EmpOne w B (ra + 1) ra (rb + 1) rb m wr) (fun i _ => l1.length - (intOf i).toNat)
  case atStart => exact ⟨0, rfl, by omega, H0.out⟩
  case round =>
    clear H0
    obtain ⟨j, rfl, hj, o, Q, hTa, hTb, hb⟩ := hrel
    by_cases hlt : j < l1.length
    · obtain ⟨c, hc⟩ : ∃ c, l1[j]? = some c := ⟨_, List.getElem?_eq_getElem hlt⟩
      obtain ⟨b, off, rfl, _, c0, c1, c2, c3, c4⟩ := H1.out wr hb j c hc
      have hsz : hsz c.hd ≤ 4611686018427387904 := HS1.out c (List.mem_of_getElem? hc)
      have HTA := Lib.hid hTa
      have HTB := Lib.hid hTb
      have HB := Lib.hid hb
      clear hc hTa hTb hb c1
      have hd1 : decide ((j : Int) < (l1.length : Int)) = true := decide_eq_true (by omega)
      by_cases hk : c.kind = 1
      · rw [hk] at c0
        clear hk
        go_wp2_with fail
        refine (add_any HTA.out c.name c.value c.never hsz).mono ?_
        rintro e w7 ⟨rfl, o', hT', hu⟩
        have hTb' := HTB.out.upd hu (by omega) (by omega)
        have hb' := below_upd HB.out hu (by rintro i (rfl | rfl) <;> omega) hle
        clear hu c0 c2 c3 c4
        go_wp2_with fail
        go_roundw
        case rel => exact ⟨j + 1, by go_num, by omega, o', _, hT', hTb', hb'⟩
        case measure => simp [intOf]; omega
      · have hk' : (c.kind == 1) = false := by simpa using hk
        clear hk
        go_wp2_with fail
        go_roundw
        case rel => exact ⟨j + 1, by go_num, by omega, o, Q, HTA.out, HTB.out, HB.out⟩
        case measure => simp [intOf]; omega
    · have hd1 : decide ((j : Int) < (l1.length : Int)) = false := decide_eq_false (by omega)
      have HTA := Lib.hid hTa
      have HTB := Lib.hid hTb
      have HB := Lib.hid hb
      clear hTa hTb hb
      go_wp2_with fail
      refine (resize_yes HTA.out 0 (by omega)).mono ?_
      rintro e w8 ⟨rfl, o2, hT, hu⟩
      rw [show ((0 : Nat) : Int) = 0 from rfl, shr_zero] at hT
      have hTb := HTB.out.upd hu (by omega) (by omega)
      have hb8 := below_upd HB.out hu (by rintro i (rfl | rfl) <;> omega) hle
      clear hu HTA HTB HB
      have HLen := Lib.hid (len_any hT)
      have HSiz := Lib.hid (tsize_any hT)
      have HRes := Lib.hid (resize_yes hT m hm)
      clear hT
      go_wp2_with fail
      refine HLen.out.mono ?_
      rintro e w9 ⟨rfl, rfl⟩
      go_wp2_with fail
      refine HSiz.out.mono ?_
      rintro e w9 ⟨rfl, rfl⟩
      rw [show tot [] = 0 from rfl]
      go_wp2_with fail
      refine HRes.out.mono ?_
      rintro e w9 ⟨rfl, o3, hT, hu⟩
      rw [show shr (m : Int) [] = [] from rfl] at hT
      have hTb9 := hTb.upd hu (by omega) (by omega)
      have hb9 := below_upd hb8 hu (by rintro i (rfl | rfl) <;> omega) hle
      clear hu HLen HSiz HRes hTb hb8
      have H0 := Lib.hid (⟨o3, 0, [], hT, hTb9, hb9⟩ : EmpTwo w B (ra + 1) ra (rb + 1) rb m w9)
      clear hT hTb9 hb9
      go_wp2_with fail
      go_loopw [15] (fun i wr => ∃ j : Nat, i = .int .i64 (j : Int) ∧ j ≤ l2.length ∧ EmpTwo w B (ra + 1) ra (rb + 1) rb m wr) (fun i _ => l2.length - (intOf i).toNat)
      case atStart => exact ⟨0, rfl, by omega, H0.out⟩
      case round =>
        clear H0
        obtain ⟨j2, rfl, hj2, oa, ob, Q2, hTa, hTb, hb⟩ := hrel
        by_cases hlt2 : j2 < l2.length
        · obtain ⟨c, hc⟩ : ∃ c, l2[j2]? = some c := ⟨_, List.getElem?_eq_getElem hlt2⟩
          obtain ⟨b, off, rfl, _, c0, c1, c2, c3, c4⟩ := H2.out _ hb j2 c hc
          have hsz : hsz c.hd ≤ 4611686018427387904 := HS2.out c (List.mem_of_getElem? hc)
          have HTA := Lib.hid hTa
          have HTB := Lib.hid hTb
          have HB := Lib.hid hb
          have hd2 : decide ((j2 : Int) < (l2.length : Int)) = true := decide_eq_true (by omega)
          by_cases hk : c.kind = 1
          · rw [hk] at c0
            clear hk hTa hTb hb c1
            go_wp2_with fail
            refine (add_any HTA.out c.name c.value c.never hsz).mono ?_
            rintro e w10 ⟨rfl, oa', hTa', hu⟩
            have hTb' := HTB.out.upd hu (by omega) (by omega)
            have hb' := below_upd HB.out hu (by rintro i (rfl | rfl) <;> omega) hle
            obtain ⟨b', off', hA', _, _, _, k2, k3, k4⟩ := H2.out _ hb' j2 c hc
            obtain ⟨rfl, rfl⟩ : b = b' ∧ off = off' := by injection hA' with hA'; injection hA' with x y; exact ⟨x, y⟩
            have HTB' := Lib.hid hTb'
            have HTA' := Lib.hid hTa'
            have HB' := Lib.hid hb'
            clear hu c0 c2 c3 c4 hA' hTb' hTa' hb' HTA HTB HB hc
            go_wp2_with fail
            refine (add_any HTB'.out c.name c.value c.never hsz).mono ?_
            rintro e w11 ⟨rfl, ob', hTb', hu⟩
            have hTa' := HTA'.out.upd hu (by omega) (by omega)
            have hb' := below_upd HB'.out hu (by rintro i (rfl | rfl) <;> omega) hle
            clear hu k2 k3 k4
            go_wp2_with fail
            go_roundw
            case rel => exact ⟨j2 + 1, by go_num, by omega, oa', ob', _, hTa', hTb', hb'⟩
            case measure => simp [intOf]; omega
          · have hk' : (c.kind == 1) = false := by simpa using hk
            clear hk hTa hTb hb c1 hc
            go_wp2_with fail
            go_roundw
            case rel => exact ⟨j2 + 1, by go_num, by omega, oa, ob, Q2, HTA.out, HTB.out, HB.out⟩
            case measure => simp [intOf]; omega
        · have hd2 : decide ((j2 : Int) < (l2.length : Int)) = false := decide_eq_false (by omega)
          have HTA := Lib.hid hTa
          have HTB := Lib.hid hTb
          have HB := Lib.hid hb
          have ha := get_any hTa ask M (HM.out _ hb)
          clear hTa hTb hb
          have HG := Lib.hid (fun (W : World) (hx : Tbl W (rb + 1) rb ob Q2 m) (hy : Below B w W) => get_any hx ask M (HM.out W hy))
          unfold hdR at ha HG
          generalize hdN (getAt Q2 ask) = xn at *
          generalize hdV (getAt Q2 ask) = xv at *
          generalize (getAt Q2 ask).isSome = xb at *
          have HA := Lib.hid ha
          clear ha
          go_wp2_with fail
          refine HA.out.mono ?_
          rintro e w12 ⟨rfl, hx⟩
          have hTa := HTA.out.below hx
          have hTb := HTB.out.below hx
          have hb12 := HB.out.trans (hx.mono (Nat.le_trans hle HB.out.size))
          clear HA HTA HTB HB hx
          go_wp2_with fail
          have hx := (Below.refl w12.heap.size w12).alloc (Nat.le_refl _) (.cells #[.string xn, .string xv, .bool false] 23)
          have hTa13 := hTa.below hx
          have hTb13 := hTb.below hx
          have hk13 := Blk.new w12 23 #[.string xn, .string xv, .bool false]
          have hb13 := hb12.trans (hx.mono (Nat.le_trans hle hb12.size))
          clear hTa hTb hb12 hx
          generalize w12.alloc (.cells #[.string xn, .string xv, .bool false] 23) = W13 at *
          generalize w12.heap.size = p at *
          refine (HG.out W13 hTb13 hb13).mono ?_
          rintro e w14 ⟨rfl, hx⟩
          have hTa14 := hTa13.below hx
          have hTb14 := hTb13.below hx
          have hk14 := hk13.below hx hk13.lt
          have hb14 := hb13.trans (hx.mono (Nat.le_trans hle hb13.size))
          clear hTa13 hTb13 hk13 hb13 hx HG
          have hx := (Below.refl w14.heap.size w14).alloc (Nat.le_refl _) (.cells #[.string xn, .string xv, .bool false] 23)
          have hTa15 := hTa14.below hx
          have hTb15 := hTb14.below hx
          have hk15 := hk14.below hx hk14.lt
          have hb15 := hb14.trans (hx.mono (Nat.le_trans hle hb14.size))
          have a0 : (w14.alloc (.cells #[.string xn, .string xv, .bool false] 23)).cell? ⟨p, 0, none⟩ = some (.string xn) := hk15.cell 0
          have a1 : (w14.alloc (.cells #[.string xn, .string xv, .bool false] 23)).cell? ⟨p, 1, none⟩ = some (.string xv) := hk15.cell 1
          have a2 : (w14.alloc (.cells #[.string xn, .string xv, .bool false] 23)).cell? ⟨p, 2, none⟩ = some (.bool false) := hk15.cell 2
          clear hTa14 hTb14 hk14 hb14 hx hk15
          go_wp2_with fail
          refine (same_header_any xn xv false _).mono ?_
          rintro e w16 ⟨rfl, hx⟩
          have hTa16 := hTa15.below hx
          have hTb16 := hTb15.below hx
          have hb16 := hb15.trans (hx.mono (Nat.le_trans hle hb15.size))
          have L1 := Lib.hid (len_any hTa16)
          have L2 := Lib.hid (len_any hTb16)
          have S1 := Lib.hid (tsize_any hTa16)
          have S2 := Lib.hid (tsize_any hTb16)
          clear hTa15 hTb15 hb15 hx a0 a1 a2 hTa16 hTb16
          go_wp2_with fail
          refine L1.out.mono ?_
          rintro e w17 ⟨rfl, rfl⟩
          go_wp2_with fail
          refine L2.out.mono ?_
          rintro e w17 ⟨rfl, rfl⟩
          go_wp2_with fail
          refine S1.out.mono ?_
          rintro e w17 ⟨rfl, rfl⟩
          go_wp2_with fail
          refine S2.out.mono ?_
          rintro e w17 ⟨rfl, rfl⟩
          go_wp2_with fail
          go_ret
          exact ⟨rfl, hb16⟩
end Go.Proofs.YtflmgjidnclegaaDoor.Tab
