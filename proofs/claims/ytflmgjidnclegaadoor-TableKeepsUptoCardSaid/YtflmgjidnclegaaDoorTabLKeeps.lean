/-
  The law TableKeeps returns true.
-/
import Derived.Test.YtflmgjidnclegaaDoorTabCals
import Derived.Test.YtflmgjidnclegaaDoorTabPlain
import Derived.Deep.RegionLaw
import Derived.Deep.AppendLies
namespace Go.Proofs.YtflmgjidnclegaaDoor.Tab
open Go.RowKit
theorem add_pl (b o j : Nat) : (⟨b, o, none⟩ : Addr).add j = ⟨b, o + j, none⟩ := by
  unfold Addr.add
  split
  · rename_i h; rw [h, Nat.add_zero]
  · rfl
/-- where the loop over the calls stands: the table, and the row of all that was added -/
def KeepMid (w : World) (B g r j : Nat) (A : Option Addr) (n c : Nat) (W : World) : Prop := ∃ (o : Nat) (Q : List Hd) (m : Nat) (xs : List Value), Tbl W g r o Q m ∧ tot Q ≤ m ∧ Below B w W ∧
  W.ownsRow B 23 3 (.slice A n c) n xs ∧ n ≤ j ∧ Q.length ≤ n ∧ (Value.slice A n c).ownBlock ≠ some r
theorem KeepMid.since {w W W' : World} {B g r j n c : Nat} {A : Option Addr} (h : KeepMid w B g r j A n c W) (hb : Since W W') (hB : B ≤ w.heap.size) : KeepMid w B g r j A n c W' := by
  obtain ⟨o, Q, m, xs, hT, hQ, hb0, hO, hn, hl, hv⟩ := h
  refine ⟨o, Q, m, xs, hT.below hb, hQ, hb0.trans (Below.mono hb (Nat.le_trans hB hb0.size)), hO.kept (only_of_below hb none) (by rcases hv : (Value.slice A n c).ownBlock with _ | b <;> simp), hn, hl, hv⟩
theorem KeepMid.le {w W : World} {B g r j j' n c : Nat} {A : Option Addr} (h : KeepMid w B g r j A n c W) (hj : j ≤ j') : KeepMid w B g r j' A n c W := by
  obtain ⟨o, Q, m, xs, hT, hQ, hb0, hO, hn, hl, hv⟩ := h
  exact ⟨o, Q, m, xs, hT, hQ, hb0, hO, by omega, hl, hv⟩
theorem KeepMid.upd {w W W' : World} {B g r j n c o o' m m' : Nat} {Q Q' : List Hd} {xs : List Value} {A : Option Addr} (hb : Below B w W) (hO : W.ownsRow B 23 3 (.slice A n c) n xs) (hn : n ≤ j) (hl : Q.length ≤ n) (hv : (Value.slice A n c).ownBlock ≠ some r)
    (hT : Tbl W g r o Q m) (hT' : Tbl W' g r o' Q' m') (hu : Upd3 W W' (fun i => i = g ∨ i = r)) (hQ : tot Q' ≤ m') (hl' : Q'.length ≤ Q.length) (hg : B ≤ g) (hr : B ≤ r) (hB : B ≤ w.heap.size) : KeepMid w B g r j A n c W' :=
  ⟨o', Q', m', xs, hT', hQ, below_upd hb hu (by rintro i (rfl | rfl) <;> assumption) hB,
    hu.own hO (fun b e h => by rcases h with rfl | rfl; exact own_blk_ne hO hT.kg (by decide) e; exact hv e), hn, by omega, hv⟩
set_option maxRecDepth 100000 in
set_option maxHeartbeats 4000000 in
theorem lkeeps_any (n : Int) (A1 : Option Addr) (cap1 : Nat) (l1 : List Cal) (hl1 : l1.length ≤ 1048576) (hs1 : Small l1)
    (M : Int) (w : World) (hM : w.cell? ⟨6, 0, none⟩ = some (.int .i64 M)) (ev : Value) (hE : w.cell? ⟨0, 0, none⟩ = some ev) (h1 : CalsAt w A1 l1) :
    Calls Tryd.prog 6 #[.int .i64 n, .slice A1 l1.length cap1] w fun e w' => e = .returned (.bool true) ∧ Below w.heap.size w w' := by
  have HM := Lib.hid (fun (W : World) (hb : Below w.heap.size w W) => (Below.cell hb (p := ⟨6, 0, none⟩) (cell_in hM)).trans hM)
  have HEV := Lib.hid (fun (W : World) (hb : Below w.heap.size w W) => (Below.cell hb (p := ⟨0, 0, none⟩) (cell_in hE)).trans hE)
  have H1 := Lib.hid (fun (W : World) (hb : Below w.heap.size w W) => h1.below hb)
  have HF := Lib.hid (first_any M w hM)
  have HS1 := Lib.hid hs1
  obtain ⟨B, hB⟩ : ∃ B, B = w.heap.size := ⟨_, rfl⟩
  have hle : B ≤ w.heap.size := Nat.le_of_eq hB
  rw [← hB] at H1 HEV HM HF ⊢
  clear hM h1 hB hs1 hE
  go_enter Tryd.func6, Tryd.ntmps6
  go_wp2_with fail
  refine HF.out.mono ?_
  rintro e w1 ⟨rfl, hb1⟩
  clear HF
  go_wp2_with fail
  refine (light_any A1 cap1 l1 (by omega) w1 (H1.out w1 hb1)).mono ?_
  rintro e w2 ⟨b1, rfl, hx⟩
  have hb2 := hb1.trans (hx.mono (Nat.le_trans hle hb1.size))
  clear hb1 hx
  rcases b1 with _ | _
  · go_wp2_with fail
    go_ret
    exact ⟨rfl, hb2⟩
  by_cases hn : n < 0 ∨ 4096 < n
  · go_wp2_with fail
    refine (can_no n hn _).mono ?_
    rintro e w4 ⟨rfl, rfl⟩
    clear hn
    go_wp2_with fail
    go_ret
    exact ⟨rfl, hb2⟩
  obtain ⟨m, rfl⟩ : ∃ m : Nat, n = (m : Int) := ⟨n.toNat, by omega⟩
  have hm : m ≤ 4096 := by omega
  clear hn
  go_wp2_with fail
  refine (can_yes m hm _).mono ?_
  rintro e w4 ⟨rfl, rfl⟩
  go_wp2_with fail
  refine (new_yes m hm w2).mono ?_
  rintro e w5 ⟨rfl, hx, hTa⟩
  have hb5 := hb2.trans (hx.mono (Nat.le_trans hle hb2.size))
  have hga : B ≤ w2.heap.size := Nat.le_trans hle hb2.size
  clear hb2 hx
  generalize hra : w2.heap.size = r at *
  clear hra
  have H0 := Lib.hid (⟨0, [], m, [], hTa, Nat.zero_le _, hb5, World.ownsRow_nil _ _ _ _, Nat.le_refl _, Nat.le_refl _, by simp [Value.ownBlock]⟩ : KeepMid w B (r + 1) r 0 none 0 0 w5)
  clear hTa hb5
  go_wp2_with fail
  go_loopw [8, 9] (fun v i wr => ∃ (j n c : Nat) (A : Option Addr), i = .int .i64 (j : Int) ∧ v = .slice A n c ∧ j ≤ l1.length ∧ KeepMid w B (r + 1) r j A n c wr) (fun _ i _ => l1.length - (intOf i).toNat)
  case atStart => exact ⟨0, 0, 0, none, rfl, rfl, by omega, H0.out⟩
  case round =>
    clear H0
    obtain ⟨j, n, c, A, rfl, rfl, hj, hK⟩ := hrel
    by_cases hlt : j < l1.length
    · obtain ⟨cl, hc⟩ : ∃ cl, l1[j]? = some cl := ⟨_, List.getElem?_eq_getElem hlt⟩
      obtain ⟨o, Q, m0, xs, hT, hQ, hb, hO, hnj, hl, hv⟩ := hK
      obtain ⟨b, off, rfl, _, c0, c1, c2, c3, c4⟩ := H1.out wr hb j cl hc
      have hszc : hsz (cl.name, cl.value) ≤ 4611686018427387904 := HS1.out cl (List.mem_of_getElem? hc)
      have hd1 : decide ((j : Int) < (l1.length : Int)) = true := decide_eq_true (by omega)
      by_cases hk : cl.kind = 1
      · rw [hk] at c0
        have HT := Lib.hid hT
        have HB := Lib.hid hb
        have HO := Lib.hid hO
        have HV := Lib.hid hv
        have HC := Lib.hid hc
        clear hk hc hT hb hO hv c1
        go_wp2_with fail
        refine (add_any HT.out cl.name cl.value cl.never hszc).mono ?_
        rintro e w7 ⟨rfl, o', hT', hu⟩
        have hO7 := hu.own HO.out (fun b e h => by rcases h with rfl | rfl; exact own_blk_ne HO.out HT.out.kg (by decide) e; exact HV.out e)
        have hb7 := below_upd HB.out hu (by rintro i (rfl | rfl) <;> omega) hle
        obtain ⟨b', off', hA', _, _, _, k2, k3, k4⟩ := H1.out w7 hb7 j cl HC.out
        obtain ⟨rfl, rfl⟩ : b = b' ∧ off = off' := by injection hA' with hA'; injection hA' with x y; exact ⟨x, y⟩
        have hgr7 : r + 1 < w7.heap.size := hT'.kg.lt
        obtain ⟨i, hi, hi0, hi1, hi2⟩ := info_parts infoHd
        have HI := Lib.hid hi
        have HO7 := Lib.hid ((hO7.alloc (.cells #[.string cl.name, .string cl.value, .bool false] 23)).drew)
        have HNW : Hid (∀ (j : Nat) (u : Value), [Value.string cl.name, .string cl.value, .bool false][j]? = some u → (w7.alloc (.cells #[.string cl.name, .string cl.value, .bool false] 23)).drew.cell? ((⟨w7.heap.size, 0, none⟩ : Addr).add j) = some u) := Lib.hid (fun j u hu => by
          rw [add_pl, Nat.zero_add]
          exact ((Blk.new w7 23 #[.string cl.name, .string cl.value, .bool false]).drew.cell j).trans (by simpa using hu))
        have HON : Hid (∀ u ∈ [Value.string cl.name, .string cl.value, .bool false], u.oneCell' = true) := Lib.hid (by
          intro u hu
          simp only [List.mem_cons, List.not_mem_nil, or_false] at hu
          rcases hu with rfl | rfl | rfl <;> rfl)
        have HB2 := Lib.hid (show B ≤ (w7.alloc (.cells #[.string cl.name, .string cl.value, .bool false] 23)).drew.heap.size from by
          have := hb7.size
          show B ≤ (w7.alloc (.cells #[.string cl.name, .string cl.value, .bool false] 23)).heap.size
          rw [show (w7.alloc (.cells #[.string cl.name, .string cl.value, .bool false] 23)).heap.size = w7.heap.size + 1 by simp]
          omega)
        have HTN := Lib.hid hT'
        have HB7 := Lib.hid hb7
        have hlen' := Nat.le_trans (addQ_len m0 (cl.name, cl.value) Q) (Nat.succ_le_succ hl)
        have htot' := addQ_tot m0 (cl.name, cl.value) Q
        have HFI := Lib.hid (getAt_first m0 (cl.name, cl.value) Q)
        have HOW := Lib.hid (hO7.lt)
        have HOT := Lib.hid (own_blk_ne hO7 hT'.kg (by decide))
        generalize hQa : addQ m0 (cl.name, cl.value) Q = Qa at *
        have HQa := Lib.hid hQa
        clear hu c0 c2 c3 c4 hA' HO HT HB hQa hT' hb7 hO7 hi hQ
        go_wp2_with fail
        go_region_law ((refine step_append_lies _ rfl _ _ 51 rfl B 23 i (.agg #[.string ByteArray.empty, .string ByteArray.empty, .bool false]) 3 40 Tryd.underlying51 HI.out hi0 hi1 hi2 rfl (by decide) _ n xs rfl HO7.out ⟨w7.heap.size, 0, none⟩ 1 1 [.string cl.name, .string cl.value, .bool false] rfl rfl HNW.out HON.out (by decide) (by unfold maxLen; omega) (by omega) HB2.out _ rfl ?_; intro gr cp w8 ho hgr hat hlt8))
        all_goals
          have hgr8 : gr ≠ r := by
            rcases hat with e | e
            · rintro rfl; exact HV.out e
            · have hsz8 : (w7.alloc (.cells #[.string cl.name, .string cl.value, .bool false] 23)).drew.heap.size = w7.heap.size + 1 := show (w7.alloc (.cells #[.string cl.name, .string cl.value, .bool false] 23)).heap.size = w7.heap.size + 1 by simp
              omega
          have hu8 := ((Upd3.refl w7 (fun i => (Value.slice A n c).ownBlock = some i)).alloc (.cells #[.string cl.name, .string cl.value, .bool false] 23)).drew.grown hgr (fun b hb => Or.inl hb)
          have hT8 := HTN.out.upd hu8 HOT.out HV.out
          have hb8 := below_upd HB7.out hu8 (fun i hi => (HOW.out i hi).1) hle
          have hl0 : (xs ++ [Value.string cl.name, .string cl.value, .bool false])[n * 3]? = some (.string cl.name) := by
            have hx := HO7.out.1
            rw [List.getElem?_append_right (by omega), hx, Nat.sub_self]; rfl
          have hl1' : (xs ++ [Value.string cl.name, .string cl.value, .bool false])[n * 3 + 1]? = some (.string cl.value) := by
            have hx := HO7.out.1
            rw [List.getElem?_append_right (by omega), hx, Nat.add_sub_cancel_left]; rfl
          have hl2' : (xs ++ [Value.string cl.name, .string cl.value, .bool false])[n * 3 + 2]? = some (.bool false) := by
            have hx := HO7.out.1
            rw [List.getElem?_append_right (by omega), hx, Nat.add_sub_cancel_left]; rfl
          have r0 := ho.cells (g := gr) rfl _ _ hl0
          have r1 := ho.cells (g := gr) rfl _ _ hl1'
          have r2 := ho.cells (g := gr) rfl _ _ hl2'
          rw [add_pl, Nat.zero_add] at r0 r1 r2
          obtain ⟨b', off', hA', _, _, _, k2, k3, k4⟩ := H1.out w8 hb8 j cl HC.out
          obtain ⟨rfl, rfl⟩ : b = b' ∧ off = off' := by injection hA' with hA'; injection hA' with x y; exact ⟨x, y⟩
          have HK8 := Lib.hid (show KeepMid w B (r + 1) r (j + 1) (some ⟨gr, 0, none⟩) (n + 1) cp w8 from ⟨o', Qa, m0, _, hT8, htot', hb8, ho, by omega, hlen', by simpa [Value.ownBlock] using hgr8⟩)
          clear hu8 hl0 hl1' hl2' ho hgr hat hlt8 hA'
          go_wp2_with fail
          have hg := get_any hT8 62 M (HM.out w8 hb8)
          have hgf := HFI.out
          have HG := Lib.hid hg
          have HGF := Lib.hid hgf
          have HMO := Lib.hid (fun W (h : Tbl W (r + 1) r o' Qa m0) => most_any h)
          have HT8 := Lib.hid hT8
          have H8 := Lib.hid (fun (W : World) (hW : Since w8 W) => H1.out W (hb8.trans (Below.mono hW (Nat.le_trans hle hb8.size))))
          clear hg hgf hT8 hb8
          by_cases hfit : hsz (cl.name, cl.value) ≤ m0
          · have htok := True.intro
            have hg2 := HG.out
            rw [HGF.out, if_pos hfit, hdR_some] at hg2
            have HG2 := Lib.hid hg2
            clear hg2 HG HGF
            refine HG2.out.mono ?_
            rintro e w9 ⟨rfl, hx9⟩
            have hs10 : Since w8 (w9.alloc (.cells #[.string cl.name, .string cl.value, .bool false] 23)) := Below.alloc hx9 hx9.size _
            obtain ⟨b', off', hA', _, _, _, k2, k3, k4⟩ := H8.out _ hs10 j cl HC.out
            obtain ⟨rfl, rfl⟩ : b = b' ∧ off = off' := by injection hA' with hA'; injection hA' with x y; exact ⟨x, y⟩
            have hk10 := Blk.new w9 23 #[.string cl.name, .string cl.value, .bool false]
            have q0 := hs10.cell r0
            have q1 := hs10.cell r1
            have q2 := hs10.cell r2
            have HT10 := Lib.hid (HT8.out.below hs10)
            have HS10 := Lib.hid hs10
            have HK10 := Lib.hid hk10
            have HQ0 := Lib.hid q0
            have HQ1 := Lib.hid q1
            have HQ2 := Lib.hid q2
            clear hA' hs10 hk10 q0 q1 q2 r0 r1 r2 hx9
            go_wp2_with fail
            refine (size_any cl.name cl.value cl.never (hsz (cl.name, cl.value)) rfl hszc _).mono ?_
            rintro e w11 ⟨rfl, hx11⟩
            clear k2 k3 k4
            have HT11 := Lib.hid (HT10.out.below hx11)
            have HS11 := Lib.hid (Below.trans HS10.out (hx11.mono HS10.out.size))
            have hk11 := HK10.out.below hx11 HK10.out.lt
            have q0 := Since.cell hx11 HQ0.out
            have q1 := Since.cell hx11 HQ1.out
            have q2 := Since.cell hx11 HQ2.out
            generalize w9.heap.size = p at *
            clear hx11 HQ0 HQ1 HQ2 HK10 HT10
            go_wp2_with fail
            refine (HMO.out _ HT11.out).mono ?_
            rintro e w12 ⟨rfl, rfl⟩
            go_wp2_with fail
            have p0 : w11.cell? ⟨p, 0, none⟩ = some (.string cl.name) := hk11.cell 0
            have p1 : w11.cell? ⟨p, 1, none⟩ = some (.string cl.value) := hk11.cell 1
            have p2 : w11.cell? ⟨p, 2, none⟩ = some (.bool false) := hk11.cell 2
            have HSH := Lib.hid (fun W => same_header_any cl.name cl.value false W)
            have hw1 : IntKind.i64.wrap (n : Int) = (n : Int) := IntWalk.i64_in _ (by omega)
            have hw2 : (n : Int) < (n : Int) + 1 := by omega
            refine wp_region_in (Since w11) (Since.drew0 w11) (by kernel_rfl) (by kernel_rfl) ?_
            repeat (first
              | go_big_quiet_skip
              | (go_big_quiet_want; go_big_quiet_op; go_big_quiet_on)
              | (go_big_quiet_want; apply in_val; (· intro W hW; have d0 := hW.cell p0; have d1 := hW.cell p1; have d2 := hW.cell p2; have d3 := hW.cell q0; have d4 := hW.cell q1; have d5 := hW.cell q2; go_simp; first | done | rfl); simp only [Act.put, List.setIfInBounds_toArray, List.set_cons_zero, List.set_cons_succ]; go_big_quiet_on)
              | (go_big_quiet_want; apply in_q; (· intro W hW; go_simp; (go_at_call 16; with_reducible exact hW.call (HSH.out W))); simp only [Act.put, List.setIfInBounds_toArray, List.set_cons_zero, List.set_cons_succ]; go_big_quiet_on))
            refine wpQuiet_nil ?_
            intro w7 hW7
            have HK := Lib.hid (KeepMid.since HK8.out (Below.trans HS11.out (Below.mono hW7 HS11.out.size)) hle)
            clear hW7 p0 p1 p2 q0 q1 q2 hk11 hw1 hw2
            obtain ⟨o1, Q1, m1, xs1, hT, hQ, hb, hO, hn1, hq1, hv⟩ := HK.out
            have HT := Lib.hid hT
            have HB := Lib.hid hb
            have hq := hT.len
            have ht := hT.ht
            clear hT hb hO hv
            go_wp2_with fail
            go_loopw [13, 14] (fun s i wr2 => ∃ k : Nat, i = .int .i64 (k : Int) ∧ s = .int .i64 (tot (Q1.reverse.take k) : Int) ∧ k ≤ Q1.length ∧ Since w7 wr2) (fun _ i _ => 129 - (intOf i).toNat)
            case atStart => exact ⟨0, rfl, rfl, Nat.zero_le _, Below.refl _ _⟩
            case round =>
              obtain ⟨k, rfl, rfl, hkq, hs⟩ := hrel
              have hT2 := HT.out.below hs
              have HL := Lib.hid (fun W (h : Tbl W (r + 1) r o1 Q1 m1) => len_any h)
              have hbs := HB.out.trans (Below.mono hs (Nat.le_trans hle HB.out.size))
              have HT2 := Lib.hid hT2
              have HSN := Lib.hid hs
              by_cases hlt2 : k < Q1.length
              · obtain ⟨x, hx⟩ : ∃ x, Q1.reverse[k]? = some x := ⟨_, List.getElem?_eq_getElem (by simpa using hlt2)⟩
                have hg := get_any hT2 ((62 : Int) + (k : Int)) M (HM.out _ hbs)
                rw [getAt_new, hx, hdR_some] at hg
                have htk := tot_take Q1.reverse k x hx
                have htl := tot_take_le Q1.reverse (k + 1)
                rw [tot_reverse] at htl
                have hxs : hsz x ≤ 4096 := by omega
                have HG := Lib.hid hg
                have HTK := Lib.hid htk
                have hd2 : decide ((k : Int) < (Q1.length : Int)) = true := decide_eq_true (by omega)
                have hd3 : decide ((k : Int) ≥ (((n + 1) : Nat) : Int)) = false := decide_eq_false (by omega)
                have hts : tot (Q1.reverse.take k) ≤ 4096 := by omega
                clear hg htk hx htl hs hT2 hbs
                generalize tot (Q1.reverse.take k) = S at *
                go_wp2_with fail
                refine (HL.out _ HT2.out).mono ?_
                rintro e w8 ⟨rfl, rfl⟩
                go_wp2_with fail
                refine HG.out.mono ?_
                rintro e w9 ⟨rfl, hx9⟩
                have hs9 := Below.trans HSN.out (hx9.mono HSN.out.size)
                clear hx9 HG
                go_wp2_with fail
                refine (size_any x.1 x.2 false (hsz x) rfl (by omega) _).mono ?_
                rintro e w10 ⟨rfl, hx10⟩
                have hs10 := (Below.alloc hs9 hs9.size (.cells #[.string x.1, .string x.2, .bool false] 23)).trans (hx10.mono (Nat.le_trans hs9.size (by simp)))
                clear hx10 hs9
                go_wp2_with fail
                go_roundw
                case rel => exact ⟨k + 1, by go_num, by rw [HTK.out]; go_num, by omega, hs10⟩
                case measure => simp [intOf]; omega
              · have hkk : k = Q1.length := by omega
                subst hkk
                have hg := get_any hT2 ((62 : Int) + (Q1.length : Int)) M (HM.out _ hbs)
                rw [getAt_past, hdR_none] at hg
                have HG := Lib.hid hg
                have hful : tot (Q1.reverse.take Q1.length) = tot Q1 := by rw [List.take_of_length_le (by simp), tot_reverse]
                rw [hful]
                have hd2 : decide ((Q1.length : Int) < (Q1.length : Int)) = false := decide_eq_false (by omega)
                have hd4 : decide ((tot Q1 : Int) > (m1 : Int)) = false := decide_eq_false (by omega)
                have HSZ := Lib.hid (fun W (h : Tbl W (r + 1) r o1 Q1 m1) => tsize_any h)
                have HMO := Lib.hid (fun W (h : Tbl W (r + 1) r o1 Q1 m1) => most_any h)
                clear hful hg hs hT2 hbs hlt2
                go_wp2_with fail
                refine (HL.out _ HT2.out).mono ?_
                rintro e w8 ⟨rfl, rfl⟩
                go_wp2_with fail
                refine (HL.out _ HT2.out).mono ?_
                rintro e w8 ⟨rfl, rfl⟩
                go_wp2_with fail
                refine HG.out.mono ?_
                rintro e w9 ⟨rfl, hx9⟩
                have hs9 := Below.trans HSN.out (hx9.mono HSN.out.size)
                have hs10 := Below.alloc hs9 hs9.size (.cells #[.string ⟨#[]⟩, .string ⟨#[]⟩, .bool false] 23)
                have HT10 := Lib.hid (HT.out.below hs10)
                have HS10 := Lib.hid hs10
                clear hx9 HG hs9 hs10
                go_wp2_with fail
                refine (HSZ.out _ HT10.out).mono ?_
                rintro e w11 ⟨rfl, rfl⟩
                go_wp2_with fail
                refine (HMO.out _ HT10.out).mono ?_
                rintro e w11 ⟨rfl, rfl⟩
                go_wp2_with fail
                go_roundw
                case rel => exact ⟨j + 1, (n + 1), cp, (some ⟨gr, 0, none⟩), by go_num, rfl, by omega, KeepMid.since HK.out HS10.out hle⟩
                case measure => simp [intOf]; omega
          · have htok := True.intro
            have hg2 := HG.out
            rw [HGF.out, if_neg hfit, hdR_none] at hg2
            have HG2 := Lib.hid hg2
            clear hg2 HG HGF
            have hfit' : m0 < hsz (cl.name, cl.value) := by omega
            refine HG2.out.mono ?_
            rintro e w9 ⟨rfl, hx9⟩
            have hs10 : Since w8 (w9.alloc (.cells #[.string ⟨#[]⟩, .string ⟨#[]⟩, .bool false] 23)) := Below.alloc hx9 hx9.size _
            obtain ⟨b', off', hA', _, _, _, k2, k3, k4⟩ := H8.out _ hs10 j cl HC.out
            obtain ⟨rfl, rfl⟩ : b = b' ∧ off = off' := by injection hA' with hA'; injection hA' with x y; exact ⟨x, y⟩
            have hk10 := Blk.new w9 23 #[.string ⟨#[]⟩, .string ⟨#[]⟩, .bool false]
            have q0 := hs10.cell r0
            have q1 := hs10.cell r1
            have q2 := hs10.cell r2
            have HT10 := Lib.hid (HT8.out.below hs10)
            have HS10 := Lib.hid hs10
            have HK10 := Lib.hid hk10
            have HQ0 := Lib.hid q0
            have HQ1 := Lib.hid q1
            have HQ2 := Lib.hid q2
            clear hA' hs10 hk10 q0 q1 q2 r0 r1 r2 hx9
            go_wp2_with fail
            refine (size_any cl.name cl.value cl.never (hsz (cl.name, cl.value)) rfl hszc _).mono ?_
            rintro e w11 ⟨rfl, hx11⟩
            clear k2 k3 k4
            have HT11 := Lib.hid (HT10.out.below hx11)
            have HS11 := Lib.hid (Below.trans HS10.out (hx11.mono HS10.out.size))
            have hk11 := HK10.out.below hx11 HK10.out.lt
            have q0 := Since.cell hx11 HQ0.out
            have q1 := Since.cell hx11 HQ1.out
            have q2 := Since.cell hx11 HQ2.out
            generalize w9.heap.size = p at *
            clear hx11 HQ0 HQ1 HQ2 HK10 HT10
            go_wp2_with fail
            refine (HMO.out _ HT11.out).mono ?_
            rintro e w12 ⟨rfl, rfl⟩
            go_wp2_with fail
            have p0 : w11.cell? ⟨p, 0, none⟩ = some (.string ⟨#[]⟩) := hk11.cell 0
            have p1 : w11.cell? ⟨p, 1, none⟩ = some (.string ⟨#[]⟩) := hk11.cell 1
            have p2 : w11.cell? ⟨p, 2, none⟩ = some (.bool false) := hk11.cell 2
            have HSH := Lib.hid (fun W => same_header_any cl.name cl.value false W)
            have hw1 : IntKind.i64.wrap (n : Int) = (n : Int) := IntWalk.i64_in _ (by omega)
            have hw2 : (n : Int) < (n : Int) + 1 := by omega
            refine wp_region_in (Since w11) (Since.drew0 w11) (by kernel_rfl) (by kernel_rfl) ?_
            repeat (first
              | go_big_quiet_skip
              | (go_big_quiet_want; go_big_quiet_op; go_big_quiet_on)
              | (go_big_quiet_want; apply in_val; (· intro W hW; have d0 := hW.cell p0; have d1 := hW.cell p1; have d2 := hW.cell p2; have d3 := hW.cell q0; have d4 := hW.cell q1; have d5 := hW.cell q2; go_simp; first | done | rfl); simp only [Act.put, List.setIfInBounds_toArray, List.set_cons_zero, List.set_cons_succ]; go_big_quiet_on)
              | (go_big_quiet_want; apply in_q; (· intro W hW; go_simp; (go_at_call 16; with_reducible exact hW.call (HSH.out W))); simp only [Act.put, List.setIfInBounds_toArray, List.set_cons_zero, List.set_cons_succ]; go_big_quiet_on))
            refine wpQuiet_nil ?_
            intro w7 hW7
            have HK := Lib.hid (KeepMid.since HK8.out (Below.trans HS11.out (Below.mono hW7 HS11.out.size)) hle)
            clear hW7 p0 p1 p2 q0 q1 q2 hk11 hw1 hw2
            obtain ⟨o1, Q1, m1, xs1, hT, hQ, hb, hO, hn1, hq1, hv⟩ := HK.out
            have HT := Lib.hid hT
            have HB := Lib.hid hb
            have hq := hT.len
            have ht := hT.ht
            clear hT hb hO hv
            go_wp2_with fail
            go_loopw [13, 14] (fun s i wr2 => ∃ k : Nat, i = .int .i64 (k : Int) ∧ s = .int .i64 (tot (Q1.reverse.take k) : Int) ∧ k ≤ Q1.length ∧ Since w7 wr2) (fun _ i _ => 129 - (intOf i).toNat)
            case atStart => exact ⟨0, rfl, rfl, Nat.zero_le _, Below.refl _ _⟩
            case round =>
              obtain ⟨k, rfl, rfl, hkq, hs⟩ := hrel
              have hT2 := HT.out.below hs
              have HL := Lib.hid (fun W (h : Tbl W (r + 1) r o1 Q1 m1) => len_any h)
              have hbs := HB.out.trans (Below.mono hs (Nat.le_trans hle HB.out.size))
              have HT2 := Lib.hid hT2
              have HSN := Lib.hid hs
              by_cases hlt2 : k < Q1.length
              · obtain ⟨x, hx⟩ : ∃ x, Q1.reverse[k]? = some x := ⟨_, List.getElem?_eq_getElem (by simpa using hlt2)⟩
                have hg := get_any hT2 ((62 : Int) + (k : Int)) M (HM.out _ hbs)
                rw [getAt_new, hx, hdR_some] at hg
                have htk := tot_take Q1.reverse k x hx
                have htl := tot_take_le Q1.reverse (k + 1)
                rw [tot_reverse] at htl
                have hxs : hsz x ≤ 4096 := by omega
                have HG := Lib.hid hg
                have HTK := Lib.hid htk
                have hd2 : decide ((k : Int) < (Q1.length : Int)) = true := decide_eq_true (by omega)
                have hd3 : decide ((k : Int) ≥ (((n + 1) : Nat) : Int)) = false := decide_eq_false (by omega)
                have hts : tot (Q1.reverse.take k) ≤ 4096 := by omega
                clear hg htk hx htl hs hT2 hbs
                generalize tot (Q1.reverse.take k) = S at *
                go_wp2_with fail
                refine (HL.out _ HT2.out).mono ?_
                rintro e w8 ⟨rfl, rfl⟩
                go_wp2_with fail
                refine HG.out.mono ?_
                rintro e w9 ⟨rfl, hx9⟩
                have hs9 := Below.trans HSN.out (hx9.mono HSN.out.size)
                clear hx9 HG
                go_wp2_with fail
                refine (size_any x.1 x.2 false (hsz x) rfl (by omega) _).mono ?_
                rintro e w10 ⟨rfl, hx10⟩
                have hs10 := (Below.alloc hs9 hs9.size (.cells #[.string x.1, .string x.2, .bool false] 23)).trans (hx10.mono (Nat.le_trans hs9.size (by simp)))
                clear hx10 hs9
                go_wp2_with fail
                go_roundw
                case rel => exact ⟨k + 1, by go_num, by rw [HTK.out]; go_num, by omega, hs10⟩
                case measure => simp [intOf]; omega
              · have hkk : k = Q1.length := by omega
                subst hkk
                have hg := get_any hT2 ((62 : Int) + (Q1.length : Int)) M (HM.out _ hbs)
                rw [getAt_past, hdR_none] at hg
                have HG := Lib.hid hg
                have hful : tot (Q1.reverse.take Q1.length) = tot Q1 := by rw [List.take_of_length_le (by simp), tot_reverse]
                rw [hful]
                have hd2 : decide ((Q1.length : Int) < (Q1.length : Int)) = false := decide_eq_false (by omega)
                have hd4 : decide ((tot Q1 : Int) > (m1 : Int)) = false := decide_eq_false (by omega)
                have HSZ := Lib.hid (fun W (h : Tbl W (r + 1) r o1 Q1 m1) => tsize_any h)
                have HMO := Lib.hid (fun W (h : Tbl W (r + 1) r o1 Q1 m1) => most_any h)
                clear hful hg hs hT2 hbs hlt2
                go_wp2_with fail
                refine (HL.out _ HT2.out).mono ?_
                rintro e w8 ⟨rfl, rfl⟩
                go_wp2_with fail
                refine (HL.out _ HT2.out).mono ?_
                rintro e w8 ⟨rfl, rfl⟩
                go_wp2_with fail
                refine HG.out.mono ?_
                rintro e w9 ⟨rfl, hx9⟩
                have hs9 := Below.trans HSN.out (hx9.mono HSN.out.size)
                have hs10 := Below.alloc hs9 hs9.size (.cells #[.string ⟨#[]⟩, .string ⟨#[]⟩, .bool false] 23)
                have HT10 := Lib.hid (HT.out.below hs10)
                have HS10 := Lib.hid hs10
                clear hx9 HG hs9 hs10
                go_wp2_with fail
                refine (HSZ.out _ HT10.out).mono ?_
                rintro e w11 ⟨rfl, rfl⟩
                go_wp2_with fail
                refine (HMO.out _ HT10.out).mono ?_
                rintro e w11 ⟨rfl, rfl⟩
                go_wp2_with fail
                go_roundw
                case rel => exact ⟨j + 1, (n + 1), cp, (some ⟨gr, 0, none⟩), by go_num, rfl, by omega, KeepMid.since HK.out HS10.out hle⟩
                case measure => simp [intOf]; omega
      · have hk' : (cl.kind == 1) = false := by simpa using hk
        by_cases hf : cl.num < 0 ∨ 4096 < cl.num
        · have HR := Lib.hid (resize_no (r + 1) cl.num hf ev wr (HEV.out wr hb))
          have HK := Lib.hid (⟨o, Q, m0, xs, hT, hQ, hb, hO, by omega, hl, hv⟩ : KeepMid w B (r + 1) r (j + 1) A n c wr)
          clear hk hc hT hb hO hv hf c2 c3 c4 hQ hnj hl hszc
          go_wp2_with fail
          refine HR.out.mono ?_
          rintro e w7 ⟨rfl, rfl⟩
          clear HR c0 c1
          obtain ⟨w7, rfl⟩ : ∃ w7 : World, w7 = wr := ⟨_, rfl⟩
          obtain ⟨o1, Q1, m1, xs1, hT, hQ, hb, hO, hn1, hq1, hv⟩ := HK.out
          have HT := Lib.hid hT
          have HB := Lib.hid hb
          have hq := hT.len
          have ht := hT.ht
          clear hT hb hO hv
          go_wp2_with fail
          go_loopw [13, 14] (fun s i wr2 => ∃ k : Nat, i = .int .i64 (k : Int) ∧ s = .int .i64 (tot (Q1.reverse.take k) : Int) ∧ k ≤ Q1.length ∧ Since w7 wr2) (fun _ i _ => 129 - (intOf i).toNat)
          case atStart => exact ⟨0, rfl, rfl, Nat.zero_le _, Below.refl _ _⟩
          case round =>
            obtain ⟨k, rfl, rfl, hkq, hs⟩ := hrel
            have hT2 := HT.out.below hs
            have HL := Lib.hid (fun W (h : Tbl W (r + 1) r o1 Q1 m1) => len_any h)
            have hbs := HB.out.trans (Below.mono hs (Nat.le_trans hle HB.out.size))
            have HT2 := Lib.hid hT2
            have HSN := Lib.hid hs
            by_cases hlt2 : k < Q1.length
            · obtain ⟨x, hx⟩ : ∃ x, Q1.reverse[k]? = some x := ⟨_, List.getElem?_eq_getElem (by simpa using hlt2)⟩
              have hg := get_any hT2 ((62 : Int) + (k : Int)) M (HM.out _ hbs)
              rw [getAt_new, hx, hdR_some] at hg
              have htk := tot_take Q1.reverse k x hx
              have htl := tot_take_le Q1.reverse (k + 1)
              rw [tot_reverse] at htl
              have hxs : hsz x ≤ 4096 := by omega
              have HG := Lib.hid hg
              have HTK := Lib.hid htk
              have hd2 : decide ((k : Int) < (Q1.length : Int)) = true := decide_eq_true (by omega)
              have hd3 : decide ((k : Int) ≥ ((n : Nat) : Int)) = false := decide_eq_false (by omega)
              have hts : tot (Q1.reverse.take k) ≤ 4096 := by omega
              clear hg htk hx htl hs hT2 hbs
              generalize tot (Q1.reverse.take k) = S at *
              go_wp2_with fail
              refine (HL.out _ HT2.out).mono ?_
              rintro e w8 ⟨rfl, rfl⟩
              go_wp2_with fail
              refine HG.out.mono ?_
              rintro e w9 ⟨rfl, hx9⟩
              have hs9 := Below.trans HSN.out (hx9.mono HSN.out.size)
              clear hx9 HG
              go_wp2_with fail
              refine (size_any x.1 x.2 false (hsz x) rfl (by omega) _).mono ?_
              rintro e w10 ⟨rfl, hx10⟩
              have hs10 := (Below.alloc hs9 hs9.size (.cells #[.string x.1, .string x.2, .bool false] 23)).trans (hx10.mono (Nat.le_trans hs9.size (by simp)))
              clear hx10 hs9
              go_wp2_with fail
              go_roundw
              case rel => exact ⟨k + 1, by go_num, by rw [HTK.out]; go_num, by omega, hs10⟩
              case measure => simp [intOf]; omega
            · have hkk : k = Q1.length := by omega
              subst hkk
              have hg := get_any hT2 ((62 : Int) + (Q1.length : Int)) M (HM.out _ hbs)
              rw [getAt_past, hdR_none] at hg
              have HG := Lib.hid hg
              have hful : tot (Q1.reverse.take Q1.length) = tot Q1 := by rw [List.take_of_length_le (by simp), tot_reverse]
              rw [hful]
              have hd2 : decide ((Q1.length : Int) < (Q1.length : Int)) = false := decide_eq_false (by omega)
              have hd4 : decide ((tot Q1 : Int) > (m1 : Int)) = false := decide_eq_false (by omega)
              have HSZ := Lib.hid (fun W (h : Tbl W (r + 1) r o1 Q1 m1) => tsize_any h)
              have HMO := Lib.hid (fun W (h : Tbl W (r + 1) r o1 Q1 m1) => most_any h)
              clear hful hg hs hT2 hbs hlt2
              go_wp2_with fail
              refine (HL.out _ HT2.out).mono ?_
              rintro e w8 ⟨rfl, rfl⟩
              go_wp2_with fail
              refine (HL.out _ HT2.out).mono ?_
              rintro e w8 ⟨rfl, rfl⟩
              go_wp2_with fail
              refine HG.out.mono ?_
              rintro e w9 ⟨rfl, hx9⟩
              have hs9 := Below.trans HSN.out (hx9.mono HSN.out.size)
              have hs10 := Below.alloc hs9 hs9.size (.cells #[.string ⟨#[]⟩, .string ⟨#[]⟩, .bool false] 23)
              have HT10 := Lib.hid (HT.out.below hs10)
              have HS10 := Lib.hid hs10
              clear hx9 HG hs9 hs10
              go_wp2_with fail
              refine (HSZ.out _ HT10.out).mono ?_
              rintro e w11 ⟨rfl, rfl⟩
              go_wp2_with fail
              refine (HMO.out _ HT10.out).mono ?_
              rintro e w11 ⟨rfl, rfl⟩
              go_wp2_with fail
              go_roundw
              case rel => exact ⟨j + 1, n, c, A, by go_num, rfl, by omega, KeepMid.since HK.out HS10.out hle⟩
              case measure => simp [intOf]; omega
        · obtain ⟨kn, hkn⟩ : ∃ k : Nat, cl.num = (k : Int) := ⟨cl.num.toNat, by omega⟩
          rw [hkn] at c1
          have HT := Lib.hid hT
          have HB := Lib.hid hb
          have HO := Lib.hid hO
          have HV := Lib.hid hv
          have hkm : kn ≤ 4096 := by omega
          clear hk hc hT hb hO hv hf c2 c3 c4 hkn hszc
          go_wp2_with fail
          refine (resize_yes HT.out kn hkm).mono ?_
          rintro e w7 ⟨rfl, o', hT', hu⟩
          have HK := Lib.hid (KeepMid.upd HB.out HO.out (Nat.le_succ_of_le hnj) hl HV.out HT.out hT' hu (by have := shr_le (k := (kn : Int)) (by omega) Q; omega) (shr_len _ _) (by omega) hga hle)
          clear hT' hu HO HV HT HB c0 c1 hQ hnj hl
          obtain ⟨o1, Q1, m1, xs1, hT, hQ, hb, hO, hn1, hq1, hv⟩ := HK.out
          have HT := Lib.hid hT
          have HB := Lib.hid hb
          have hq := hT.len
          have ht := hT.ht
          clear hT hb hO hv
          go_wp2_with fail
          go_loopw [13, 14] (fun s i wr2 => ∃ k : Nat, i = .int .i64 (k : Int) ∧ s = .int .i64 (tot (Q1.reverse.take k) : Int) ∧ k ≤ Q1.length ∧ Since w7 wr2) (fun _ i _ => 129 - (intOf i).toNat)
          case atStart => exact ⟨0, rfl, rfl, Nat.zero_le _, Below.refl _ _⟩
          case round =>
            obtain ⟨k, rfl, rfl, hkq, hs⟩ := hrel
            have hT2 := HT.out.below hs
            have HL := Lib.hid (fun W (h : Tbl W (r + 1) r o1 Q1 m1) => len_any h)
            have hbs := HB.out.trans (Below.mono hs (Nat.le_trans hle HB.out.size))
            have HT2 := Lib.hid hT2
            have HSN := Lib.hid hs
            by_cases hlt2 : k < Q1.length
            · obtain ⟨x, hx⟩ : ∃ x, Q1.reverse[k]? = some x := ⟨_, List.getElem?_eq_getElem (by simpa using hlt2)⟩
              have hg := get_any hT2 ((62 : Int) + (k : Int)) M (HM.out _ hbs)
              rw [getAt_new, hx, hdR_some] at hg
              have htk := tot_take Q1.reverse k x hx
              have htl := tot_take_le Q1.reverse (k + 1)
              rw [tot_reverse] at htl
              have hxs : hsz x ≤ 4096 := by omega
              have HG := Lib.hid hg
              have HTK := Lib.hid htk
              have hd2 : decide ((k : Int) < (Q1.length : Int)) = true := decide_eq_true (by omega)
              have hd3 : decide ((k : Int) ≥ ((n : Nat) : Int)) = false := decide_eq_false (by omega)
              have hts : tot (Q1.reverse.take k) ≤ 4096 := by omega
              clear hg htk hx htl hs hT2 hbs
              generalize tot (Q1.reverse.take k) = S at *
              go_wp2_with fail
              refine (HL.out _ HT2.out).mono ?_
              rintro e w8 ⟨rfl, rfl⟩
              go_wp2_with fail
              refine HG.out.mono ?_
              rintro e w9 ⟨rfl, hx9⟩
              have hs9 := Below.trans HSN.out (hx9.mono HSN.out.size)
              clear hx9 HG
              go_wp2_with fail
              refine (size_any x.1 x.2 false (hsz x) rfl (by omega) _).mono ?_
              rintro e w10 ⟨rfl, hx10⟩
              have hs10 := (Below.alloc hs9 hs9.size (.cells #[.string x.1, .string x.2, .bool false] 23)).trans (hx10.mono (Nat.le_trans hs9.size (by simp)))
              clear hx10 hs9
              go_wp2_with fail
              go_roundw
              case rel => exact ⟨k + 1, by go_num, by rw [HTK.out]; go_num, by omega, hs10⟩
              case measure => simp [intOf]; omega
            · have hkk : k = Q1.length := by omega
              subst hkk
              have hg := get_any hT2 ((62 : Int) + (Q1.length : Int)) M (HM.out _ hbs)
              rw [getAt_past, hdR_none] at hg
              have HG := Lib.hid hg
              have hful : tot (Q1.reverse.take Q1.length) = tot Q1 := by rw [List.take_of_length_le (by simp), tot_reverse]
              rw [hful]
              have hd2 : decide ((Q1.length : Int) < (Q1.length : Int)) = false := decide_eq_false (by omega)
              have hd4 : decide ((tot Q1 : Int) > (m1 : Int)) = false := decide_eq_false (by omega)
              have HSZ := Lib.hid (fun W (h : Tbl W (r + 1) r o1 Q1 m1) => tsize_any h)
              have HMO := Lib.hid (fun W (h : Tbl W (r + 1) r o1 Q1 m1) => most_any h)
              clear hful hg hs hT2 hbs hlt2
              go_wp2_with fail
              refine (HL.out _ HT2.out).mono ?_
              rintro e w8 ⟨rfl, rfl⟩
              go_wp2_with fail
              refine (HL.out _ HT2.out).mono ?_
              rintro e w8 ⟨rfl, rfl⟩
              go_wp2_with fail
              refine HG.out.mono ?_
              rintro e w9 ⟨rfl, hx9⟩
              have hs9 := Below.trans HSN.out (hx9.mono HSN.out.size)
              have hs10 := Below.alloc hs9 hs9.size (.cells #[.string ⟨#[]⟩, .string ⟨#[]⟩, .bool false] 23)
              have HT10 := Lib.hid (HT.out.below hs10)
              have HS10 := Lib.hid hs10
              clear hx9 HG hs9 hs10
              go_wp2_with fail
              refine (HSZ.out _ HT10.out).mono ?_
              rintro e w11 ⟨rfl, rfl⟩
              go_wp2_with fail
              refine (HMO.out _ HT10.out).mono ?_
              rintro e w11 ⟨rfl, rfl⟩
              go_wp2_with fail
              go_roundw
              case rel => exact ⟨j + 1, n, c, A, by go_num, rfl, by omega, KeepMid.since HK.out HS10.out hle⟩
              case measure => simp [intOf]; omega
    · have hd1 : decide ((j : Int) < (l1.length : Int)) = false := decide_eq_false (by omega)
      obtain ⟨o1, Q1, m1, xs1, hT, hQ, hb, hO, hn1, hq1, hv⟩ := hK
      have HT := Lib.hid hT
      have HB := Lib.hid hb
      have hq := hT.len
      clear hT hb hO hv hQ
      obtain ⟨w7, rfl⟩ : ∃ w7 : World, w7 = wr := ⟨_, rfl⟩
      go_wp2_with fail
      go_loopw [19] (fun i wr2 => ∃ k : Nat, i = .int .i64 (k : Int) ∧ k ≤ Q1.length ∧ Since w7 wr2) (fun i _ => 129 - (intOf i).toNat)
      case atStart => exact ⟨0, rfl, Nat.zero_le _, Below.refl _ _⟩
      case round =>
        obtain ⟨k, rfl, hkq, hs⟩ := hrel
        have hT2 := HT.out.below hs
        have HL := Lib.hid (fun W (h : Tbl W (r + 1) r o1 Q1 m1) => len_any h)
        have hbs := HB.out.trans (Below.mono hs (Nat.le_trans hle HB.out.size))
        have HT2 := Lib.hid hT2
        have HSN := Lib.hid hs
        by_cases hlt2 : k < Q1.length
        · obtain ⟨x, hx⟩ : ∃ x, Q1.reverse[k]? = some x := ⟨_, List.getElem?_eq_getElem (by simpa using hlt2)⟩
          have hg := get_any hT2 ((62 : Int) + (k : Int)) M (HM.out _ hbs)
          rw [getAt_new, hx, hdR_some] at hg
          have hx2 : (stat ++ Q1.reverse)[61 + k]? = some (x.1, x.2) := by
            rw [List.getElem?_append_right (by rw [stat_len]; omega), stat_len, Nat.add_sub_cancel_left]
            exact hx
          obtain ⟨hf1, hf2⟩ := findIn_at x.1 x.2 _ _ 1 0 hx2
          have HG := Lib.hid hg
          have HFD := Lib.hid (fun W (h : Tbl W (r + 1) r o1 Q1 m1) hM => find_any h x.1 x.2 M (w := W) hM)
          have hd2 : decide ((k : Int) < (Q1.length : Int)) = true := decide_eq_true (by omega)
          obtain ⟨fi, hfi⟩ : ∃ fi, fi = (findR x.1 x.2 Q1).1 := ⟨_, rfl⟩
          have HR : Hid (findR x.1 x.2 Q1 = (fi, true)) := Lib.hid (by rw [hfi]; exact Prod.ext rfl hf1)
          have hfk : fi ≤ 62 + k := by rw [hfi]; unfold findR; omega
          have hfs : fi ≤ 200 := by omega
          clear hg hx hx2 hs hT2 hbs hf1 hf2 hfi
          go_wp2_with fail
          refine (HL.out _ HT2.out).mono ?_
          rintro e w8 ⟨rfl, rfl⟩
          go_wp2_with fail
          refine HG.out.mono ?_
          rintro e w9 ⟨rfl, hx9⟩
          have hs9 := Below.trans HSN.out (hx9.mono HSN.out.size)
          have hs10 := Below.alloc hs9 hs9.size (.cells #[.string x.1, .string x.2, .bool false] 23)
          have hT10 := HT.out.below hs10
          have HS10 := Lib.hid hs10
          have hF := HFD.out _ hT10 (HM.out _ (HB.out.trans (Below.mono hs10 (Nat.le_trans hle HB.out.size))))
          have HF := Lib.hid hF
          clear hx9 HG hs9 hs10 hT10 hF
          go_wp2_with fail
          refine HF.out.mono ?_
          rintro e w11 ⟨rfl, hx11⟩
          rw [HR.out]
          have hs11 := HS10.out.trans (hx11.mono HS10.out.size)
          clear hx11 HF
          go_wp2_with fail
          go_roundw
          case rel => exact ⟨k + 1, by go_num, by omega, hs11⟩
          case measure => simp [intOf]; omega
        · have hkk : k = Q1.length := by omega
          subst hkk
          have hd2 : decide ((Q1.length : Int) < (Q1.length : Int)) = false := decide_eq_false (by omega)
          have HE := Lib.hid hbs
          clear hs hT2 hbs hlt2
          go_wp2_with fail
          refine (HL.out _ HT2.out).mono ?_
          rintro e w8 ⟨rfl, rfl⟩
          go_wp2_with fail
          go_ret
          exact ⟨rfl, HE.out⟩
end Go.Proofs.YtflmgjidnclegaaDoor.Tab
