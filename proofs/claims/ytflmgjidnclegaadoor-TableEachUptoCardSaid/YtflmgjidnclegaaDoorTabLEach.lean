/-
  The law TableEach, up to its rounds.
-/
import Derived.Test.YtflmgjidnclegaaDoorTabESt
import Derived.Test.YtflmgjidnclegaaDoorTabCals
import Derived.Test.YtflmgjidnclegaaDoorTabPlain
import Derived.Outline
namespace Go.Proofs.YtflmgjidnclegaaDoor.Tab
open Go.RowKit Go.Shelf
set_option maxRecDepth 100000 in
set_option maxHeartbeats 4000000 in
theorem leach_any (n : Int) (A1 : Option Addr) (cap1 : Nat) (l1 : List Cal) (stop : Int) (nm vm : ByteArray) (bm : Bool) (hl1 : l1.length ≤ 1048576) (hs1 : Small l1)
    (M : Int) (w : World) (hM : w.cell? ⟨6, 0, none⟩ = some (.int .i64 M)) (ev : Value) (hE : w.cell? ⟨0, 0, none⟩ = some ev) (h1 : CalsAt w A1 l1) :
    Calls Tryd.prog 7 #[.int .i64 n, .slice A1 l1.length cap1, .int .i64 stop, .agg #[.string nm, .string vm, .bool bm]] w fun e w' => e = .returned (.bool true) ∧ Below w.heap.size w w' := by
  have HM := Lib.hid (fun (W : World) (hb : Below w.heap.size w W) => (Below.cell hb (p := ⟨6, 0, none⟩) (cell_in hM)).trans hM)
  have HEV := Lib.hid (fun (W : World) (hb : Below w.heap.size w W) => (Below.cell hb (p := ⟨0, 0, none⟩) (cell_in hE)).trans hE)
  have H1 := Lib.hid (fun (W : World) (hb : Below w.heap.size w W) => h1.below hb)
  have hb0 := (((Below.refl w.heap.size w).alloc (Nat.le_refl _) (.cells #[.int .i64 stop] 3)).alloc (by simp) (.cells #[.string nm, .string vm, .bool bm] 23)).alloc (by simp; omega) (.cells #[.bool false] 4)
  have k0 := ((Blk.new w 3 #[.int .i64 stop]).alloc (.cells #[.string nm, .string vm, .bool bm] 23)).alloc (.cells #[.bool false] 4)
  have k1 := (Blk.new (w.alloc (.cells #[.int .i64 stop] 3)) 23 #[.string nm, .string vm, .bool bm]).alloc (.cells #[.bool false] 4)
  have k2 := Blk.new ((w.alloc (.cells #[.int .i64 stop] 3)).alloc (.cells #[.string nm, .string vm, .bool bm] 23)) 4 #[.bool false]
  have z1 : (w.alloc (.cells #[.int .i64 stop] 3)).heap.size = w.heap.size + 1 := by simp
  have z2 : ((w.alloc (.cells #[.int .i64 stop] 3)).alloc (.cells #[.string nm, .string vm, .bool bm] 23)).heap.size = w.heap.size + 1 + 1 := by simp
  rw [z1] at k1
  rw [z2] at k2
  have HS1 := Lib.hid hs1
  clear z1 z2
  obtain ⟨B, hB⟩ : ∃ B, B = w.heap.size := ⟨_, rfl⟩
  have hle : B ≤ w.heap.size := Nat.le_of_eq hB
  rw [← hB] at H1 HEV HM hb0 k0 k1 k2 ⊢
  have HB := Lib.hid hB
  clear hM h1 hs1 hE hB
  refine (callsIn_wide (n := 3)).1 ?_
  refine callsIn_of_wp_marks Tryd.func7 rfl trivial ?_ rfl
  simp only [Tryd.ntmps7, List.size_toArray, List.length_cons, List.length_nil, Nat.reduceAdd, Nat.reduceSub, Array.replicate_succ, Array.replicate_zero, List.push_toArray, List.append_toArray, List.nil_append, List.cons_append]
  gi_wp2
  refine ⟨trivial, callsIn_wide.2 ?_⟩
  rw [← HB.out]
  generalize ((w.alloc (.cells #[.int .i64 stop] 3)).alloc (.cells #[.string nm, .string vm, .bool bm] 23)).alloc (.cells #[.bool false] 4) = W0 at *
  refine (first_any M W0 (HM.out W0 hb0)).mono ?_
  rintro e w1 ⟨rfl, hx⟩
  have hb1 := hb0.trans (hx.mono (Nat.le_trans hle hb0.size))
  replace k0 := k0.below hx k0.lt
  replace k1 := k1.below hx k1.lt
  replace k2 := k2.below hx k2.lt
  clear hb0 hx
  gi_wp2
  refine ⟨trivial, callsIn_wide.2 ?_⟩
  refine (light_any A1 cap1 l1 (by omega) w1 (H1.out w1 hb1)).mono ?_
  rintro e w2 ⟨b1, rfl, hx⟩
  have hb2 := hb1.trans (hx.mono (Nat.le_trans hle hb1.size))
  replace k0 := k0.below hx k0.lt
  replace k1 := k1.below hx k1.lt
  replace k2 := k2.below hx k2.lt
  have f2 := k2.frozen 0
  have q2 : w2.cell? ⟨B + 1 + 1, 0, none⟩ = some (.bool false) := k2.cell 0
  have n0 : w2.cell? ⟨B + 1, 0, none⟩ = some (.string nm) := k1.cell 0
  have n1 : w2.cell? ⟨B + 1, 1, none⟩ = some (.string vm) := k1.cell 1
  clear hb1 hx
  rcases b1 with _ | _
  · gi_wp2
    refine ⟨trivial, ?_⟩
    gi_wp2
    refine ⟨_, bool_res (p := 8) rfl _ _ (B + 1 + 1) true rfl ?_, rfl, ?_⟩
    · exact (k2.set_ 0 (.bool true)).cell 0
    · exact hb2.setCell (p := ⟨B + 1 + 1, 0, none⟩) (show B ≤ B + 1 + 1 by omega) _
  by_cases hn1 : 20000 < nm.size
  · have hd : decide ((nm.size : Int) > 20000) = true := decide_eq_true (by omega)
    gi_wp2
    refine ⟨trivial, ?_⟩
    gi_wp2
    refine ⟨_, bool_res (p := 8) rfl _ _ (B + 1 + 1) true rfl ?_, rfl, ?_⟩
    · exact (k2.set_ 0 (.bool true)).cell 0
    · exact hb2.setCell (p := ⟨B + 1 + 1, 0, none⟩) (show B ≤ B + 1 + 1 by omega) _
  have hd1 : decide ((nm.size : Int) > 20000) = false := decide_eq_false (by omega)
  by_cases hn2 : 20000 < vm.size
  · have hd : decide ((vm.size : Int) > 20000) = true := decide_eq_true (by omega)
    gi_wp2
    refine ⟨trivial, ?_⟩
    gi_wp2
    refine ⟨_, bool_res (p := 8) rfl _ _ (B + 1 + 1) true rfl ?_, rfl, ?_⟩
    · exact (k2.set_ 0 (.bool true)).cell 0
    · exact hb2.setCell (p := ⟨B + 1 + 1, 0, none⟩) (show B ≤ B + 1 + 1 by omega) _
  have hd2 : decide ((vm.size : Int) > 20000) = false := decide_eq_false (by omega)
  have hmore : hsz (nm, vm) ≤ 4611686018427387904 := by unfold hsz; dsimp only; omega
  by_cases hn : n < 0 ∨ 4096 < n
  · gi_wp2
    refine ⟨trivial, callsIn_wide.2 ?_⟩
    refine (can_no n hn _).mono ?_
    rintro e w4 ⟨rfl, rfl⟩
    clear hn
    gi_wp2
    refine ⟨_, bool_res (p := 8) rfl _ _ (B + 1 + 1) true rfl ?_, rfl, ?_⟩
    · exact (k2.set_ 0 (.bool true)).cell 0
    · exact hb2.setCell (p := ⟨B + 1 + 1, 0, none⟩) (show B ≤ B + 1 + 1 by omega) _
  obtain ⟨m, rfl⟩ : ∃ m : Nat, n = (m : Int) := ⟨n.toNat, by omega⟩
  have hm : m ≤ 4096 := by omega
  clear hn
  gi_wp2
  refine ⟨trivial, callsIn_wide.2 ?_⟩
  refine (can_yes m hm _).mono ?_
  rintro e w4 ⟨rfl, rfl⟩
  gi_wp2
  refine ⟨trivial, callsIn_wide.2 ?_⟩
  refine (new_yes m hm w2).mono ?_
  rintro e w5 ⟨rfl, hx, hTa⟩
  have hb5 := hb2.trans (hx.mono (Nat.le_trans hle hb2.size))
  replace k0 := k0.below hx k0.lt
  replace k1 := k1.below hx k1.lt
  have hB2 : B + 1 + 1 < w2.heap.size := k2.lt
  replace k2 := k2.below hx k2.lt
  clear hb2 hx f2 q2 n0 n1
  generalize hra : w2.heap.size = r at *
  clear hra
  have hx : Since w5 (w5.alloc (.cells #[.pointer (some ⟨r + 1, 0, none⟩)] 33)) := (Below.refl _ _).alloc (Nat.le_refl _) _
  have hrt : r + 1 < w5.heap.size := hTa.kg.lt
  have HST := Lib.hid (show ESt w (w5.alloc (.cells #[.pointer (some ⟨r + 1, 0, none⟩)] 33)) B w5.heap.size (r + 1) r stop nm vm bm 0 m [] from
    ⟨k0.below hx k0.lt, k1.below hx k1.lt, k2.below hx k2.lt, Blk.new _ _ _, hTa.below hx, hb5.trans (Below.mono hx (Nat.le_trans hle hb5.size))⟩)
  clear hx hb5 hTa k0 k1 k2
  gi_wp2
  have htb : r + 1 < w5.heap.size := hrt
  generalize w5.alloc (.cells #[.pointer (some ⟨r + 1, 0, none⟩)] 33) = W6 at *
  generalize w5.heap.size = tb at *
  have H0 := Lib.hid (show EAt w B tb (r + 1) r stop nm vm bm W6 from ⟨0, m, [], HST.out⟩)
  clear HST hrt
  refine wpIn_wide.2 ?_
  go_loopw [12] (fun i wr => ∃ j : Nat, i = .int .i64 (j : Int) ∧ j ≤ l1.length ∧ EAt w B tb (r + 1) r stop nm vm bm wr) (fun i _ => l1.length - (intOf i).toNat)
  case atStart => exact ⟨0, rfl, by omega, H0.out⟩
  case round =>
    clear H0
    obtain ⟨j, rfl, hj, o, m0, Q, hS⟩ := hrel
    have ct : wr.cell? ⟨tb, 0, none⟩ = some (.pointer (some ⟨r + 1, 0, none⟩)) := hS.kt.cell 0
    by_cases hlt : j < l1.length
    · obtain ⟨cl, hc⟩ : ∃ cl, l1[j]? = some cl := ⟨_, List.getElem?_eq_getElem hlt⟩
      obtain ⟨b, off, rfl, _, c0, c1, c2, c3, c4⟩ := H1.out wr hS.hb j cl hc
      have hszc : hsz (cl.name, cl.value) ≤ 4611686018427387904 := HS1.out cl (List.mem_of_getElem? hc)
      have hd3 : decide ((j : Int) < (l1.length : Int)) = true := decide_eq_true (by omega)
      have HS := Lib.hid hS
      have hjl : (j : Int) < (l1.length : Int) := by omega
      by_cases hk : cl.kind = 1
      · rw [hk] at c0
        clear hk hc hS c1
        go_wp2_with fail
        refine wp_region_in_tail 6 (Since wr) (Since.drew0 wr) (by kernel_rfl) (by kernel_rfl) ?_
        simp only [List.take_succ_cons, List.take_zero, List.drop_succ_cons, List.drop_zero]
        repeat (first
          | go_big_quiet_skip
          | (go_big_quiet_want; go_big_quiet_op; go_big_quiet_on)
          | (go_big_quiet_want; apply in_val; (· intro W hW; have d0 := hW.cell ct; have d1 := hW.cell c2; have d2 := hW.cell c3; have d3 := hW.cell c4; go_simp; first | done | rfl); simp only [Act.put, List.setIfInBounds_toArray, List.set_cons_zero, List.set_cons_succ]; go_big_quiet_on))
        refine wpQuiet_nil ?_
        intro W7 hW7
        have hS7 := HS.out.since hW7 hle
        clear hW7 ct c0 c2 c3 c4
        go_wp2_with fail
        refine (add_any hS7.hT cl.name cl.value cl.never hszc).mono ?_
        rintro e w8 ⟨rfl, o', hT', hu⟩
        have HS8 := Lib.hid (hS7.upd hT' hu hle (by omega) (by omega) (by omega) (by omega))
        clear hS7 hT' hu
        go_wp2_with fail
        go_roundw
        case rel => exact ⟨j + 1, by go_num, by omega, o', m0, _, HS8.out⟩
        case measure => simp [intOf]; omega
      · have hk' : (cl.kind == 1) = false := by simpa using hk
        clear hk hc hS c2 c3 c4
        go_wp2_with fail
        refine wp_region_in_tail 6 (Since wr) (Since.drew0 wr) (by kernel_rfl) (by kernel_rfl) ?_
        simp only [List.take_succ_cons, List.take_zero, List.drop_succ_cons, List.drop_zero]
        repeat (first
          | go_big_quiet_skip
          | (go_big_quiet_want; go_big_quiet_op; go_big_quiet_on)
          | (go_big_quiet_want; apply in_val; (· intro W hW; have d0 := hW.cell ct; have d1 := hW.cell c1; go_simp; first | done | rfl); simp only [Act.put, List.setIfInBounds_toArray, List.set_cons_zero, List.set_cons_succ]; go_big_quiet_on))
        refine wpQuiet_nil ?_
        intro W7 hW7
        have hS7 := HS.out.since hW7 hle
        clear hW7 ct c0 c1
        go_wp2_with fail
        by_cases hf : cl.num < 0 ∨ 4096 < cl.num
        · refine (resize_no (r + 1) cl.num hf ev W7 (HEV.out W7 hS7.hb)).mono ?_
          rintro e w8 ⟨rfl, rfl⟩
          have HS8 := Lib.hid hS7
          clear hS7 hf
          go_wp2_with fail
          go_roundw
          case rel => exact ⟨j + 1, by go_num, by omega, o, m0, Q, HS8.out⟩
          case measure => simp [intOf]; omega
        · obtain ⟨kn, hkn⟩ : ∃ k : Nat, cl.num = (k : Int) := ⟨cl.num.toNat, by omega⟩
          rw [hkn]
          refine (resize_yes hS7.hT kn (by omega)).mono ?_
          rintro e w8 ⟨rfl, o', hT', hu⟩
          have HS8 := Lib.hid (hS7.upd hT' hu hle (by omega) (by omega) (by omega) (by omega))
          clear hS7 hT' hu hf hkn
          go_wp2_with fail
          go_roundw
          case rel => exact ⟨j + 1, by go_num, by omega, o', kn, _, HS8.out⟩
          case measure => simp [intOf]; omega
    · have hd3 : decide ((j : Int) < (l1.length : Int)) = false := decide_eq_false (by omega)
      have HS := Lib.hid hS
      have hmem : tb < wr.heap.size := hS.kt.lt
      clear hS ct
      go_wp2_with fail
      gi_wp2
      have HD0 : Hid (∀ i : Nat, i ∈ ([] : List Nat) → wr.heap[i]? = some (.deferred (some []))) := Lib.hid (fun i h => by cases h)
      refine wpIn_loop_rounds 3 ?_
      rw [roundsIn_succ]
      have hx0 : Since wr (wr.alloc (.cells #[.int .i64 0] 3)) := (Below.refl _ _).alloc (Nat.le_refl _) _
      have hrb0 := (Blk.new wr 3 #[.int .i64 0]).alloc (.cells #[.slice none 0 0] 51)
      have hx1 := Below.alloc hx0 hx0.size (.cells #[.slice none 0 0] 51)
      have hwb0 := Blk.new (wr.alloc (.cells #[.int .i64 0] 3)) 51 #[.slice none 0 0]
      have hz1 : (wr.alloc (.cells #[.int .i64 0] 3)).heap.size = wr.heap.size + 1 := by simp
      rw [hz1] at hwb0
      have hW0 : WAt w ((wr.alloc (.cells #[.int .i64 0] 3)).alloc (.cells #[.slice none 0 0] 51)) B tb (r + 1) r stop nm vm bm o m0 Q wr.heap.size (wr.heap.size + 1) 0 [] none 0 0 :=
        ⟨HS.out.since hx1 hle, hrb0, hwb0, World.ownsRow_nil _ _ _ _, fun D h => by cases h⟩
      clear hx0 hrb0 hx1 hwb0 hz1 HD0
      gi_wp2
      generalize (wr.alloc (.cells #[.int .i64 0] 3)).alloc (.cells #[.slice none 0 0] 51) = Wq at *
      obtain ⟨rb, hrbe⟩ : ∃ rb, rb = wr.heap.size := ⟨_, rfl⟩
      rw [← hrbe] at hW0 ⊢
      have htrb : tb < rb := by omega
      obtain ⟨wb, hwbe⟩ : ∃ wb, wb = rb + 1 := ⟨_, rfl⟩
      rw [← hwbe] at hW0 ⊢
      have hrwb : rb < wb := by omega
      clear hmem hrbe hwbe
      have HW0 := Lib.hid hW0
      clear hW0
      refine wpIn_wide.2 ?_
      go_loopw [15] (fun i wq => ∃ (k c : Nat) (A : Option Addr), i = .int .i64 (k : Int) ∧ k ≤ Q.length ∧ WAt w wq B tb (r + 1) r stop nm vm bm o m0 Q rb wb 0 [] A k c) (fun i _ => Q.length - (intOf i).toNat)
      case atStart => exact ⟨0, 0, none, rfl, Nat.zero_le _, HW0.out⟩
      case round =>
        clear HW0
        obtain ⟨k, c, A, rfl, hkq, hW⟩ := hrel
        obtain ⟨wq, rfl⟩ : ∃ wq : World, wq = wr := ⟨_, rfl⟩
        have HW := Lib.hid hW
        have hq128 := hW.hS.hT.len
        have ct : wq.cell? ⟨tb, 0, none⟩ = some (.pointer (some ⟨r + 1, 0, none⟩)) := hW.hS.kt.cell 0
        have HL := Lib.hid (len_any hW.hS.hT)
        by_cases hlt3 : k < Q.length
        · obtain ⟨x, hx⟩ : ∃ x, Q.reverse[k]? = some x := ⟨_, List.getElem?_eq_getElem (by simpa using hlt3)⟩
          have hg := get_any hW.hS.hT ((62 : Int) + (k : Int)) M (HM.out wq hW.hS.hb)
          rw [getAt_new, hx, hdR_some] at hg
          have HG := Lib.hid hg
          have HX := Lib.hid hx
          have hd4 : decide ((k : Int) < (Q.length : Int)) = true := decide_eq_true (by omega)
          obtain ⟨i, hi, hi0, hi1, hi2⟩ := info_parts infoHd
          have HI := Lib.hid hi
          have HON := Lib.hid (hncs_one [(x.1, x.2, false)])
          clear hW hg hx hi
          go_wp2_with fail
          refine HL.out.mono ?_
          rintro e wq1 ⟨rfl, rfl⟩
          go_wp2_with fail
          refine HG.out.mono ?_
          rintro e wq2 ⟨rfl, hx2⟩
          have hs3 := Below.alloc hx2 hx2.size (.cells #[.string x.1, .string x.2, .bool false] 23)
          have hs4 := Below.alloc hs3 hs3.size (.cells #[.string x.1, .string x.2, .bool false] 23)
          have w3 : (wq2.alloc (.cells #[.string x.1, .string x.2, .bool false] 23)).cell? ⟨wb, 0, none⟩ = some (.slice A k c) := (HW.out.hwb.below hs3 HW.out.hwb.lt).cell 0
          have z3 : (wq2.alloc (.cells #[.string x.1, .string x.2, .bool false] 23)).heap.size = wq2.heap.size + 1 := by simp
          have HZ3 := Lib.hid z3
          have HO4 := Lib.hid (own_since hs4 HW.out.hO)
          have HR : Hid (Reads ((wq2.alloc (.cells #[.string x.1, .string x.2, .bool false] 23)).alloc (.cells #[.string x.1, .string x.2, .bool false] 23)) (wq2.heap.size + 2) 3 (some ⟨wq2.heap.size + 1, 0, none⟩) 1 (hncs [(x.1, x.2, false)])) := Lib.hid ⟨rfl, fun _ => ⟨_, rfl, Nat.lt_succ_self _, fun j u hu => by
            rw [add_pl, Nat.zero_add]
            have := (Blk.new (wq2.alloc (.cells #[.string x.1, .string x.2, .bool false] 23)) 23 #[.string x.1, .string x.2, .bool false]).cell j
            rw [z3] at this
            exact this.trans (by simpa [hncs, hnc] using hu)⟩⟩
          have HWB4 := Lib.hid (HW.out.hwb.below hs4 HW.out.hwb.lt)
          have HBS : Hid (wb ≤ ((wq2.alloc (.cells #[.string x.1, .string x.2, .bool false] 23)).alloc (.cells #[.string x.1, .string x.2, .bool false] 23)).heap.size) := Lib.hid (Nat.le_of_lt HWB4.out.lt)
          have HS4 := Lib.hid hs4
          clear hx2 hs3 hs4 z3 ct HL HG
          go_wp2_with (refine wpList_append_any _ rfl (.tmp 98) (.tmp 100) 51 rfl wb 23 i (.agg #[.string ByteArray.empty, .string ByteArray.empty, .bool false]) 3 40 Tryd.underlying51 HI.out hi0 hi1 hi2 rfl (by decide) (.slice A k c) k (hncs ((hq Q).take k)) rfl HO4.out (wq2.heap.size + 2) (some ⟨wq2.heap.size + 1, 0, none⟩) 1 1 (hncs [(x.1, x.2, false)]) rfl HR.out HON.out (by unfold maxLen; omega) (by omega) HBS.out ?_; intro v6 w6 ho6 hg6 hat6; obtain ⟨A6, c6, rfl, _⟩ := own_slice ho6; have f6 : w6.frozen? ⟨wb, 0, none⟩ = false := (HWB4.out.grown hg6 (fun e => own_blk_ne HO4.out HWB4.out (by decide) e.symm)).frozen 0; have b6 : w6.cell? ⟨wb, 0, none⟩ = some (.slice A k c) := (HWB4.out.grown hg6 (fun e => own_blk_ne HO4.out HWB4.out (by decide) e.symm)).cell 0)
          have HN := Lib.hid (HW.out.more HX.out HS4.out hg6 ho6 hle hB2 htb (by omega) (by omega) rfl)
          clear ho6 hg6 hat6 f6 b6 w3
          go_wp2_with fail
          go_roundw
          case rel => exact ⟨k + 1, c6, A6, by go_num, by omega, HN.out⟩
          case measure => simp [intOf]; omega
        · have hkk : k = Q.length := by omega
          subst hkk
          have hd4 : decide ((Q.length : Int) < (Q.length : Int)) = false := decide_eq_false (by omega)
          clear hW hlt3
          go_wp2_with fail
          refine HL.out.mono ?_
          rintro e wq1 ⟨rfl, rfl⟩
          clear HL ct
          go_wp2_with fail
          have w3 : wq.cell? ⟨tb, 0, none⟩ = some (.pointer (some ⟨r + 1, 0, none⟩)) := HW.out.hS.kt.cell 0
          gi_wp2
          refine ⟨trivial, callsIn_wide.2 ?_⟩
          refine (each_any (r + 1) wq).mono ?_
          rintro e wq1 ⟨rfl, rfl⟩
          have hnil := each_nil
          gi_wp2
          clear hnil w3 hd4 hkq
          have hs1 : Since wq (wq.alloc (.cells #[.pointer (some ⟨r + 1, 0, none⟩)] 33)) := (Below.refl _ _).alloc (Nat.le_refl _) _
          have hs2 := Below.alloc hs1 hs1.size (.cells #[.int .i64 0] 3)
          have hbx := (Blk.new wq 33 #[.pointer (some ⟨r + 1, 0, none⟩)]).alloc (.cells #[.int .i64 0] 3)
          have hib := Blk.new (wq.alloc (.cells #[.pointer (some ⟨r + 1, 0, none⟩)] 33)) 3 #[.int .i64 0]
          have hz2 : (wq.alloc (.cells #[.pointer (some ⟨r + 1, 0, none⟩)] 33)).heap.size = wq.heap.size + 1 := by simp
          rw [hz2] at hib
          have hWS := HW.out.since hs2 hle
          have hwl : wb < wq.heap.size := HW.out.hwb.lt
          have hOS := hWS.hO
          rw [List.take_of_length_le (by rw [hq_length]; exact Nat.le_refl _)] at hOS
          have hR0 : RAt w ((wq.alloc (.cells #[.pointer (some ⟨r + 1, 0, none⟩)] 33)).alloc (.cells #[.int .i64 0] 3)) B tb r stop nm vm bm Q rb wb (wq.heap.size + 1) 0 [] A c 0 :=
            ⟨⟨_, _, _, hWS.hS⟩, hWS.hrb, hWS.hwb, hOS, hib, hWS.hD⟩
          have hst := each_stops 2 wq.heap.size (r + 1) r _ _ Q _ hWS.hS.hT (hbx.cell 0)
          have hibl := hib.lt
          clear hs1 hs2 hbx hib hz2 hWS hOS HW
          generalize (wq.alloc (.cells #[.pointer (some ⟨r + 1, 0, none⟩)] 33)).alloc (.cells #[.int .i64 0] 3) = WF at *
          obtain ⟨bx, hbxe⟩ : ∃ bx, bx = wq.heap.size := ⟨_, rfl⟩
          rw [← hbxe] at hwl hR0 hst hibl ⊢
          obtain ⟨ib, hibe⟩ : ∃ ib, ib = bx + 1 := ⟨_, rfl⟩
          rw [← hibe] at hR0 hibl ⊢
          have hRW : Rows w B tb r rb wb ib := ⟨hle, hB2, htb, htrb, hrwb, by omega⟩
          have HRW := Lib.hid hRW
          have HIB := Lib.hid hibl
          clear hwl hbxe hibe
          refine wpIn_each rfl hst hRW hibl hR0 ?assign ?body ?both
          case assign =>
            clear hst hRW hibl hR0
            intro l x W K hK
            gi_wp2_with (rw [Oper.semAt_eq _ _ _ (fun c h => by cases h)]; go_simp; try go_bits)
            exact hK _ ((Below.refl _ _).alloc (Nat.le_refl _) _) (Blk.new _ _ _)
          case body =>
            clear hst hRW hibl hR0
            intro l x Bx pre W hp hlt5 hR hbX hBx
            unfold roundAct
            simp only [List.setIfInBounds_toArray, List.set_cons_zero, List.set_cons_succ]
            generalize hpl : pre.length = k at *
            have d0 : W.cell? ⟨ib, 0, none⟩ = some (.int .i64 (k : Int)) := hR.hib.cell 0
            have e0 : W.cell? ⟨wb, 0, none⟩ = some (.slice A Q.length c) := hR.hwb.cell 0
            have f0 : W.cell? ⟨Bx, 0, none⟩ = some (.string (hat Q x).1) := hbX.cell 0
            have f1 : W.cell? ⟨Bx, 1, none⟩ = some (.string (hat Q x).2) := hbX.cell 1
            have f2 : W.cell? ⟨Bx, 2, none⟩ = some (.bool false) := hbX.cell 2
            have HR := Lib.hid hR
            have HSH := Lib.hid (fun W => same_header_any (hat Q x).1 (hat Q x).2 false W)
            by_cases hx : x = k
            · subst hx
              obtain ⟨b, off, rfl, _, g0, g1, g2⟩ := (HnAt.of_own hR.hO (hq Q).length) x _ (by rw [List.take_of_length_le (Nat.le_refl _)]; exact hq_hat Q x hlt5)
              have hx1 : (x : Int) < (Q.length : Int) := by omega
              have hwr : IntKind.i64.wrap ((62 : Int) + (x : Int)) = 62 + (x : Int) := IntWalk.i64_in _ (by omega)
              have hx6 : ¬ (Q.length ≤ x) := by omega
              have hx2 : ¬ ((Q.length : Int) ≤ (x : Int)) := by omega
              have hx3 : ¬ ((x : Int) ≥ (Q.length : Int)) := by omega
              clear hR hbX
              gi_wp2
              refine wpIn_round_region (Since W) (Since.drew0 W) (by kernel_rfl) (by kernel_rfl) (by kernel_rfl) ?_
              repeat (first
                | go_big_quiet_skip
                | (go_big_quiet_want; go_big_quiet_op; go_big_quiet_on)
                | (go_big_quiet_want; apply in_val; (· intro W hW; have d0 := hW.cell d0; have d1 := hW.cell e0; have d2 := hW.cell f0; have d3 := hW.cell f1; have d4 := hW.cell f2; have d5 := hW.cell g0; have d6 := hW.cell g1; have d7 := hW.cell g2; go_simp; first | done | rfl); simp only [Act.put, List.setIfInBounds_toArray, List.set_cons_zero, List.set_cons_succ]; go_big_quiet_on)
                | (go_big_quiet_want; apply in_q; (· intro W hW; go_simp; (go_at_call 16; with_reducible exact hW.call (HSH.out W))); simp only [Act.put, List.setIfInBounds_toArray, List.set_cons_zero, List.set_cons_succ]; go_big_quiet_on))
              refine wpQuiet_nil ?_
              intro W1 hW1
              have HR1 := Lib.hid (HR.out.since HRW.out hW1)
              have HR2 := Lib.hid (HR1.out.step HRW.out)
              have q0 : W1.cell? ⟨ib, 0, none⟩ = some (.int .i64 (x : Int)) := HR1.out.hib.cell 0
              have qf : W1.frozen? ⟨ib, 0, none⟩ = false := HR1.out.hib.frozen 0
              have p0 : (W1.setCell ⟨ib, 0, none⟩ (.int .i64 ((x : Int) + 1))).cell? ⟨rb, 0, none⟩ = some (.int .i64 0) := HR2.out.hrb.cell 0
              have p1 : (W1.setCell ⟨ib, 0, none⟩ (.int .i64 ((x : Int) + 1))).cell? ⟨ib, 0, none⟩ = some (.int .i64 ((x : Int) + 1)) := HR2.out.hib.cell 0
              obtain ⟨o2, m2, Q2, hS2⟩ := HR2.out.hS
              have p2 : (W1.setCell ⟨ib, 0, none⟩ (.int .i64 ((x : Int) + 1))).cell? ⟨B, 0, none⟩ = some (.int .i64 stop) := hS2.k0.cell 0
              have hu : Upd3 W (W1.setCell ⟨ib, 0, none⟩ (.int .i64 ((x : Int) + 1))) (fun k => k < WF.heap.size) := (Upd3.of_below hW1 _).setCell (p := ⟨ib, 0, none⟩) (.inl HIB.out) _
              gi_wp2_with (rw [Oper.semAt_eq _ _ _ (fun c h => by cases h)]; go_simp; try go_bits)
              · rename_i hse
                exact ⟨KeepsFrom.of_upd hu, each_exit hp rfl (by simpa using hse) HR2.out⟩
              · exact ⟨KeepsFrom.of_upd hu, KpC.of_upd hu, each_next hp HR2.out⟩
            · have hwr : IntKind.i64.wrap ((62 : Int) + (k : Int)) = 62 + (k : Int) := IntWalk.i64_in _ (by omega)
              have hx8 : ((62 : Int) + (x : Int) != (62 : Int) + (k : Int)) = true := bne_iff_ne.2 (by omega)
              have hx6 : ¬ (Q.length ≤ k) := by omega
              have hx2 : ¬ ((Q.length : Int) ≤ (k : Int)) := by omega
              have hx7 : (x == k) = false := by simpa using hx
              have hx3 : ¬ ((k : Int) ≥ (Q.length : Int)) := by omega
              have hx4 : ¬ ((62 : Int) + (x : Int) = (62 : Int) + (k : Int)) := by omega
              have hx5 : ((62 : Int) + (x : Int) == (62 : Int) + (k : Int)) = false := by simpa using hx4
              clear hR hbX
              gi_wp2
              refine wpIn_round_region (Since W) (Since.drew0 W) (by kernel_rfl) (by kernel_rfl) (by kernel_rfl) ?_
              repeat (first
                | go_big_quiet_skip
                | (go_big_quiet_want; go_big_quiet_op; go_big_quiet_on)
                | (go_big_quiet_want; apply in_val; (· intro W hW; have d0 := hW.cell d0; have d1 := hW.cell e0; have d2 := hW.cell f0; have d3 := hW.cell f1; have d4 := hW.cell f2; go_simp; first | done | rfl); simp only [Act.put, List.setIfInBounds_toArray, List.set_cons_zero, List.set_cons_succ]; go_big_quiet_on))
              refine wpQuiet_nil ?_
              intro W1 hW1
              obtain ⟨o2, m2, Q2, hS2⟩ := (HR.out.since HRW.out hW1).hS
              have q0 : W1.cell? ⟨B + 1 + 1, 0, none⟩ = some (.bool false) := hS2.k2.cell 0
              have qf : W1.frozen? ⟨B + 1 + 1, 0, none⟩ = false := hS2.k2.frozen 0
              have hu : Upd3 W (W1.setCell ⟨B + 1 + 1, 0, none⟩ (.bool false)) (fun k => k < WF.heap.size) := (Upd3.of_below hW1 _).setCell (p := ⟨B + 1 + 1, 0, none⟩) (.inl (by have := HIB.out; have := HRW.out.h0; have := HRW.out.h1; have := HRW.out.h2; have := HRW.out.h3; have := HRW.out.h4; show B + 1 + 1 < WF.heap.size; omega)) _
              gi_wp2_with (rw [Oper.semAt_eq _ _ _ (fun c h => by cases h)]; go_simp; try go_bits)
              exact ⟨KeepsFrom.of_upd hu, each_ret hp hx⟩
          case both =>
            intro D k W hD hk hor hR hdf
            have s0 : W.cell? ⟨ib, 0, none⟩ = some (.int .i64 (k : Int)) := hR.hib.cell 0
            have s1 : W.cell? ⟨wb, 0, none⟩ = some (.slice A Q.length c) := hR.hwb.cell 0
            have s2 : W.cell? ⟨rb, 0, none⟩ = some (.int .i64 0) := hR.hrb.cell 0
            obtain ⟨o3, m3, Q3, hS3⟩ := hR.hS
            have s3 : W.cell? ⟨B, 0, none⟩ = some (.int .i64 stop) := hS3.k0.cell 0
            by_cases hkl : k = Q.length
            · subst hkl
              have hn1 : ((Q.length : Int) != (Q.length : Int)) = false := by simp
              gi_wp2
              rw [roundsIn_succ]
              obtain ⟨o, m0, Q, hS3⟩ : ∃ o m Q, ESt w W B tb (r + 1) r stop nm vm bm o m Q := ⟨o3, m3, Q3, hS3⟩
              have hmem : tb < W.heap.size := hS3.kt.lt
              have hx0 : Since W (W.alloc (.cells #[.int .i64 1] 3)) := (Below.refl _ _).alloc (Nat.le_refl _) _
              have hrb0 := (Blk.new W 3 #[.int .i64 1]).alloc (.cells #[.slice none 0 0] 51)
              have hx1 := Below.alloc hx0 hx0.size (.cells #[.slice none 0 0] 51)
              have hwb0 := Blk.new (W.alloc (.cells #[.int .i64 1] 3)) 51 #[.slice none 0 0]
              have hz1 : (W.alloc (.cells #[.int .i64 1] 3)).heap.size = W.heap.size + 1 := by simp
              rw [hz1] at hwb0
              have hdl : D < W.heap.size := (Array.getElem?_eq_some_iff.1 hdf).1
              have hW0 : WAt w ((W.alloc (.cells #[.int .i64 1] 3)).alloc (.cells #[.slice none 0 0] 51)) B tb (r + 1) r stop nm vm bm o m0 Q W.heap.size (W.heap.size + 1) 1 [D] none 0 0 :=
                ⟨hS3.since hx1 hle, hrb0, hwb0, World.ownsRow_nil _ _ _ _, fun D' h => by cases (List.mem_singleton.1 h); exact ⟨by omega, (hx1.block D hdl).trans hdf⟩⟩
              have hBD : B + 1 + 1 < D := by have := HRW.out.h0; have := HRW.out.h1; have := HRW.out.h2; have := HRW.out.h3; have := HRW.out.h4; have := HIB.out; omega
              clear hx0 hrb0 hx1 hwb0 hz1 s0 s1 s2 s3 hR hn1 hor hS3 HRW HIB hdf
              gi_wp2
              generalize (W.alloc (.cells #[.int .i64 1] 3)).alloc (.cells #[.slice none 0 0] 51) = Wq1 at *
              obtain ⟨rb, hrbe⟩ : ∃ rb, rb = W.heap.size := ⟨_, rfl⟩
              rw [← hrbe] at hW0 hmem hdl ⊢
              have htrb : tb < rb := by omega
              obtain ⟨wb, hwbe⟩ : ∃ wb, wb = rb + 1 := ⟨_, rfl⟩
              rw [← hwbe] at hW0 ⊢
              have hrwb : rb < wb := by omega
              clear hmem hrbe hwbe
              have HW0 := Lib.hid hW0
              clear hW0
              refine wpIn_wide.2 ?_
              go_loopw [15] (fun i wq => ∃ (k c : Nat) (A : Option Addr), i = .int .i64 (k : Int) ∧ k ≤ Q.length ∧ WAt w wq B tb (r + 1) r stop nm vm bm o m0 Q rb wb 1 [D] A k c) (fun i _ => Q.length - (intOf i).toNat)
              case atStart => exact ⟨0, 0, none, rfl, Nat.zero_le _, HW0.out⟩
              case round =>
                clear HW0
                obtain ⟨k, c, A, rfl, hkq, hW⟩ := hrel
                obtain ⟨wq, rfl⟩ : ∃ wq : World, wq = wr := ⟨_, rfl⟩
                have HW := Lib.hid hW
                have hq128 := hW.hS.hT.len
                have ct : wq.cell? ⟨tb, 0, none⟩ = some (.pointer (some ⟨r + 1, 0, none⟩)) := hW.hS.kt.cell 0
                have HL := Lib.hid (len_any hW.hS.hT)
                by_cases hlt3 : k < Q.length
                · obtain ⟨x, hx⟩ : ∃ x, Q.reverse[k]? = some x := ⟨_, List.getElem?_eq_getElem (by simpa using hlt3)⟩
                  have hg := get_any hW.hS.hT ((62 : Int) + (k : Int)) M (HM.out wq hW.hS.hb)
                  rw [getAt_new, hx, hdR_some] at hg
                  have HG := Lib.hid hg
                  have HX := Lib.hid hx
                  have hd4 : decide ((k : Int) < (Q.length : Int)) = true := decide_eq_true (by omega)
                  obtain ⟨i, hi, hi0, hi1, hi2⟩ := info_parts infoHd
                  have HI := Lib.hid hi
                  have HON := Lib.hid (hncs_one [(x.1, x.2, false)])
                  clear hW hg hx hi
                  go_wp2_with fail
                  refine HL.out.mono ?_
                  rintro e wq1 ⟨rfl, rfl⟩
                  go_wp2_with fail
                  refine HG.out.mono ?_
                  rintro e wq2 ⟨rfl, hx2⟩
                  have hs3 := Below.alloc hx2 hx2.size (.cells #[.string x.1, .string x.2, .bool false] 23)
                  have hs4 := Below.alloc hs3 hs3.size (.cells #[.string x.1, .string x.2, .bool false] 23)
                  have w3 : (wq2.alloc (.cells #[.string x.1, .string x.2, .bool false] 23)).cell? ⟨wb, 0, none⟩ = some (.slice A k c) := (HW.out.hwb.below hs3 HW.out.hwb.lt).cell 0
                  have z3 : (wq2.alloc (.cells #[.string x.1, .string x.2, .bool false] 23)).heap.size = wq2.heap.size + 1 := by simp
                  have HZ3 := Lib.hid z3
                  have HO4 := Lib.hid (own_since hs4 HW.out.hO)
                  have HR : Hid (Reads ((wq2.alloc (.cells #[.string x.1, .string x.2, .bool false] 23)).alloc (.cells #[.string x.1, .string x.2, .bool false] 23)) (wq2.heap.size + 2) 3 (some ⟨wq2.heap.size + 1, 0, none⟩) 1 (hncs [(x.1, x.2, false)])) := Lib.hid ⟨rfl, fun _ => ⟨_, rfl, Nat.lt_succ_self _, fun j u hu => by
                    rw [add_pl, Nat.zero_add]
                    have := (Blk.new (wq2.alloc (.cells #[.string x.1, .string x.2, .bool false] 23)) 23 #[.string x.1, .string x.2, .bool false]).cell j
                    rw [z3] at this
                    exact this.trans (by simpa [hncs, hnc] using hu)⟩⟩
                  have HWB4 := Lib.hid (HW.out.hwb.below hs4 HW.out.hwb.lt)
                  have HBS : Hid (wb ≤ ((wq2.alloc (.cells #[.string x.1, .string x.2, .bool false] 23)).alloc (.cells #[.string x.1, .string x.2, .bool false] 23)).heap.size) := Lib.hid (Nat.le_of_lt HWB4.out.lt)
                  have HS4 := Lib.hid hs4
                  clear hx2 hs3 hs4 z3 ct HL HG
                  go_wp2_with (refine wpList_append_any _ rfl (.tmp 98) (.tmp 100) 51 rfl wb 23 i (.agg #[.string ByteArray.empty, .string ByteArray.empty, .bool false]) 3 40 Tryd.underlying51 HI.out hi0 hi1 hi2 rfl (by decide) (.slice A k c) k (hncs ((hq Q).take k)) rfl HO4.out (wq2.heap.size + 2) (some ⟨wq2.heap.size + 1, 0, none⟩) 1 1 (hncs [(x.1, x.2, false)]) rfl HR.out HON.out (by unfold maxLen; omega) (by omega) HBS.out ?_; intro v6 w6 ho6 hg6 hat6; obtain ⟨A6, c6, rfl, _⟩ := own_slice ho6; have f6 : w6.frozen? ⟨wb, 0, none⟩ = false := (HWB4.out.grown hg6 (fun e => own_blk_ne HO4.out HWB4.out (by decide) e.symm)).frozen 0; have b6 : w6.cell? ⟨wb, 0, none⟩ = some (.slice A k c) := (HWB4.out.grown hg6 (fun e => own_blk_ne HO4.out HWB4.out (by decide) e.symm)).cell 0)
                  have HN := Lib.hid (HW.out.more HX.out HS4.out hg6 ho6 hle hB2 htb (by omega) (by omega) rfl)
                  clear ho6 hg6 hat6 f6 b6 w3
                  go_wp2_with fail
                  go_roundw
                  case rel => exact ⟨k + 1, c6, A6, by go_num, by omega, HN.out⟩
                  case measure => simp [intOf]; omega
                · have hkk : k = Q.length := by omega
                  subst hkk
                  have hd4 : decide ((Q.length : Int) < (Q.length : Int)) = false := decide_eq_false (by omega)
                  clear hW hlt3
                  go_wp2_with fail
                  refine HL.out.mono ?_
                  rintro e wq1 ⟨rfl, rfl⟩
                  clear HL ct
                  go_wp2_with fail
                  have w3 : wq.cell? ⟨tb, 0, none⟩ = some (.pointer (some ⟨r + 1, 0, none⟩)) := HW.out.hS.kt.cell 0
                  gi_wp2
                  refine ⟨trivial, callsIn_wide.2 ?_⟩
                  refine (each_any (r + 1) wq).mono ?_
                  rintro e wq1 ⟨rfl, rfl⟩
                  have hnil := each_nil
                  gi_wp2
                  clear hnil w3 hd4 hkq
                  have hs1 : Since wq (wq.alloc (.cells #[.pointer (some ⟨r + 1, 0, none⟩)] 33)) := (Below.refl _ _).alloc (Nat.le_refl _) _
                  have hs2 := Below.alloc hs1 hs1.size (.cells #[.int .i64 0] 3)
                  have hbx := (Blk.new wq 33 #[.pointer (some ⟨r + 1, 0, none⟩)]).alloc (.cells #[.int .i64 0] 3)
                  have hib := Blk.new (wq.alloc (.cells #[.pointer (some ⟨r + 1, 0, none⟩)] 33)) 3 #[.int .i64 0]
                  have hz2 : (wq.alloc (.cells #[.pointer (some ⟨r + 1, 0, none⟩)] 33)).heap.size = wq.heap.size + 1 := by simp
                  rw [hz2] at hib
                  have hWS := HW.out.since hs2 hle
                  have hwl : wb < wq.heap.size := HW.out.hwb.lt
                  have hOS := hWS.hO
                  rw [List.take_of_length_le (by rw [hq_length]; exact Nat.le_refl _)] at hOS
                  have hR0 : RAt w ((wq.alloc (.cells #[.pointer (some ⟨r + 1, 0, none⟩)] 33)).alloc (.cells #[.int .i64 0] 3)) B tb r stop nm vm bm Q rb wb (wq.heap.size + 1) 1 [D] A c 0 :=
                    ⟨⟨_, _, _, hWS.hS⟩, hWS.hrb, hWS.hwb, hOS, hib, hWS.hD⟩
                  have hst := each_stops 2 wq.heap.size (r + 1) r _ _ Q _ hWS.hS.hT (hbx.cell 0)
                  have hibl := hib.lt
                  clear hs1 hs2 hbx hib hz2 hWS hOS HW
                  generalize (wq.alloc (.cells #[.pointer (some ⟨r + 1, 0, none⟩)] 33)).alloc (.cells #[.int .i64 0] 3) = WF at *
                  obtain ⟨bx, hbxe⟩ : ∃ bx, bx = wq.heap.size := ⟨_, rfl⟩
                  rw [← hbxe] at hwl hR0 hst hibl ⊢
                  obtain ⟨ib, hibe⟩ : ∃ ib, ib = bx + 1 := ⟨_, rfl⟩
                  rw [← hibe] at hR0 hibl ⊢
                  have hRW : Rows w B tb r rb wb ib := ⟨hle, hB2, htb, htrb, hrwb, by omega⟩
                  have HRW := Lib.hid hRW
                  have HIB := Lib.hid hibl
                  clear hwl hbxe hibe
                  refine wpIn_each rfl hst hRW hibl hR0 ?assign ?body ?both
                  case assign =>
                    clear hst hRW hibl hR0
                    intro l x W K hK
                    gi_wp2_with (rw [Oper.semAt_eq _ _ _ (fun c h => by cases h)]; go_simp; try go_bits)
                    exact hK _ ((Below.refl _ _).alloc (Nat.le_refl _) _) (Blk.new _ _ _)
                  case body =>
                    clear hst hRW hibl hR0
                    intro l x Bx pre W hp hlt5 hR hbX hBx
                    unfold roundAct
                    simp only [List.setIfInBounds_toArray, List.set_cons_zero, List.set_cons_succ]
                    generalize hpl : pre.length = k at *
                    have d0 : W.cell? ⟨ib, 0, none⟩ = some (.int .i64 (k : Int)) := hR.hib.cell 0
                    have e0 : W.cell? ⟨wb, 0, none⟩ = some (.slice A Q.length c) := hR.hwb.cell 0
                    have f0 : W.cell? ⟨Bx, 0, none⟩ = some (.string (hat Q x).1) := hbX.cell 0
                    have f1 : W.cell? ⟨Bx, 1, none⟩ = some (.string (hat Q x).2) := hbX.cell 1
                    have f2 : W.cell? ⟨Bx, 2, none⟩ = some (.bool false) := hbX.cell 2
                    have HR := Lib.hid hR
                    have HSH := Lib.hid (fun W => same_header_any (hat Q x).1 (hat Q x).2 false W)
                    by_cases hx : x = k
                    · subst hx
                      obtain ⟨b, off, rfl, _, g0, g1, g2⟩ := (HnAt.of_own hR.hO (hq Q).length) x _ (by rw [List.take_of_length_le (Nat.le_refl _)]; exact hq_hat Q x hlt5)
                      have hx1 : (x : Int) < (Q.length : Int) := by omega
                      have hwr : IntKind.i64.wrap ((62 : Int) + (x : Int)) = 62 + (x : Int) := IntWalk.i64_in _ (by omega)
                      have hx6 : ¬ (Q.length ≤ x) := by omega
                      have hx2 : ¬ ((Q.length : Int) ≤ (x : Int)) := by omega
                      have hx3 : ¬ ((x : Int) ≥ (Q.length : Int)) := by omega
                      clear hR hbX
                      gi_wp2
                      refine wpIn_round_region (Since W) (Since.drew0 W) (by kernel_rfl) (by kernel_rfl) (by kernel_rfl) ?_
                      repeat (first
                        | go_big_quiet_skip
                        | (go_big_quiet_want; go_big_quiet_op; go_big_quiet_on)
                        | (go_big_quiet_want; apply in_val; (· intro W hW; have d0 := hW.cell d0; have d1 := hW.cell e0; have d2 := hW.cell f0; have d3 := hW.cell f1; have d4 := hW.cell f2; have d5 := hW.cell g0; have d6 := hW.cell g1; have d7 := hW.cell g2; go_simp; first | done | rfl); simp only [Act.put, List.setIfInBounds_toArray, List.set_cons_zero, List.set_cons_succ]; go_big_quiet_on)
                        | (go_big_quiet_want; apply in_q; (· intro W hW; go_simp; (go_at_call 16; with_reducible exact hW.call (HSH.out W))); simp only [Act.put, List.setIfInBounds_toArray, List.set_cons_zero, List.set_cons_succ]; go_big_quiet_on))
                      refine wpQuiet_nil ?_
                      intro W1 hW1
                      have HR1 := Lib.hid (HR.out.since HRW.out hW1)
                      have HR2 := Lib.hid (HR1.out.step HRW.out)
                      have q0 : W1.cell? ⟨ib, 0, none⟩ = some (.int .i64 (x : Int)) := HR1.out.hib.cell 0
                      have qf : W1.frozen? ⟨ib, 0, none⟩ = false := HR1.out.hib.frozen 0
                      have p0 : (W1.setCell ⟨ib, 0, none⟩ (.int .i64 ((x : Int) + 1))).cell? ⟨rb, 0, none⟩ = some (.int .i64 1) := HR2.out.hrb.cell 0
                      have p1 : (W1.setCell ⟨ib, 0, none⟩ (.int .i64 ((x : Int) + 1))).cell? ⟨ib, 0, none⟩ = some (.int .i64 ((x : Int) + 1)) := HR2.out.hib.cell 0
                      obtain ⟨o2, m2, Q2, hS2⟩ := HR2.out.hS
                      have p2 : (W1.setCell ⟨ib, 0, none⟩ (.int .i64 ((x : Int) + 1))).cell? ⟨B, 0, none⟩ = some (.int .i64 stop) := hS2.k0.cell 0
                      have hu : Upd3 W (W1.setCell ⟨ib, 0, none⟩ (.int .i64 ((x : Int) + 1))) (fun k => k < WF.heap.size) := (Upd3.of_below hW1 _).setCell (p := ⟨ib, 0, none⟩) (.inl HIB.out) _
                      have t0 : (W1.setCell ⟨ib, 0, none⟩ (.int .i64 ((x : Int) + 1))).cell? ⟨tb, 0, none⟩ = some (.pointer (some ⟨r + 1, 0, none⟩)) := hS2.kt.cell 0
                      have n0 : (W1.setCell ⟨ib, 0, none⟩ (.int .i64 ((x : Int) + 1))).cell? ⟨B + 1, 0, none⟩ = some (.string nm) := hS2.k1.cell 0
                      have n1 : (W1.setCell ⟨ib, 0, none⟩ (.int .i64 ((x : Int) + 1))).cell? ⟨B + 1, 1, none⟩ = some (.string vm) := hS2.k1.cell 1
                      have n2 : (W1.setCell ⟨ib, 0, none⟩ (.int .i64 ((x : Int) + 1))).cell? ⟨B + 1, 2, none⟩ = some (.bool bm) := hS2.k1.cell 2
                      gi_wp2_with (rw [Oper.semAt_eq _ _ _ (fun c h => by cases h)]; go_simp; try go_bits)
                      · refine ⟨trivial, ?_⟩
                        refine (CallsIn.inRound l (callsIn_wide.2 (add_any hS2.hT nm vm bm hmore))).mono ?_
                        rintro e W3 ⟨rfl, o', hT', hu'⟩
                        have hR3 := HR2.out.add HRW.out (hS2.upd hT' hu' hle (by omega) (by omega) (by omega) (by omega)) hu'
                        have hu3 := hu.trans hu' (fun i h => .inl (by have := HIB.out; have := HRW.out.h1; have := HRW.out.h2; have := HRW.out.h3; have := HRW.out.h4; show i < WF.heap.size; omega))
                        have p3 : W3.cell? ⟨rb, 0, none⟩ = some (.int .i64 1) := hR3.hrb.cell 0
                        gi_wp2_with (rw [Oper.semAt_eq _ _ _ (fun c h => by cases h)]; go_simp; try go_bits)
                        exact ⟨KeepsFrom.of_upd hu3, KpC.of_upd hu3, each_next hp hR3⟩
                      · exact ⟨KeepsFrom.of_upd hu, KpC.of_upd hu, each_next hp HR2.out⟩
                    · have hwr : IntKind.i64.wrap ((62 : Int) + (k : Int)) = 62 + (k : Int) := IntWalk.i64_in _ (by omega)
                      have hx8 : ((62 : Int) + (x : Int) != (62 : Int) + (k : Int)) = true := bne_iff_ne.2 (by omega)
                      have hx6 : ¬ (Q.length ≤ k) := by omega
                      have hx2 : ¬ ((Q.length : Int) ≤ (k : Int)) := by omega
                      have hx7 : (x == k) = false := by simpa using hx
                      have hx3 : ¬ ((k : Int) ≥ (Q.length : Int)) := by omega
                      have hx4 : ¬ ((62 : Int) + (x : Int) = (62 : Int) + (k : Int)) := by omega
                      have hx5 : ((62 : Int) + (x : Int) == (62 : Int) + (k : Int)) = false := by simpa using hx4
                      clear hR hbX
                      gi_wp2
                      refine wpIn_round_region (Since W) (Since.drew0 W) (by kernel_rfl) (by kernel_rfl) (by kernel_rfl) ?_
                      repeat (first
                        | go_big_quiet_skip
                        | (go_big_quiet_want; go_big_quiet_op; go_big_quiet_on)
                        | (go_big_quiet_want; apply in_val; (· intro W hW; have d0 := hW.cell d0; have d1 := hW.cell e0; have d2 := hW.cell f0; have d3 := hW.cell f1; have d4 := hW.cell f2; go_simp; first | done | rfl); simp only [Act.put, List.setIfInBounds_toArray, List.set_cons_zero, List.set_cons_succ]; go_big_quiet_on))
                      refine wpQuiet_nil ?_
                      intro W1 hW1
                      obtain ⟨o2, m2, Q2, hS2⟩ := (HR.out.since HRW.out hW1).hS
                      have q0 : W1.cell? ⟨B + 1 + 1, 0, none⟩ = some (.bool false) := hS2.k2.cell 0
                      have qf : W1.frozen? ⟨B + 1 + 1, 0, none⟩ = false := hS2.k2.frozen 0
                      have hu : Upd3 W (W1.setCell ⟨B + 1 + 1, 0, none⟩ (.bool false)) (fun k => k < WF.heap.size) := (Upd3.of_below hW1 _).setCell (p := ⟨B + 1 + 1, 0, none⟩) (.inl (by have := HIB.out; have := HRW.out.h0; have := HRW.out.h1; have := HRW.out.h2; have := HRW.out.h3; have := HRW.out.h4; show B + 1 + 1 < WF.heap.size; omega)) _
                      gi_wp2_with (rw [Oper.semAt_eq _ _ _ (fun c h => by cases h)]; go_simp; try go_bits)
                      exact ⟨KeepsFrom.of_upd hu, each_ret hp hx⟩
                  case both =>
                    intro D1 k W hD1 hk hor hR hdf1
                    have hkl : k = Q.length := by rcases hor with h | h; exact h; exact absurd h.1 (by decide)
                    subst hkl
                    have s0 : W.cell? ⟨ib, 0, none⟩ = some (.int .i64 (Q.length : Int)) := hR.hib.cell 0
                    have s1 : W.cell? ⟨wb, 0, none⟩ = some (.slice A Q.length c) := hR.hwb.cell 0
                    have s2 : W.cell? ⟨rb, 0, none⟩ = some (.int .i64 1) := hR.hrb.cell 0
                    have hn1 : ((Q.length : Int) != (Q.length : Int)) = false := by simp
                    gi_wp2
                    rw [roundsIn_succ]
                    obtain ⟨o3, m3, Q3, hS3⟩ := hR.hS
                    have hxz : Since W (W.alloc (.cells #[.int .i64 2] 3)) := (Below.refl _ _).alloc (Nat.le_refl _) _
                    have hSz := hS3.since hxz hle
                    have y0 : (W.alloc (.cells #[.int .i64 2] 3)).cell? ⟨B + 1 + 1, 0, none⟩ = some (.bool false) := hSz.k2.cell 0
                    have y1 : (W.alloc (.cells #[.int .i64 2] 3)).frozen? ⟨B + 1 + 1, 0, none⟩ = false := hSz.k2.frozen 0
                    gi_wp2
                    have z0 := HRW.out.h0
                    have z1 := HRW.out.h1
                    have z2 := HRW.out.h2
                    have z3 := HRW.out.h3
                    have z4 := HRW.out.h4
                    have z5 := HIB.out
                    have hDw := hR.hD D (List.mem_singleton.2 rfl)
                    have hu2 : Upd3 W ((W.alloc (.cells #[.int .i64 2] 3)).setCell ⟨B + 1 + 1, 0, none⟩ (.bool true)) (fun k => k = B + 1 + 1) := Upd3.setCell (F := fun k => k = B + 1 + 1) ((Upd3.refl W _).alloc _) (p := ⟨B + 1 + 1, 0, none⟩) (.inl rfl) _
                    have hk2 : Blk ((W.alloc (.cells #[.int .i64 2] 3)).setCell ⟨B + 1 + 1, 0, none⟩ (.bool true)) (B + 1 + 1) 4 #[.bool true] := hSz.k2.set_ 0 (.bool true)
                    have hK1 := (hu2.block D1 (Array.getElem?_eq_some_iff.1 hdf1).1 (by omega)).trans hdf1
                    have hK0 := (hu2.block D (Array.getElem?_eq_some_iff.1 hDw.2).1 (by omega)).trans hDw.2
                    have hb2 := below_upd hS3.hb hu2 (by intro i e; omega) hle
                    have hD0w := hDw.1
                    clear hu2 y0 y1 hSz hxz hDw
                    generalize (W.alloc (.cells #[.int .i64 2] 3)).setCell ⟨B + 1 + 1, 0, none⟩ (.bool true) = W2 at *
                    have hK0' : (W2.putObj D1 (.deferred none)).heap[D]? = some (.deferred (some [])) := ((grownBy_putObj' W2 D1 (.deferred none)).block D (Array.getElem?_eq_some_iff.1 hK0).1 (by intro e; cases e; omega)).trans hK0
                    have hu3 : Upd3 W2 ((W2.putObj D1 (.deferred none)).putObj D (.deferred none)) (fun k => k = D1 ∨ k = D) := ((Upd3.refl W2 (fun k => k = D1 ∨ k = D)).grown (grownBy_putObj' W2 D1 _) (fun b hb => .inl (by cases hb; exact .inl rfl))).grown (grownBy_putObj' _ D _) (fun b hb => .inl (by cases hb; exact .inr rfl))
                    refine ⟨by simp, .inl ⟨_, _, rfl, run_takeDeferred hK1, ?_⟩⟩
                    refine ⟨by simp, .inl ⟨_, _, rfl, run_takeDeferred hK0', ?_⟩⟩
                    refine ⟨_, bool_res (p := 8) rfl _ _ (B + 1 + 1) true rfl ((hu3.blk hk2 (by omega)).cell 0), rfl, ?_⟩
                    exact below_upd hb2 hu3 (by rintro i (e | e) <;> omega) hle
            · have hor2 : (k : Int) = stop := by rcases hor with h | h; exact absurd h hkl; exact h.2
              obtain ⟨k0, hk0⟩ : ∃ k0, k0 = k := ⟨_, rfl⟩
              rw [← hk0] at hor2
              subst hor2
              have hn1 : ((k : Int) != (Q.length : Int)) = true := bne_iff_ne.2 (by omega)
              gi_wp2
              rw [roundsIn_succ]
              obtain ⟨o, m0, Q, hS3⟩ : ∃ o m Q, ESt w W B tb (r + 1) r (k0 : Int) nm vm bm o m Q := ⟨o3, m3, Q3, hS3⟩
              have hmem : tb < W.heap.size := hS3.kt.lt
              have hx0 : Since W (W.alloc (.cells #[.int .i64 1] 3)) := (Below.refl _ _).alloc (Nat.le_refl _) _
              have hrb0 := (Blk.new W 3 #[.int .i64 1]).alloc (.cells #[.slice none 0 0] 51)
              have hx1 := Below.alloc hx0 hx0.size (.cells #[.slice none 0 0] 51)
              have hwb0 := Blk.new (W.alloc (.cells #[.int .i64 1] 3)) 51 #[.slice none 0 0]
              have hz1 : (W.alloc (.cells #[.int .i64 1] 3)).heap.size = W.heap.size + 1 := by simp
              rw [hz1] at hwb0
              have hdl : D < W.heap.size := (Array.getElem?_eq_some_iff.1 hdf).1
              have hW0 : WAt w ((W.alloc (.cells #[.int .i64 1] 3)).alloc (.cells #[.slice none 0 0] 51)) B tb (r + 1) r (k0 : Int) nm vm bm o m0 Q W.heap.size (W.heap.size + 1) 1 [D] none 0 0 :=
                ⟨hS3.since hx1 hle, hrb0, hwb0, World.ownsRow_nil _ _ _ _, fun D' h => by cases (List.mem_singleton.1 h); exact ⟨by omega, (hx1.block D hdl).trans hdf⟩⟩
              have hBD : B + 1 + 1 < D := by have := HRW.out.h0; have := HRW.out.h1; have := HRW.out.h2; have := HRW.out.h3; have := HRW.out.h4; have := HIB.out; omega
              clear hx0 hrb0 hx1 hwb0 hz1 s0 s1 s2 s3 hR hn1 hor hS3 HRW HIB hdf
              gi_wp2
              generalize (W.alloc (.cells #[.int .i64 1] 3)).alloc (.cells #[.slice none 0 0] 51) = Wq1 at *
              obtain ⟨rb, hrbe⟩ : ∃ rb, rb = W.heap.size := ⟨_, rfl⟩
              rw [← hrbe] at hW0 hmem hdl ⊢
              have htrb : tb < rb := by omega
              obtain ⟨wb, hwbe⟩ : ∃ wb, wb = rb + 1 := ⟨_, rfl⟩
              rw [← hwbe] at hW0 ⊢
              have hrwb : rb < wb := by omega
              clear hmem hrbe hwbe
              have HW0 := Lib.hid hW0
              clear hW0
              refine wpIn_wide.2 ?_
              go_loopw [15] (fun i wq => ∃ (k c : Nat) (A : Option Addr), i = .int .i64 (k : Int) ∧ k ≤ Q.length ∧ WAt w wq B tb (r + 1) r (k0 : Int) nm vm bm o m0 Q rb wb 1 [D] A k c) (fun i _ => Q.length - (intOf i).toNat)
              case atStart => exact ⟨0, 0, none, rfl, Nat.zero_le _, HW0.out⟩
              case round =>
                clear HW0
                obtain ⟨k, c, A, rfl, hkq, hW⟩ := hrel
                obtain ⟨wq, rfl⟩ : ∃ wq : World, wq = wr := ⟨_, rfl⟩
                have HW := Lib.hid hW
                have hq128 := hW.hS.hT.len
                have ct : wq.cell? ⟨tb, 0, none⟩ = some (.pointer (some ⟨r + 1, 0, none⟩)) := hW.hS.kt.cell 0
                have HL := Lib.hid (len_any hW.hS.hT)
                by_cases hlt3 : k < Q.length
                · obtain ⟨x, hx⟩ : ∃ x, Q.reverse[k]? = some x := ⟨_, List.getElem?_eq_getElem (by simpa using hlt3)⟩
                  have hg := get_any hW.hS.hT ((62 : Int) + (k : Int)) M (HM.out wq hW.hS.hb)
                  rw [getAt_new, hx, hdR_some] at hg
                  have HG := Lib.hid hg
                  have HX := Lib.hid hx
                  have hd4 : decide ((k : Int) < (Q.length : Int)) = true := decide_eq_true (by omega)
                  obtain ⟨i, hi, hi0, hi1, hi2⟩ := info_parts infoHd
                  have HI := Lib.hid hi
                  have HON := Lib.hid (hncs_one [(x.1, x.2, false)])
                  clear hW hg hx hi
                  go_wp2_with fail
                  refine HL.out.mono ?_
                  rintro e wq1 ⟨rfl, rfl⟩
                  go_wp2_with fail
                  refine HG.out.mono ?_
                  rintro e wq2 ⟨rfl, hx2⟩
                  have hs3 := Below.alloc hx2 hx2.size (.cells #[.string x.1, .string x.2, .bool false] 23)
                  have hs4 := Below.alloc hs3 hs3.size (.cells #[.string x.1, .string x.2, .bool false] 23)
                  have w3 : (wq2.alloc (.cells #[.string x.1, .string x.2, .bool false] 23)).cell? ⟨wb, 0, none⟩ = some (.slice A k c) := (HW.out.hwb.below hs3 HW.out.hwb.lt).cell 0
                  have z3 : (wq2.alloc (.cells #[.string x.1, .string x.2, .bool false] 23)).heap.size = wq2.heap.size + 1 := by simp
                  have HZ3 := Lib.hid z3
                  have HO4 := Lib.hid (own_since hs4 HW.out.hO)
                  have HR : Hid (Reads ((wq2.alloc (.cells #[.string x.1, .string x.2, .bool false] 23)).alloc (.cells #[.string x.1, .string x.2, .bool false] 23)) (wq2.heap.size + 2) 3 (some ⟨wq2.heap.size + 1, 0, none⟩) 1 (hncs [(x.1, x.2, false)])) := Lib.hid ⟨rfl, fun _ => ⟨_, rfl, Nat.lt_succ_self _, fun j u hu => by
                    rw [add_pl, Nat.zero_add]
                    have := (Blk.new (wq2.alloc (.cells #[.string x.1, .string x.2, .bool false] 23)) 23 #[.string x.1, .string x.2, .bool false]).cell j
                    rw [z3] at this
                    exact this.trans (by simpa [hncs, hnc] using hu)⟩⟩
                  have HWB4 := Lib.hid (HW.out.hwb.below hs4 HW.out.hwb.lt)
                  have HBS : Hid (wb ≤ ((wq2.alloc (.cells #[.string x.1, .string x.2, .bool false] 23)).alloc (.cells #[.string x.1, .string x.2, .bool false] 23)).heap.size) := Lib.hid (Nat.le_of_lt HWB4.out.lt)
                  have HS4 := Lib.hid hs4
                  clear hx2 hs3 hs4 z3 ct HL HG
                  go_wp2_with (refine wpList_append_any _ rfl (.tmp 98) (.tmp 100) 51 rfl wb 23 i (.agg #[.string ByteArray.empty, .string ByteArray.empty, .bool false]) 3 40 Tryd.underlying51 HI.out hi0 hi1 hi2 rfl (by decide) (.slice A k c) k (hncs ((hq Q).take k)) rfl HO4.out (wq2.heap.size + 2) (some ⟨wq2.heap.size + 1, 0, none⟩) 1 1 (hncs [(x.1, x.2, false)]) rfl HR.out HON.out (by unfold maxLen; omega) (by omega) HBS.out ?_; intro v6 w6 ho6 hg6 hat6; obtain ⟨A6, c6, rfl, _⟩ := own_slice ho6; have f6 : w6.frozen? ⟨wb, 0, none⟩ = false := (HWB4.out.grown hg6 (fun e => own_blk_ne HO4.out HWB4.out (by decide) e.symm)).frozen 0; have b6 : w6.cell? ⟨wb, 0, none⟩ = some (.slice A k c) := (HWB4.out.grown hg6 (fun e => own_blk_ne HO4.out HWB4.out (by decide) e.symm)).cell 0)
                  have HN := Lib.hid (HW.out.more HX.out HS4.out hg6 ho6 hle hB2 htb (by omega) (by omega) rfl)
                  clear ho6 hg6 hat6 f6 b6 w3
                  go_wp2_with fail
                  go_roundw
                  case rel => exact ⟨k + 1, c6, A6, by go_num, by omega, HN.out⟩
                  case measure => simp [intOf]; omega
                · have hkk : k = Q.length := by omega
                  subst hkk
                  have hd4 : decide ((Q.length : Int) < (Q.length : Int)) = false := decide_eq_false (by omega)
                  clear hW hlt3
                  go_wp2_with fail
                  refine HL.out.mono ?_
                  rintro e wq1 ⟨rfl, rfl⟩
                  clear HL ct
                  go_wp2_with fail
                  have w3 : wq.cell? ⟨tb, 0, none⟩ = some (.pointer (some ⟨r + 1, 0, none⟩)) := HW.out.hS.kt.cell 0
                  gi_wp2
                  refine ⟨trivial, callsIn_wide.2 ?_⟩
                  refine (each_any (r + 1) wq).mono ?_
                  rintro e wq1 ⟨rfl, rfl⟩
                  have hnil := each_nil
                  gi_wp2
                  clear hnil w3 hd4 hkq
                  have hs1 : Since wq (wq.alloc (.cells #[.pointer (some ⟨r + 1, 0, none⟩)] 33)) := (Below.refl _ _).alloc (Nat.le_refl _) _
                  have hs2 := Below.alloc hs1 hs1.size (.cells #[.int .i64 0] 3)
                  have hbx := (Blk.new wq 33 #[.pointer (some ⟨r + 1, 0, none⟩)]).alloc (.cells #[.int .i64 0] 3)
                  have hib := Blk.new (wq.alloc (.cells #[.pointer (some ⟨r + 1, 0, none⟩)] 33)) 3 #[.int .i64 0]
                  have hz2 : (wq.alloc (.cells #[.pointer (some ⟨r + 1, 0, none⟩)] 33)).heap.size = wq.heap.size + 1 := by simp
                  rw [hz2] at hib
                  have hWS := HW.out.since hs2 hle
                  have hwl : wb < wq.heap.size := HW.out.hwb.lt
                  have hOS := hWS.hO
                  rw [List.take_of_length_le (by rw [hq_length]; exact Nat.le_refl _)] at hOS
                  have hR0 : RAt w ((wq.alloc (.cells #[.pointer (some ⟨r + 1, 0, none⟩)] 33)).alloc (.cells #[.int .i64 0] 3)) B tb r (k0 : Int) nm vm bm Q rb wb (wq.heap.size + 1) 1 [D] A c 0 :=
                    ⟨⟨_, _, _, hWS.hS⟩, hWS.hrb, hWS.hwb, hOS, hib, hWS.hD⟩
                  have hst := each_stops 2 wq.heap.size (r + 1) r _ _ Q _ hWS.hS.hT (hbx.cell 0)
                  have hibl := hib.lt
                  clear hs1 hs2 hbx hib hz2 hWS hOS HW
                  generalize (wq.alloc (.cells #[.pointer (some ⟨r + 1, 0, none⟩)] 33)).alloc (.cells #[.int .i64 0] 3) = WF at *
                  obtain ⟨bx, hbxe⟩ : ∃ bx, bx = wq.heap.size := ⟨_, rfl⟩
                  rw [← hbxe] at hwl hR0 hst hibl ⊢
                  obtain ⟨ib, hibe⟩ : ∃ ib, ib = bx + 1 := ⟨_, rfl⟩
                  rw [← hibe] at hR0 hibl ⊢
                  have hRW : Rows w B tb r rb wb ib := ⟨hle, hB2, htb, htrb, hrwb, by omega⟩
                  have HRW := Lib.hid hRW
                  have HIB := Lib.hid hibl
                  clear hwl hbxe hibe
                  refine wpIn_each rfl hst hRW hibl hR0 ?assign ?body ?both
                  case assign =>
                    clear hst hRW hibl hR0
                    intro l x W K hK
                    gi_wp2_with (rw [Oper.semAt_eq _ _ _ (fun c h => by cases h)]; go_simp; try go_bits)
                    exact hK _ ((Below.refl _ _).alloc (Nat.le_refl _) _) (Blk.new _ _ _)
                  case body =>
                    clear hst hRW hibl hR0
                    intro l x Bx pre W hp hlt5 hR hbX hBx
                    unfold roundAct
                    simp only [List.setIfInBounds_toArray, List.set_cons_zero, List.set_cons_succ]
                    generalize hpl : pre.length = k at *
                    have d0 : W.cell? ⟨ib, 0, none⟩ = some (.int .i64 (k : Int)) := hR.hib.cell 0
                    have e0 : W.cell? ⟨wb, 0, none⟩ = some (.slice A Q.length c) := hR.hwb.cell 0
                    have f0 : W.cell? ⟨Bx, 0, none⟩ = some (.string (hat Q x).1) := hbX.cell 0
                    have f1 : W.cell? ⟨Bx, 1, none⟩ = some (.string (hat Q x).2) := hbX.cell 1
                    have f2 : W.cell? ⟨Bx, 2, none⟩ = some (.bool false) := hbX.cell 2
                    have HR := Lib.hid hR
                    have HSH := Lib.hid (fun W => same_header_any (hat Q x).1 (hat Q x).2 false W)
                    by_cases hx : x = k
                    · subst hx
                      obtain ⟨b, off, rfl, _, g0, g1, g2⟩ := (HnAt.of_own hR.hO (hq Q).length) x _ (by rw [List.take_of_length_le (Nat.le_refl _)]; exact hq_hat Q x hlt5)
                      have hx1 : (x : Int) < (Q.length : Int) := by omega
                      have hwr : IntKind.i64.wrap ((62 : Int) + (x : Int)) = 62 + (x : Int) := IntWalk.i64_in _ (by omega)
                      have hx6 : ¬ (Q.length ≤ x) := by omega
                      have hx2 : ¬ ((Q.length : Int) ≤ (x : Int)) := by omega
                      have hx3 : ¬ ((x : Int) ≥ (Q.length : Int)) := by omega
                      clear hR hbX
                      gi_wp2
                      refine wpIn_round_region (Since W) (Since.drew0 W) (by kernel_rfl) (by kernel_rfl) (by kernel_rfl) ?_
                      repeat (first
                        | go_big_quiet_skip
                        | (go_big_quiet_want; go_big_quiet_op; go_big_quiet_on)
                        | (go_big_quiet_want; apply in_val; (· intro W hW; have d0 := hW.cell d0; have d1 := hW.cell e0; have d2 := hW.cell f0; have d3 := hW.cell f1; have d4 := hW.cell f2; have d5 := hW.cell g0; have d6 := hW.cell g1; have d7 := hW.cell g2; go_simp; first | done | rfl); simp only [Act.put, List.setIfInBounds_toArray, List.set_cons_zero, List.set_cons_succ]; go_big_quiet_on)
                        | (go_big_quiet_want; apply in_q; (· intro W hW; go_simp; (go_at_call 16; with_reducible exact hW.call (HSH.out W))); simp only [Act.put, List.setIfInBounds_toArray, List.set_cons_zero, List.set_cons_succ]; go_big_quiet_on))
                      refine wpQuiet_nil ?_
                      intro W1 hW1
                      have HR1 := Lib.hid (HR.out.since HRW.out hW1)
                      have HR2 := Lib.hid (HR1.out.step HRW.out)
                      have q0 : W1.cell? ⟨ib, 0, none⟩ = some (.int .i64 (x : Int)) := HR1.out.hib.cell 0
                      have qf : W1.frozen? ⟨ib, 0, none⟩ = false := HR1.out.hib.frozen 0
                      have p0 : (W1.setCell ⟨ib, 0, none⟩ (.int .i64 ((x : Int) + 1))).cell? ⟨rb, 0, none⟩ = some (.int .i64 1) := HR2.out.hrb.cell 0
                      have p1 : (W1.setCell ⟨ib, 0, none⟩ (.int .i64 ((x : Int) + 1))).cell? ⟨ib, 0, none⟩ = some (.int .i64 ((x : Int) + 1)) := HR2.out.hib.cell 0
                      obtain ⟨o2, m2, Q2, hS2⟩ := HR2.out.hS
                      have p2 : (W1.setCell ⟨ib, 0, none⟩ (.int .i64 ((x : Int) + 1))).cell? ⟨B, 0, none⟩ = some (.int .i64 (k0 : Int)) := hS2.k0.cell 0
                      have hu : Upd3 W (W1.setCell ⟨ib, 0, none⟩ (.int .i64 ((x : Int) + 1))) (fun k => k < WF.heap.size) := (Upd3.of_below hW1 _).setCell (p := ⟨ib, 0, none⟩) (.inl HIB.out) _
                      have t0 : (W1.setCell ⟨ib, 0, none⟩ (.int .i64 ((x : Int) + 1))).cell? ⟨tb, 0, none⟩ = some (.pointer (some ⟨r + 1, 0, none⟩)) := hS2.kt.cell 0
                      have n0 : (W1.setCell ⟨ib, 0, none⟩ (.int .i64 ((x : Int) + 1))).cell? ⟨B + 1, 0, none⟩ = some (.string nm) := hS2.k1.cell 0
                      have n1 : (W1.setCell ⟨ib, 0, none⟩ (.int .i64 ((x : Int) + 1))).cell? ⟨B + 1, 1, none⟩ = some (.string vm) := hS2.k1.cell 1
                      have n2 : (W1.setCell ⟨ib, 0, none⟩ (.int .i64 ((x : Int) + 1))).cell? ⟨B + 1, 2, none⟩ = some (.bool bm) := hS2.k1.cell 2
                      gi_wp2_with (rw [Oper.semAt_eq _ _ _ (fun c h => by cases h)]; go_simp; try go_bits)
                      · refine ⟨trivial, ?_⟩
                        refine (CallsIn.inRound l (callsIn_wide.2 (add_any hS2.hT nm vm bm hmore))).mono ?_
                        rintro e W3 ⟨rfl, o', hT', hu'⟩
                        have hR3 := HR2.out.add HRW.out (hS2.upd hT' hu' hle (by omega) (by omega) (by omega) (by omega)) hu'
                        have hu3 := hu.trans hu' (fun i h => .inl (by have := HIB.out; have := HRW.out.h1; have := HRW.out.h2; have := HRW.out.h3; have := HRW.out.h4; show i < WF.heap.size; omega))
                        have p3 : W3.cell? ⟨rb, 0, none⟩ = some (.int .i64 1) := hR3.hrb.cell 0
                        gi_wp2_with (rw [Oper.semAt_eq _ _ _ (fun c h => by cases h)]; go_simp; try go_bits)
                        exact ⟨KeepsFrom.of_upd hu3, KpC.of_upd hu3, each_next hp hR3⟩
                      · exact ⟨KeepsFrom.of_upd hu, KpC.of_upd hu, each_next hp HR2.out⟩
                    · have hwr : IntKind.i64.wrap ((62 : Int) + (k : Int)) = 62 + (k : Int) := IntWalk.i64_in _ (by omega)
                      have hx8 : ((62 : Int) + (x : Int) != (62 : Int) + (k : Int)) = true := bne_iff_ne.2 (by omega)
                      have hx6 : ¬ (Q.length ≤ k) := by omega
                      have hx2 : ¬ ((Q.length : Int) ≤ (k : Int)) := by omega
                      have hx7 : (x == k) = false := by simpa using hx
                      have hx3 : ¬ ((k : Int) ≥ (Q.length : Int)) := by omega
                      have hx4 : ¬ ((62 : Int) + (x : Int) = (62 : Int) + (k : Int)) := by omega
                      have hx5 : ((62 : Int) + (x : Int) == (62 : Int) + (k : Int)) = false := by simpa using hx4
                      clear hR hbX
                      gi_wp2
                      refine wpIn_round_region (Since W) (Since.drew0 W) (by kernel_rfl) (by kernel_rfl) (by kernel_rfl) ?_
                      repeat (first
                        | go_big_quiet_skip
                        | (go_big_quiet_want; go_big_quiet_op; go_big_quiet_on)
                        | (go_big_quiet_want; apply in_val; (· intro W hW; have d0 := hW.cell d0; have d1 := hW.cell e0; have d2 := hW.cell f0; have d3 := hW.cell f1; have d4 := hW.cell f2; go_simp; first | done | rfl); simp only [Act.put, List.setIfInBounds_toArray, List.set_cons_zero, List.set_cons_succ]; go_big_quiet_on))
                      refine wpQuiet_nil ?_
                      intro W1 hW1
                      obtain ⟨o2, m2, Q2, hS2⟩ := (HR.out.since HRW.out hW1).hS
                      have q0 : W1.cell? ⟨B + 1 + 1, 0, none⟩ = some (.bool false) := hS2.k2.cell 0
                      have qf : W1.frozen? ⟨B + 1 + 1, 0, none⟩ = false := hS2.k2.frozen 0
                      have hu : Upd3 W (W1.setCell ⟨B + 1 + 1, 0, none⟩ (.bool false)) (fun k => k < WF.heap.size) := (Upd3.of_below hW1 _).setCell (p := ⟨B + 1 + 1, 0, none⟩) (.inl (by have := HIB.out; have := HRW.out.h0; have := HRW.out.h1; have := HRW.out.h2; have := HRW.out.h3; have := HRW.out.h4; show B + 1 + 1 < WF.heap.size; omega)) _
                      gi_wp2_with (rw [Oper.semAt_eq _ _ _ (fun c h => by cases h)]; go_simp; try go_bits)
                      exact ⟨KeepsFrom.of_upd hu, each_ret hp hx⟩
                  case both =>
                    intro D1 k W hD1 hk hor hR hdf1
                    have hkl : k = Q.length := by rcases hor with h | h; exact h; exact absurd h.1 (by decide)
                    subst hkl
                    have s0 : W.cell? ⟨ib, 0, none⟩ = some (.int .i64 (Q.length : Int)) := hR.hib.cell 0
                    have s1 : W.cell? ⟨wb, 0, none⟩ = some (.slice A Q.length c) := hR.hwb.cell 0
                    have s2 : W.cell? ⟨rb, 0, none⟩ = some (.int .i64 1) := hR.hrb.cell 0
                    have hn1 : ((Q.length : Int) != (Q.length : Int)) = false := by simp
                    gi_wp2
                    rw [roundsIn_succ]
                    obtain ⟨o3, m3, Q3, hS3⟩ := hR.hS
                    have hxz : Since W (W.alloc (.cells #[.int .i64 2] 3)) := (Below.refl _ _).alloc (Nat.le_refl _) _
                    have hSz := hS3.since hxz hle
                    have y0 : (W.alloc (.cells #[.int .i64 2] 3)).cell? ⟨B + 1 + 1, 0, none⟩ = some (.bool false) := hSz.k2.cell 0
                    have y1 : (W.alloc (.cells #[.int .i64 2] 3)).frozen? ⟨B + 1 + 1, 0, none⟩ = false := hSz.k2.frozen 0
                    gi_wp2
                    have z0 := HRW.out.h0
                    have z1 := HRW.out.h1
                    have z2 := HRW.out.h2
                    have z3 := HRW.out.h3
                    have z4 := HRW.out.h4
                    have z5 := HIB.out
                    have hDw := hR.hD D (List.mem_singleton.2 rfl)
                    have hu2 : Upd3 W ((W.alloc (.cells #[.int .i64 2] 3)).setCell ⟨B + 1 + 1, 0, none⟩ (.bool true)) (fun k => k = B + 1 + 1) := Upd3.setCell (F := fun k => k = B + 1 + 1) ((Upd3.refl W _).alloc _) (p := ⟨B + 1 + 1, 0, none⟩) (.inl rfl) _
                    have hk2 : Blk ((W.alloc (.cells #[.int .i64 2] 3)).setCell ⟨B + 1 + 1, 0, none⟩ (.bool true)) (B + 1 + 1) 4 #[.bool true] := hSz.k2.set_ 0 (.bool true)
                    have hK1 := (hu2.block D1 (Array.getElem?_eq_some_iff.1 hdf1).1 (by omega)).trans hdf1
                    have hK0 := (hu2.block D (Array.getElem?_eq_some_iff.1 hDw.2).1 (by omega)).trans hDw.2
                    have hb2 := below_upd hS3.hb hu2 (by intro i e; omega) hle
                    have hD0w := hDw.1
                    clear hu2 y0 y1 hSz hxz hDw
                    generalize (W.alloc (.cells #[.int .i64 2] 3)).setCell ⟨B + 1 + 1, 0, none⟩ (.bool true) = W2 at *
                    have hK0' : (W2.putObj D1 (.deferred none)).heap[D]? = some (.deferred (some [])) := ((grownBy_putObj' W2 D1 (.deferred none)).block D (Array.getElem?_eq_some_iff.1 hK0).1 (by intro e; cases e; omega)).trans hK0
                    have hu3 : Upd3 W2 ((W2.putObj D1 (.deferred none)).putObj D (.deferred none)) (fun k => k = D1 ∨ k = D) := ((Upd3.refl W2 (fun k => k = D1 ∨ k = D)).grown (grownBy_putObj' W2 D1 _) (fun b hb => .inl (by cases hb; exact .inl rfl))).grown (grownBy_putObj' _ D _) (fun b hb => .inl (by cases hb; exact .inr rfl))
                    refine ⟨by simp, .inl ⟨_, _, rfl, run_takeDeferred hK1, ?_⟩⟩
                    refine ⟨by simp, .inl ⟨_, _, rfl, run_takeDeferred hK0', ?_⟩⟩
                    refine ⟨_, bool_res (p := 8) rfl _ _ (B + 1 + 1) true rfl ((hu3.blk hk2 (by omega)).cell 0), rfl, ?_⟩
                    exact below_upd hb2 hu3 (by rintro i (e | e) <;> omega) hle
end Go.Proofs.YtflmgjidnclegaaDoor.Tab
