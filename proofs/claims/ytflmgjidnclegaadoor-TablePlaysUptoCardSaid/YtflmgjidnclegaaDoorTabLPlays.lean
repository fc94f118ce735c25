/-
  The law TablePlays returns true.
-/
import Derived.Test.YtflmgjidnclegaaDoorTabIs
import Derived.Test.YtflmgjidnclegaaDoorTabCals
import Derived.LaidEql
import Derived.Stop.IfaceNil
namespace Go.Proofs.YtflmgjidnclegaaDoor.Tab
open Go.RowKit
/-- where the loop stands: both tables hold the same -/
def PlayAt (w : World) (B g r x : Nat) (wr : World) : Prop := ∃ (o : Nat) (Q : List Hd) (m : Nat), Tbl wr g r o Q m ∧ RTbl wr B x r Q m ∧ Below B w wr
theorem infoE : (Tryd.prog.info? 149).map (·.comparable) = some true := by kernel_rfl
theorem infoS : (Tryd.prog.info? 164).isSome = true := by kernel_rfl
theorem eql_err (ad : Addr) (W : World) : (binOp .eql 35 (.iface 149 (.pointer (some ad))) (.iface 149 (.pointer (some ad)))).run Tryd.prog W = .ok (.bool true) W := by
  obtain ⟨i, hi, hc⟩ := Option.map_eq_some_iff.1 infoE
  obtain ⟨j, hj⟩ := Option.isSome_iff_exists.1 infoS
  exact run_eql_iface_ptr_same W ad Tryd.underlying35 Tryd.underlying149 hi hc hj
set_option maxRecDepth 100000 in
set_option maxHeartbeats 4000000 in
theorem lplays_any (n : Int) (A1 : Option Addr) (cap1 : Nat) (l1 : List Cal) (ask : Int) (name value : ByteArray) (hl1 : l1.length ≤ 1048576) (hs1 : Small l1) (hask : ask ≤ 9223372036854775807)
    (M : Int) (w : World) (hM : w.cell? ⟨6, 0, none⟩ = some (.int .i64 M)) (ad : Addr) (hE : w.cell? ⟨0, 0, none⟩ = some (.iface 149 (.pointer (some ad)))) (h1 : CalsAt w A1 l1) :
    Calls Tryd.prog 5 #[.int .i64 n, .slice A1 l1.length cap1, .int .i64 ask, .string name, .string value] w fun e w' => e = .returned (.bool true) ∧ Below w.heap.size w w' := by
  have HM := Lib.hid (fun (W : World) (hb : Below w.heap.size w W) => (Below.cell hb (p := ⟨6, 0, none⟩) (cell_in hM)).trans hM)
  have HEV := Lib.hid (fun (W : World) (hb : Below w.heap.size w W) => (Below.cell hb (p := ⟨0, 0, none⟩) (cell_in hE)).trans hE)
  have H1 := Lib.hid (fun (W : World) (hb : Below w.heap.size w W) => h1.below hb)
  have HF := Lib.hid (first_any M w hM)
  have HS1 := Lib.hid hs1
  obtain ⟨B, hB⟩ : ∃ B, B = w.heap.size := ⟨_, rfl⟩
  have hle : B ≤ w.heap.size := Nat.le_of_eq hB
  rw [← hB] at H1 HEV HM HF ⊢
  clear hM h1 hB hs1 hE
  go_enter Tryd.func5, Tryd.ntmps5
  go_wp2_with fail
  refine HF.out.mono ?_
  rintro e w1 ⟨rfl, hb1⟩
  clear HF
  go_wp2_with fail
  refine (light_any A1 cap1 l1 (by omega) w1 (H1.out w1 hb1)).mono ?_
  rintro e w2 ⟨b1, rfl, hx⟩
  have hb2 := hb1.trans (hx.mono (Nat.le_trans hle hb1.size))
  clear hb1 hx
  rcases b1 with _ | _
  · go_wp2_with fail
    go_ret
    exact ⟨rfl, hb2⟩
  by_cases hn1 : 20000 < name.size
  · have hd : decide ((name.size : Int) > 20000) = true := decide_eq_true (by omega)
    go_wp2_with fail
    go_ret
    exact ⟨rfl, hb2⟩
  have hd1 : decide ((name.size : Int) > 20000) = false := decide_eq_false (by omega)
  by_cases hn2 : 20000 < value.size
  · have hd : decide ((value.size : Int) > 20000) = true := decide_eq_true (by omega)
    go_wp2_with fail
    go_ret
    exact ⟨rfl, hb2⟩
  have hd2 : decide ((value.size : Int) > 20000) = false := decide_eq_false (by omega)
  by_cases hn : n < 0 ∨ 4096 < n
  · have HN := Lib.hid (new_no n hn _ w2 (HEV.out w2 hb2))
    have HC := Lib.hid (fun W => can_no n hn W)
    have HEQ := Lib.hid (eql_err ad)
    clear hn
    go_wp2_with fail
    refine HN.out.mono ?_
    rintro e w4 ⟨rfl, q, rfl⟩
    have hb4 := below_drewN hb2 q
    go_wp2_with fail
    refine (HC.out _).mono ?_
    rintro e w5 ⟨rfl, rfl⟩
    have c0 := HEV.out _ hb4
    have heq := HEQ.out
    go_wp2_with fail
    go_ret
    exact ⟨rfl, hb4⟩
  obtain ⟨m, rfl⟩ : ∃ m : Nat, n = (m : Int) := ⟨n.toNat, by omega⟩
  have hm : m ≤ 4096 := by omega
  clear hn
  go_wp2_with fail
  refine (new_yes m hm w2).mono ?_
  rintro e w5 ⟨rfl, hx, hTa⟩
  have hb5 := hb2.trans (hx.mono (Nat.le_trans hle hb2.size))
  have hra : B ≤ w2.heap.size := Nat.le_trans hle hb2.size
  clear hb2 hx
  generalize hra' : w2.heap.size = r at *
  clear hra'
  go_wp2_with fail
  refine (can_yes m hm _).mono ?_
  rintro e w6 ⟨rfl, rfl⟩
  go_wp2_with fail
  refine (rnew_any m hm w5 B r).mono ?_
  rintro e w7 ⟨rfl, hx, hXa⟩
  have hT7 := hTa.below hx
  have hb7 := hb5.trans (hx.mono (Nat.le_trans hle hb5.size))
  have hgx : r + 1 < w5.heap.size := hTa.kg.lt
  clear hb5 hx hTa
  generalize hxx : w5.heap.size = x at *
  clear hxx
  have H0 := Lib.hid (show PlayAt w B (r + 1) r x w7 from ⟨0, [], m, hT7, hXa, hb7⟩)
  clear hT7 hXa hb7
  go_wp2_with fail
  go_loopw [15] (fun i wr => ∃ j : Nat, i = .int .i64 (j : Int) ∧ j ≤ l1.length ∧ PlayAt w B (r + 1) r x wr) (fun i _ => l1.length - (intOf i).toNat)
  case atStart => exact ⟨0, rfl, by omega, H0.out⟩
  case round =>
    clear H0
    obtain ⟨j, rfl, hj, o, Q, m0, hT, hX, hb⟩ := hrel
    have hxl : x < wr.heap.size := hX.lt
    by_cases hlt : j < l1.length
    · obtain ⟨cl, hc⟩ : ∃ cl, l1[j]? = some cl := ⟨_, List.getElem?_eq_getElem hlt⟩
      obtain ⟨b, off, rfl, _, c0, c1, c2, c3, c4⟩ := H1.out wr hb j cl hc
      have hszc : hsz (cl.name, cl.value) ≤ 4611686018427387904 := HS1.out cl (List.mem_of_getElem? hc)
      have hd3 : decide ((j : Int) < (l1.length : Int)) = true := decide_eq_true (by omega)
      have HT := Lib.hid hT
      have HX := Lib.hid hX
      have HB := Lib.hid hb
      have HC := Lib.hid hc
      by_cases hk : cl.kind = 1
      · rw [hk] at c0
        clear hk hc hT hX hb c1
        go_wp2_with fail
        refine (add_any HT.out cl.name cl.value cl.never hszc).mono ?_
        rintro e w8 ⟨rfl, o', hT', hu⟩
        have hX' := HX.out.upd hu (by omega) (by rintro i (rfl | rfl); exact Or.inr (Or.inr (Or.inr ⟨_, _, HT.out.kg, by decide⟩)); exact Or.inl rfl)
        have hb' := below_upd HB.out hu (by rintro i (rfl | rfl) <;> omega) hle
        obtain ⟨b', off', hA', _, _, _, k2, k3, k4⟩ := H1.out w8 hb' j cl HC.out
        obtain ⟨rfl, rfl⟩ : b = b' ∧ off = off' := by injection hA' with hA'; injection hA' with x y; exact ⟨x, y⟩
        have hgl := hT'.kg.lt
        have HT' := Lib.hid hT'
        have HX' := Lib.hid hX'
        have HB' := Lib.hid hb'
        clear hu c0 c2 c3 c4 hA' hT' hX' hb' HT HX HB HC
        go_wp2_with fail
        refine (radd_any HX'.out (by omega) (Nat.le_trans hle HB'.out.size) cl.name cl.value cl.never hszc).mono ?_
        rintro e w9 ⟨rfl, hX9, hu⟩
        have hT9 := HT'.out.upd hu (by omega) (by omega)
        have hb9 := below_upd HB'.out hu (by rintro i rfl; omega) hle
        clear hu k2 k3 k4 HT' HX' HB' hgl
        have HI := Lib.hid (is_any hT9 hX9 ask hask M (HM.out _ hb9))
        have HT9 := Lib.hid hT9
        have HX9 := Lib.hid hX9
        have HB9 := Lib.hid hb9
        clear hT9 hX9 hb9
        go_wp2_with fail
        refine HI.out.mono ?_
        rintro e w10 ⟨rfl, hx10⟩
        have hP := Lib.hid (show PlayAt w B (r + 1) r x w10 from ⟨_, _, _, HT9.out.below hx10, HX9.out.below hx10, HB9.out.trans (hx10.mono (Nat.le_trans hle HB9.out.size))⟩)
        clear hx10 HI HT9 HX9 HB9
        go_wp2_with fail
        go_roundw
        case rel => exact ⟨j + 1, by go_num, by omega, hP.out⟩
        case measure => simp [intOf]; omega
      · have hk' : (cl.kind == 1) = false := by simpa using hk
        clear hk hc hT hX hb c2 c3 c4
        by_cases hf : cl.num < 0 ∨ 4096 < cl.num
        · have HR := Lib.hid (fun W hE => resize_no (r + 1) cl.num hf (.iface 149 (.pointer (some ad))) W hE)
          have HN := Lib.hid (fun W => can_no cl.num hf W)
          clear hf
          go_wp2_with fail
          refine (HN.out _).mono ?_
          rintro e w8 ⟨rfl, rfl⟩
          go_wp2_with fail
          refine (HR.out _ (HEV.out _ HB.out)).mono ?_
          rintro e w8 ⟨rfl, rfl⟩
          have hT9 := HT.out
          have hX9 := HX.out
          have hb9 := HB.out
          clear HR HN HT HX HB HC c0 c1
          have HI := Lib.hid (is_any hT9 hX9 ask hask M (HM.out _ hb9))
          have HT9 := Lib.hid hT9
          have HX9 := Lib.hid hX9
          have HB9 := Lib.hid hb9
          clear hT9 hX9 hb9
          go_wp2_with fail
          refine HI.out.mono ?_
          rintro e w10 ⟨rfl, hx10⟩
          have hP := Lib.hid (show PlayAt w B (r + 1) r x w10 from ⟨_, _, _, HT9.out.below hx10, HX9.out.below hx10, HB9.out.trans (hx10.mono (Nat.le_trans hle HB9.out.size))⟩)
          clear hx10 HI HT9 HX9 HB9
          go_wp2_with fail
          go_roundw
          case rel => exact ⟨j + 1, by go_num, by omega, hP.out⟩
          case measure => simp [intOf]; omega
        · obtain ⟨kn, hkn⟩ : ∃ k : Nat, cl.num = (k : Int) := ⟨cl.num.toNat, by omega⟩
          rw [hkn] at c1
          have hkm : kn ≤ 4096 := by omega
          clear hf
          go_wp2_with fail
          refine (can_yes kn hkm _).mono ?_
          rintro e w8 ⟨rfl, rfl⟩
          go_wp2_with fail
          refine (resize_yes HT.out kn hkm).mono ?_
          rintro e w8 ⟨rfl, o', hT', hu⟩
          have hX' := HX.out.upd hu (by omega) (by rintro i (rfl | rfl); exact Or.inr (Or.inr (Or.inr ⟨_, _, HT.out.kg, by decide⟩)); exact Or.inl rfl)
          have hb' := below_upd HB.out hu (by rintro i (rfl | rfl) <;> omega) hle
          obtain ⟨b', off', hA', _, _, k1, _, _, _⟩ := H1.out w8 hb' j cl HC.out
          obtain ⟨rfl, rfl⟩ : b = b' ∧ off = off' := by injection hA' with hA'; injection hA' with x y; exact ⟨x, y⟩
          rw [hkn] at k1
          have hgl := hT'.kg.lt
          have HT' := Lib.hid hT'
          have HX' := Lib.hid hX'
          have HB' := Lib.hid hb'
          clear hu c0 c1 hA' hT' hX' hb' HT HX HB HC hkn
          go_wp2_with fail
          refine (rresize_any HX'.out (by omega) (Nat.le_trans hle HB'.out.size) kn hkm).mono ?_
          rintro e w9 ⟨rfl, hX9, hu⟩
          have hT9 := HT'.out.upd hu (by omega) (by omega)
          have hb9 := below_upd HB'.out hu (by rintro i rfl; omega) hle
          clear hu k1 HT' HX' HB' hgl
          have HI := Lib.hid (is_any hT9 hX9 ask hask M (HM.out _ hb9))
          have HT9 := Lib.hid hT9
          have HX9 := Lib.hid hX9
          have HB9 := Lib.hid hb9
          clear hT9 hX9 hb9
          go_wp2_with fail
          refine HI.out.mono ?_
          rintro e w10 ⟨rfl, hx10⟩
          have hP := Lib.hid (show PlayAt w B (r + 1) r x w10 from ⟨_, _, _, HT9.out.below hx10, HX9.out.below hx10, HB9.out.trans (hx10.mono (Nat.le_trans hle HB9.out.size))⟩)
          clear hx10 HI HT9 HX9 HB9
          go_wp2_with fail
          go_roundw
          case rel => exact ⟨j + 1, by go_num, by omega, hP.out⟩
          case measure => simp [intOf]; omega
    · have hd3 : decide ((j : Int) < (l1.length : Int)) = false := decide_eq_false (by omega)
      have HFi := Lib.hid (find_any hT name value M (HM.out wr hb))
      have HRF := Lib.hid (fun W (h : Since wr W) => rfind_any (hX.below h) name value)
      have HB := Lib.hid hb
      clear hT hX hb
      go_wp2_with fail
      refine HFi.out.mono ?_
      rintro e w8 ⟨rfl, hx8⟩
      have hb8 := HB.out.trans (hx8.mono (Nat.le_trans hle HB.out.size))
      have HF8 := Lib.hid (HRF.out w8 hx8)
      clear hx8 HFi HRF HB
      go_wp2_with fail
      refine HF8.out.mono ?_
      rintro e w9 ⟨rfl, hx9⟩
      have hb9 := hb8.trans (hx9.mono (Nat.le_trans hle hb8.size))
      clear hx9 hb8 HF8
      generalize (findR name value Q).1 = fi at *
      generalize (findR name value Q).2 = fb at *
      go_wp2_with fail
      go_ret
      exact ⟨rfl, hb9⟩
end Go.Proofs.YtflmgjidnclegaaDoor.Tab
