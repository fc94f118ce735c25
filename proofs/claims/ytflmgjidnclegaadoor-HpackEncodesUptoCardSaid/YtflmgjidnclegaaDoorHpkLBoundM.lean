/-
  The walk of the law HpackBound.
-/
import Derived.Test.YtflmgjidnclegaaDoorPairM
import Derived.Test.YtflmgjidnclegaaDoorLawsM
import Derived.LaidEql
namespace Go.Proofs.YtflmgjidnclegaaDoor.Hpk
open Go.RowKit
open Huff (bytesV BytesAt)
open Tab (Hd hsz tot Hn Tbl HnAt hncs)
/-- the errors as they are laid -/
def evOf (ad : Er → Addr) : Er → Value := fun er => .iface 149 (.pointer (some (ad er)))
theorem infoE : (Tryd.prog.info? 149).map (·.comparable) = some true := by kernel_rfl
theorem infoS : (Tryd.prog.info? 164).isSome = true := by kernel_rfl
theorem neq_err (ad : Addr) (W : World) : (binOp .neq 35 (.iface 149 (.pointer (some ad))) (.iface 149 (.pointer (some ad)))).run Tryd.prog W = .ok (.bool false) W := by
  obtain ⟨i, hi, hc⟩ := Option.map_eq_some_iff.1 infoE
  obtain ⟨j, hj⟩ := Option.isSome_iff_exists.1 infoS
  simp only [binOp]
  simp [Op.equal, Op.maxDepth, run_equalIn_iface_ptr_same W 9998 ad Tryd.underlying35 Tryd.underlying149 hi hc hj]
/-- blocks among the arguments -/
abbrev Bk := Option Addr × Nat × List UInt8
def BksAt (w : World) (A : Option Addr) (l : List Bk) : Prop := ∀ (i : Nat) (x : Bk), l[i]? = some x → ∃ b off, A = some ⟨b, off, none⟩ ∧ b < w.heap.size ∧
  w.cell? ⟨b, off + i, none⟩ = some (.slice x.1 x.2.2.length x.2.1) ∧ BytesAt w x.1 x.2.2 ∧ (x.2.2.length ≤ x.2.1 ∧ x.2.1 ≤ 9223372036854775807)
theorem decode_arg {W w : World} {D g r lim m : Nat} {ev : Er → Value} {M : Int} {Q : List Hd} (xs : List UInt8) (A : Option Addr) (cap : Nat) (hd : Dec w D g r lim Q m false) (G : Glob w ev M) (hW : 10 ≤ W.heap.size)
    (hlow : W.heap.size ≤ g ∧ W.heap.size ≤ r ∧ W.heap.size ≤ D) (hne : D ≠ g ∧ D ≠ r) (hlm : lim ≤ 4096) (hx : BytesAt W A xs) (hb : Below W.heap.size W w) (hc : xs.length ≤ cap ∧ cap ≤ 9223372036854775807) :
    Calls Tryd.prog 41 #[.pointer (some ⟨D, 0, none⟩), .slice A xs.length cap] w (DecEnd w D g r lim ev (run lim xs.length ⟨xs, [], 0, Q, m⟩)) := by
  have hl : g < w.heap.size ∧ r < w.heap.size ∧ D < w.heap.size := by
    obtain ⟨o, ht⟩ := hd.kt
    obtain ⟨cs, hr, _⟩ := ht.kr
    exact ⟨ht.kg.lt, hr.lt, hd.kd.lt⟩
  cases xs with
  | nil => exact decode_nil A cap hd
  | cons x t =>
    obtain ⟨b, off, hA, hbl, _⟩ := hx 0 (by simp)
    subst hA
    exact decode_blk (bb := b) (x :: t) _ cap hd ⟨by omega, hl, hne.1, hne.2, G.er, G.mx, by omega, hlm⟩ (hx.below hb) hc (fun ad' e => by injection e with e; subst e; rfl)
theorem tots_len (L : List Hn) : L.length * 32 ≤ tots L := by
  induction L with
  | nil => simp [tots]
  | cons h t ih => simp only [List.length_cons, tots, hsz]; omega
theorem tot_len' {w : World} {g r o m : Nat} {Q : List Hd} (_ht : Tbl w g r o Q m) (h : tot Q ≤ m) : Q.length * 32 ≤ m := Nat.le_trans (Tab.tot_len Q) h
set_option maxRecDepth 100000 in
set_option maxHeartbeats 4000000 in
theorem lbound_any (lim : Int) (A : Option Addr) (cap : Nat) (l : List Bk) (hl : l.length ≤ 9223372036854775807) (ad : Er → Addr) (M : Int) (W : World) (G : Glob W (evOf ad) M) (hB : BksAt W A l) :
    Calls Tryd.prog 9 #[.int .i64 lim, .slice A l.length cap] W fun e w' => e = .returned (.bool true) ∧ Below W.heap.size W w' := by
  have HG := Lib.hid G
  have HBK := Lib.hid hB
  have hs0 := G.hs
  clear G hB
  go_enter Tryd.func9, Tryd.ntmps9
  go_wp2_with fail
  refine (first_any W HG.out).mono ?_
  rintro e w1 ⟨rfl, hb1⟩
  have HB1 := Lib.hid hb1
  have hs1 := hb1.size
  clear hb1
  by_cases c1 : 20 < l.length
  · have d1 : decide ((l.length : Int) > 20) = true := decide_eq_true (by omega)
    go_wp2_with fail
    go_ret
    exact ⟨rfl, HB1.out⟩
  have d1 : decide ((l.length : Int) > 20) = false := decide_eq_false (by omega)
  have hl20 : l.length ≤ 20 := by omega
  by_cases c2 : lim < 0
  · have d2 : decide (lim < 0) = true := decide_eq_true c2
    go_wp2_with fail
    go_ret
    exact ⟨rfl, HB1.out⟩
  have d2 : decide (lim < 0) = false := decide_eq_false c2
  by_cases c3 : 4096 < lim
  · have d3 : decide (lim > 4096) = true := decide_eq_true c3
    go_wp2_with fail
    go_ret
    exact ⟨rfl, HB1.out⟩
  have d3 : decide (lim > 4096) = false := decide_eq_false c3
  obtain ⟨n, rfl⟩ : ∃ n : Nat, lim = (n : Int) := ⟨lim.toNat, by omega⟩
  have hn : n ≤ 4096 := by omega
  go_wp2_with fail
  refine (newdec_yes n hn w1).mono ?_
  rintro e w2 ⟨D, rfl, hD, hb2, kd2, o2, ht2⟩
  have hD2 := kd2.lt
  have HB2 := Lib.hid (HB1.out.trans (hb2.mono HB1.out.size))
  have HD2 := Lib.hid (⟨kd2, o2, ht2⟩ : Dec w2 D (w1.heap.size + 1) w1.heap.size n [] n false)
  clear hb2 kd2 ht2 d1 d2 d3 c1 c2 c3
  obtain ⟨g, hg⟩ : ∃ g, g = w1.heap.size + 1 := ⟨_, rfl⟩
  obtain ⟨r, hr⟩ : ∃ r, r = w1.heap.size := ⟨_, rfl⟩
  rw [← hg, ← hr] at HD2
  go_wp2_with fail
  go_loopw [8, 9] (fun gn i wr => ∃ (k : Nat) (b : Bool) (Q : List Hd) (m : Nat), i = .int .i64 (k : Int) ∧ gn = .bool b ∧ k ≤ l.length ∧ Dec wr D g r n Q m b ∧ (tot Q ≤ m ∧ m ≤ n) ∧ Below W.heap.size W wr) (fun _ i _ => l.length - (intOf i).toNat)
  case atStart => exact ⟨0, false, [], n, rfl, rfl, Nat.zero_le _, HD2.out, ⟨by simp [tot], Nat.le_refl _⟩, HB2.out⟩
  case round =>
    clear HD2 HB2 HB1
    obtain ⟨k, b, Q, m, rfl, rfl, hk, hd, hq, hb⟩ := hrel
    have HD := Lib.hid hd
    have HB := Lib.hid hb
    have hs2 := hb.size
    clear hd hb
    by_cases hlt : k < l.length
    · obtain ⟨x, hx⟩ : ∃ x, l[k]? = some x := ⟨_, List.getElem?_eq_getElem hlt⟩
      obtain ⟨b0, off, hA, hbl, c0, hxs, hcap⟩ := HBK.out k x hx
      subst hA
      obtain ⟨Ak, ck, xs⟩ := x
      simp only at c0 hxs hcap
      have cw := (Below.cell HB.out (p := ⟨b0, off + k, none⟩) hbl).trans c0
      have dk : decide ((k : Int) < (l.length : Int)) = true := decide_eq_true (by omega)
      have HXS := Lib.hid hxs
      clear c0 hxs hx hbl
      by_cases h300 : 300 < xs.length
      · have d3 : decide ((xs.length : Int) > 300) = true := decide_eq_true (by omega)
        go_wp2_with fail
        go_ret
        exact ⟨rfl, HB.out⟩
      have d3 : decide ((xs.length : Int) > 300) = false := decide_eq_false (by omega)
      have GR := HG.out.since HB.out
      cases b with
      | true =>
        have HC := Lib.hid (decode_gone (ev := evOf ad) Ak xs.length ck HD.out GR.er)
        clear GR
        go_wp2_with fail
        refine HC.out.mono ?_
        rintro e w4 ⟨rfl, hb4⟩
        have hb5 := HB.out.trans (hb4.mono HB.out.size)
        have HB5 := Lib.hid hb5
        have HD5 := Lib.hid (HD.out.below hb4)
        have eg : w4.cell? ⟨1, 0, none⟩ = some (evOf ad .gone) := ((HG.out.since hb5).er .gone).1
        unfold evOf at eg ⊢
        have HNE := neq_err (ad .gone) w4
        obtain ⟨o5, ht5⟩ := HD5.out.kt
        have HL := Lib.hid (declen_any HD5.out.kd ht5)
        have hql := tot_len' ht5 hq.1
        have dl : decide ((Q.length : Int) * 32 > (n : Int)) = false := decide_eq_false (by omega)
        have HZ := Lib.hid (lsize_any none 0 [] (by simp) (by simp [tots]) w4 (fun i h hi => by simp at hi))
        clear hb4 hb5 ht5 HC HB HD cw
        go_wp2_with fail
        refine HL.out.mono ?_
        rintro e w5 ⟨rfl, rfl⟩
        go_wp2_with fail
        refine HZ.out.mono ?_
        rintro e w6 ⟨rfl, hb6⟩
        have HB6 := Lib.hid (HB5.out.trans (hb6.mono HB5.out.size))
        have HD6 := Lib.hid (HD5.out.below hb6)
        clear hb6 HB5 HD5 HL HZ
        go_wp2_with fail
        go_roundw
        case rel => exact ⟨k + 1, true, Q, m, by go_num, rfl, by omega, HD6.out, hq, HB6.out⟩
        case measure => simp [intOf]; omega
      | false =>
        have HC := Lib.hid (decode_arg (M := M) xs Ak ck HD.out GR hs0 (by omega) (by omega) hn HXS.out HB.out hcap)
        have hfit := run_fit n xs.length ⟨xs, [], 0, Q, m⟩ ⟨hq.1, hq.2, rfl, by simp⟩
        clear GR
        go_wp2_with fail
        refine HC.out.mono ?_
        intro e w4 hdec
        clear HC cw HXS
        cases hrun : run n xs.length ⟨xs, [], 0, Q, m⟩ with
        | ok s =>
          rw [hrun] at hdec hfit
          obtain ⟨ov, rfl, ho4, hd4, hu4⟩ := hdec
          obtain ⟨hf1, hf2, hf3, hf4⟩ : Fit n s := hfit
          obtain ⟨A4, c4, rfl, -, -⟩ := Tab.own_slice ho4
          have HB4 := Lib.hid (below_upd HB.out hu4 (by omega) (by omega) : Below W.heap.size W w4)
          have HD4 := Lib.hid hd4
          obtain ⟨o4, ht4⟩ := hd4.kt
          have HL := Lib.hid (declen_any hd4.kd ht4)
          have hql := tot_len' ht4 hf1
          have hol := tots_len s.out
          have dl : decide ((s.Q.length : Int) * 32 > (n : Int)) = false := decide_eq_false (by omega)
          have dz : decide ((tots s.out : Int) > 16384) = false := decide_eq_false (by omega)
          have HZ := Lib.hid (lsize_any A4 c4 s.out (by omega) (by omega) w4 (HnAt.own ho4))
          clear ho4 hu4 hd4 ht4 HB HD hrun
          go_wp2_with fail
          refine HL.out.mono ?_
          rintro e w5 ⟨rfl, rfl⟩
          go_wp2_with fail
          refine HZ.out.mono ?_
          rintro e w6 ⟨rfl, hb6⟩
          have HB6 := Lib.hid (HB4.out.trans (hb6.mono HB4.out.size))
          have HD6 := Lib.hid (HD4.out.below hb6)
          clear hb6 HB4 HD4 HL HZ
          go_wp2_with fail
          go_roundw
          case rel => exact ⟨k + 1, false, s.Q, s.m, by go_num, rfl, by omega, HD6.out, ⟨hf1, hf2⟩, HB6.out⟩
          case measure => simp [intOf]; omega
        | error p =>
          obtain ⟨er, s⟩ := p
          rw [hrun] at hdec hfit
          obtain ⟨rfl, hd4, hu4⟩ := hdec
          obtain ⟨hf1, hf2, -, -⟩ : Fit n s := hfit
          have HB4 := Lib.hid (below_upd HB.out hu4 (by omega) (by omega) : Below W.heap.size W w4)
          have HD4 := Lib.hid hd4
          obtain ⟨o4, ht4⟩ := hd4.kt
          have HL := Lib.hid (declen_any hd4.kd ht4)
          have hql := tot_len' ht4 hf1
          have dl : decide ((s.Q.length : Int) * 32 > (n : Int)) = false := decide_eq_false (by omega)
          have HZ := Lib.hid (lsize_any none 0 [] (by simp) (by simp [tots]) w4 (fun i h hi => by simp at hi))
          unfold evOf
          clear hu4 hd4 ht4 HB HD hrun
          go_wp2_with fail
          refine HL.out.mono ?_
          rintro e w5 ⟨rfl, rfl⟩
          go_wp2_with fail
          refine HZ.out.mono ?_
          rintro e w6 ⟨rfl, hb6⟩
          have HB6 := Lib.hid (HB4.out.trans (hb6.mono HB4.out.size))
          have HD6 := Lib.hid (HD4.out.below hb6)
          clear hb6 HB4 HD4 HL HZ
          go_wp2_with fail
          go_roundw
          case rel => exact ⟨k + 1, true, s.Q, s.m, by go_num, rfl, by omega, HD6.out, ⟨hf1, hf2⟩, HB6.out⟩
          case measure => simp [intOf]; omega
    · have dk : decide ((k : Int) < (l.length : Int)) = false := decide_eq_false (by omega)
      go_wp2_with fail
      go_ret
      exact ⟨rfl, HB.out⟩
end Go.Proofs.YtflmgjidnclegaaDoor.Hpk
