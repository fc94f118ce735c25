/-
  The walk of the law HuffEncodes: it answers true.
-/
import Derived.Test.YtblenefhoidhaaaDoorHuffRefEnc
namespace Go.Proofs.YtblenefhoidhaaaDoor.Huff
open Go.RowKit
/-- the cells of a slice of one's own can be written -/
def OwnCells (base : Nat) (A : Option Addr) (n : Nat) (w : World) : Prop :=
  ∀ j, j < n → ∃ g, A = some ⟨g, 0, none⟩ ∧ base ≤ g ∧ ∃ cs, Blk w g 5 cs ∧ n ≤ cs.size
theorem own_cells {w : World} {base : Nat} {A : Option Addr} {n cap : Nat} {xs : List Value} (h : w.ownsRow base 5 1 (.slice A n cap) n xs) : OwnCells base A n w := by
  intro j hj
  rcases h.2 with ⟨_, h0⟩ | ⟨g, cap', cur, h1, h2, h3, h4, _, h5, _⟩
  · omega
  · injection h1 with h1 _ _
    exact ⟨g, h1, h2, cur, h3, by omega⟩
theorem own_slice_n {w : World} {base n : Nat} {v : Value} {xs : List UInt8} (hn : xs.length = n) (h : w.ownsRow base 5 1 v n (bytesV xs)) : ∃ A cap, v = .slice A n cap ∧ BytesAt w A xs := by
  subst hn
  exact own_slice h
theorem same_n (xs : List UInt8) (n : Nat) (hn : xs.length = n) (A B : Option Addr) (c d : Nat) (w : World) (hx : BytesAt w A xs) (hy : BytesAt w B xs) :
    Calls Tryd.prog 14 #[.slice A n c, .slice B n d] w fun e w' => e = .returned (.bool true) ∧ w = w' := by
  subst hn
  have h := same_any xs xs A B c d w hx hy
  rw [decide_eq_true rfl] at h
  exact h
set_option maxRecDepth 100000 in
set_option maxHeartbeats 1000000 in
theorem lenc_any (s : ByteArray) (v : Value) (w : World) (hv : w.cell? ⟨0, 0, none⟩ = some v) (hg : 0 < w.heap.size) :
    Calls Tryd.prog 6 #[.string s] w fun e w' => e = .returned (.bool true) ∧ Below w.heap.size w w' := by
  have HF := Lib.hid (first_any v w hv hg)
  by_cases hbig : 2000 < s.size
  · go_enter Tryd.func6, Tryd.ntmps6
    go_wp2_with fail
    refine HF.out.mono ?_
    rintro e w1 ⟨rfl, hb1⟩
    go_wp2_with fail
    all_goals (go_ret; exact ⟨rfl, hb1⟩)
  · have HE := fun W : World => Lib.hid (encode_any s W (by omega))
    have HR := fun W : World => Lib.hid (rencode_any s W (by omega))
    have HS := fun W : World => Lib.hid (size_any s W (by omega))
    have HT := fun W : World => Lib.hid (rsize_any s W (by omega))
    have hn : (enc s.data.toList).length ≤ 8000 := by
      have h1 := bitsIn_le s.data.toList
      have h2 : s.data.toList.length = s.size := by simp
      rw [enc_len]; omega
    generalize enc s.data.toList = E at *
    generalize (bitsIn s.data.toList + 7) / 8 = sz at *
    go_enter Tryd.func6, Tryd.ntmps6
    go_wp2_with fail
    refine HF.out.mono ?_
    rintro e w1 ⟨rfl, hb1⟩
    go_wp2_with fail
    refine (HE _).out.mono ?_
    rintro e w2 ⟨v1, rfl, ho1, hb2⟩
    obtain ⟨A, c1, rfl, hA1⟩ := own_slice ho1
    go_wp2_with fail
    refine (HR _).out.mono ?_
    rintro e w3 ⟨v2, rfl, ho2, hb3⟩
    obtain ⟨B, c2, rfl, hA2⟩ := own_slice ho2
    have hs1 := same_any E E A B c1 c2 w3 (hA1.below hb3) hA2
    rw [decide_eq_true rfl] at hs1
    go_wp2_with fail
    refine hs1.mono ?_
    rintro e w4 ⟨rfl, rfl⟩
    have hc0 : OwnCells w.heap.size A E.length w3 := by
      intro j hj
      obtain ⟨g, e, h1, cs, h2, h3⟩ := own_cells ho1 j hj
      exact ⟨g, e, Nat.le_trans hb1.size h1, cs, h2.below hb3 h2.lt, h3⟩
    have hB0 : Below w.heap.size w w3 := (hb1.trans (hb2.mono hb1.size)).trans (hb3.mono (Nat.le_trans hb1.size hb2.size))
    clear ho1 ho2 hA1 hA2 hs1 hb1 hb2 hb3
    generalize hEl : E.length = n at *
    have HEl := Lib.hid hEl
    clear hEl
    go_wp2_with fail
    go_loopw [6] (fun i wi => ∃ k : Nat, k ≤ n ∧ i = .int .i64 (k : Int) ∧ OwnCells w.heap.size A n wi ∧ Below w.heap.size w wi) (fun i _ => n - (intOf i).toNat)
    case atStart => exact ⟨0, Nat.zero_le _, rfl, hc0, hB0⟩
    case round =>
      obtain ⟨k, hk, rfl, hC, hB⟩ := hrel
      clear hc0 hB0
      by_cases hlt : k < n
      · obtain ⟨g, rfl, hg1, cs, hbk, hcs⟩ := hC k hlt
        obtain ⟨u, hu⟩ : ∃ u, cs[k]? = some u := ⟨cs[k], Array.getElem?_eq_getElem (by omega)⟩
        have hcell : wr.cell? ⟨g, k, none⟩ = some u := (hbk.cell k).trans hu
        have hfr : wr.frozen? ⟨g, k, none⟩ = false := hbk.frozen k
        go_wp2_with fail
        go_roundw
        case rel =>
          refine ⟨k + 1, by omega, by go_num, ?_, hB.setCell hg1 _⟩
          intro j hj
          exact ⟨g, rfl, hg1, _, hbk.set_ k _, by simpa using hcs⟩
        case measure => simp [intOf]; omega
      · go_wp2_with fail
        refine (HS _).out.mono ?_
        rintro e w5 ⟨rfl, rfl⟩
        go_wp2_with fail
        refine (HT _).out.mono ?_
        rintro e w5 ⟨rfl, rfl⟩
        go_wp2_with fail
        refine (HE _).out.mono ?_
        rintro e w5 ⟨v3, rfl, ho3, hb5⟩
        obtain ⟨C, c3, rfl, hA3⟩ := own_slice_n HEl.out ho3
        clear ho3
        go_wp2_with fail
        refine (HR _).out.mono ?_
        rintro e w6 ⟨v4, rfl, ho4, hb6⟩
        obtain ⟨D, c4, rfl, hA4⟩ := own_slice_n HEl.out ho4
        clear ho4
        go_wp2_with fail
        refine (same_n E n HEl.out C D c3 c4 w6 (hA3.below hb6) hA4).mono ?_
        rintro e w7 ⟨rfl, rfl⟩
        go_wp2_with fail
        go_ret
        exact ⟨rfl, (hB.trans (hb5.mono hB.size)).trans (hb6.mono (Nat.le_trans hB.size hb5.size))⟩
end Go.Proofs.YtblenefhoidhaaaDoor.Huff
