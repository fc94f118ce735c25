/-
  The walk of the law HuffCodes: it answers true.
-/
import Derived.Test.YtblenefhoidhaaaDoorHuffRef
namespace Go.Proofs.YtblenefhoidhaaaDoor.Huff
open Go.RowKit
set_option maxRecDepth 100000 in
set_option maxHeartbeats 1000000 in
theorem lcodes_any (x : Int) (v : Value) (w : World) (hv : w.cell? ⟨0, 0, none⟩ = some v) (hg : 0 < w.heap.size) :
    Calls Tryd.prog 3 #[.int .i64 x] w fun e w' => e = .returned (.bool true) ∧ Below w.heap.size w w' := by
  have HF := Lib.hid (first_any v w hv hg)
  by_cases hx : x < 0 ∨ 257 ≤ x
  · go_enter Tryd.func3, Tryd.ntmps3
    go_wp2_with (go_at_call 8; refine HF.out.mono ?_; rintro e w1 ⟨rfl, hb1⟩)
    refine (bits_no x _ hx).mono ?_
    rintro e w2 ⟨rfl, rfl⟩
    go_wp2_with fail
    refine (code_no x _ hx).mono ?_
    rintro e w2 ⟨rfl, rfl⟩
    go_wp2_with fail
    refine (rbits_no x _ hx).mono ?_
    rintro e w2 ⟨rfl, rfl⟩
    go_wp2_with fail
    refine (rcode_no x _ hx).mono ?_
    rintro e w2 ⟨rfl, rfl⟩
    go_wp2_with fail
    go_ret
    exact ⟨rfl, hb1⟩
  · obtain ⟨n, rfl⟩ : ∃ n : Nat, x = (n : Int) := ⟨x.toNat, by omega⟩
    have hn : n < 257 := by omega
    have hb5 := (bits_ok hn).1
    have hne : ((bitsOf n : Int) != 0) = true := by rw [bne_iff_ne]; omega
    clear hx
    go_enter Tryd.func3, Tryd.ntmps3
    go_wp2_with (go_at_call 8; refine HF.out.mono ?_; rintro e w1 ⟨rfl, hb1⟩)
    refine (bits_yes n _ hn).mono ?_
    rintro e w2 ⟨rfl, rfl⟩
    go_wp2_with fail
    refine (code_yes n _ hn).mono ?_
    rintro e w2 ⟨rfl, hb2⟩
    go_wp2_with fail
    refine (rbits_yes n _ hn).mono ?_
    rintro e w3 ⟨rfl, rfl⟩
    go_wp2_with fail
    refine (rcode_yes n _ hn).mono ?_
    rintro e w3 ⟨rfl, rfl⟩
    go_wp2_with fail
    go_ret
    exact ⟨rfl, hb1.trans (hb2.mono hb1.size)⟩
end Go.Proofs.YtblenefhoidhaaaDoor.Huff
