/-
  The walk of Int.
-/
import Derived.Test.YtflmgjidnclegaaDoorIntM
import Derived.Test.YtflmgjidnclegaaDoorHuffDM
namespace Go.Proofs.YtflmgjidnclegaaDoor.Hpk
open Go.RowKit
open Huff (bytesV BytesAt jumps wp_scope_multi)
/-- where an error's variable lies -/
def gOf : Er → Nat
  | .long => 2
  | .end_ => 3
  | .huff => 7
  | .index => 5
  | .list => 4
  | .table => 0
  | .gone => 1
/-- the errors' variables -/
def Errs (w : World) (ev : Er → Value) : Prop := ∀ er, w.cell? ⟨gOf er, 0, none⟩ = some (ev er) ∧ gOf er < w.heap.size ∧ IsErr (ev er)
theorem Errs.below {w w' : World} {ev : Er → Value} (h : Errs w ev) (hb : Below w.heap.size w w') : Errs w' ev :=
  fun er => ⟨(hb.cell (p := ⟨gOf er, 0, none⟩) (h er).2.1).trans (h er).1, Nat.lt_of_lt_of_le (h er).2.1 hb.size, (h er).2.2⟩
def intV (ev : Er → Value) : Except Er (Nat × Nat) → Value
  | .ok (n, i) => .tuple #[.int .i64 (n : Int), .int .i64 (i : Int), .nilIface]
  | .error er => .tuple #[.int .i64 0, .int .i64 0, ev er]
noncomputable def scopeCode : Code := match Tryd.f64.body with
  | some (.scope c) => c
  | some (.seq _ (.scope c)) => c
  | _ => .skip
noncomputable def restCode (l : Nat) : Code := (findLabel scopeCode l).getD .skip
noncomputable def moreCode : Code := match restCode 1 with
  | .seq _ c => c
  | _ => .skip
theorem rest_more : restCode 1 = .seq .skip moreCode := by kernel_rfl
theorem rest_found0 : findLabel scopeCode 0 = some (restCode 0) := by kernel_rfl
theorem rest_found1 : findLabel scopeCode 1 = some (restCode 1) := by kernel_rfl
def frame (f : Nat → Value) (arg bv full n i : Value) : Act := ⟨#[arg, bv, f 2, f 3, .int .i64 0, .int .i64 0, .nilIface, full, n, i, f 10, f 11, f 12, f 13, f 14, f 15, f 16, f 17, f 18, f 19, f 20, f 21, f 22, f 23, f 24, f 25, f 26, f 27, f 28, f 29, f 30, f 31, f 32, f 33, f 34, f 35, f 36, f 37, f 38, f 39, f 40, f 41, f 42, f 43, f 44, f 45, f 46, f 47, f 48, f 49, f 50, f 51, f 52, f 53, f 54, f 55, f 56, f 57, f 58, f 59, f 60, f 61, f 62, f 63, f 64, f 65], []⟩
/-- what holds at the label 'more' -/
structure AtMore (xs : List UInt8) (R : Except Er (Nat × Nat)) (i n : Nat) : Prop where
  i1 : 1 ≤ i
  i6 : i ≤ 6
  il : i ≤ xs.length
  nb : n < 256 * 2 ^ (7 * (i - 1))
  go : Hid (intGo xs (6 - i) i n = R)
theorem and_u8_all : ((List.range 256).all fun x => decide (Go.bits .and .u8 (x : Int) 127 = ((x % 128 : Nat) : Int))) = true := by decide +kernel
theorem and_u8 (x : Nat) (h : x < 256) : Go.bits .and .u8 (x : Int) 127 = ((x % 128 : Nat) : Int) := of_decide_eq_true (List.all_eq_true.1 and_u8_all x (List.mem_range.2 h))
structure Outs (W : World) (xs : List UInt8) (R : Except Er (Nat × Nat)) (ev : Er → Value) (arg bv full : Value) (i : Nat) (Q : Exit → Act → World → Prop) : Prop where
  h0 : ∀ a w' n' i', a = frame (fun k => a.tmps.getD k undef) arg bv full n' i' → Below W.heap.size W w' → R = .error .long → Q (.goto 0) a w'
  h1 : ∀ a w' (n' : Nat), a = frame (fun k => a.tmps.getD k undef) arg bv full (.int .i64 (n' : Int)) (.int .i64 ((i + 1 : Nat) : Int)) → Below W.heap.size W w' → AtMore xs R (i + 1) n' → Q (.goto 1) a w'
  hret : ∀ a w' x y z, a.tmps.getD 4 undef = x → a.tmps.getD 5 undef = y → a.tmps.getD 6 undef = z → a.defers = [] → Below W.heap.size W w' → Value.tuple #[x, y, z] = intV ev R → Q .ret a w'

set_option maxRecDepth 100000 in
set_option maxHeartbeats 8000000 in
theorem pass_more (W : World) (xs : List UInt8) (A : Option Addr) (cap : Nat) (ev : Er → Value) (hE : Errs W ev) (hx : BytesAt W A xs) (hlen : xs.length ≤ 9223372036854775807) (R : Except Er (Nat × Nat)) (bv full : Value) (f : Nat → Value) (i n : Nat) (w : World) (hB : Below W.heap.size W w) (h : AtMore xs R i n) (Q : Exit → Act → World → Prop) (hQ : Outs W xs R ev (.slice A xs.length cap) bv full i Q) :
    moreCode.wp Tryd.prog Q (frame f (.slice A xs.length cap) bv full (.int .i64 (n : Int)) (.int .i64 (i : Int))) w := by
  have hE2 := hE.below hB
  have el : w.cell? ⟨2, 0, none⟩ = some (ev .long) := (hE2 .long).1
  have ee : w.cell? ⟨3, 0, none⟩ = some (ev .end_) := (hE2 .end_).1
  have hgo := h.go
  have hnb := h.nb
  have hil := h.il
  unfold Hid at hgo
  have hcs : i = 1 ∨ i = 2 ∨ i = 3 ∨ i = 4 ∨ i = 5 ∨ i = 6 := by have := h.i1; have := h.i6; omega
  clear h hE2
  conv => arg 2; whnf
  unfold frame
  rcases hcs with rfl | rfl | rfl | rfl | rfl | rfl
  · have hb := hx 1
    by_cases hend : xs.length = 1
    · have hg1 : intGo xs (4 + 1) 1 n = R := hgo
      have hR : R = .error .end_ := by rw [← hg1]; unfold intGo; rw [if_pos hend.symm]
      have hce : ((1 : Int) == (xs.length : Int)) = true := by rw [hend]; rfl
      have HR := Lib.hid hR
      clear hb hR hgo hg1
      go_wp2_with fail
      go_quiet (fail)
      go_wp2_with fail
      exact hQ.hret _ _ _ _ _ rfl rfl rfl rfl (below_drewN hB _) (by rw [HR.out]; rfl)
    · obtain ⟨b, off, rfl, hbl, hc⟩ := hb (by omega)
      have hc := (hB.cell (p := ⟨b, off + 1, none⟩) hbl).trans hc
      have hce : ((1 : Int) == (xs.length : Int)) = false := beq_eq_false_iff_ne.2 (by omega)
      have hkl : 1 < xs.length := by omega
      have hg1 : intGo xs (4 + 1) 1 n = R := hgo
      unfold intGo at hg1
      rw [if_neg (fun h => hend h.symm)] at hg1
      obtain ⟨x, hx0⟩ : ∃ x, (xs.getD 1 0).toNat = x := ⟨_, rfl⟩
      have hx8 : x < 256 := by rw [← hx0]; exact (xs.getD 1 0).toNat_lt
      simp only [hx0] at hg1
      rw [hx0] at hc
      have han := and_u8 x hx8
      obtain ⟨y, hy⟩ : ∃ y, x % 128 = y := ⟨_, rfl⟩
      have hy7 : y < 128 := by rw [← hy]; exact Nat.mod_lt _ (by decide)
      rw [hy] at han hg1
      have hpw : 2 ^ (7 * (1 - 1)) = 1 := by decide
      rw [hpw] at hg1
      rw [Nat.mul_one] at hg1
      have hnb2 : n < 256 * 1 := by have := hnb; simpa using this
      have HG := Lib.hid hg1
      have HB := Lib.hid hB
      clear hend hb hx0 hy hgo hg1 hnb hpw
      by_cases h128 : 128 ≤ x
      · have hm : n + y < 256 * 2 ^ (7 * (1 + 1 - 1)) := by
          have e : (2 : Nat) ^ (7 * (1 + 1 - 1)) = 128 := by decide
          rw [e]; omega
        have hat : AtMore xs R 2 (n + y) := ⟨by omega, by omega, by omega, hm, Lib.hid (by have h := HG.out; rw [if_pos h128] at h; exact h)⟩
        have HAT := Lib.hid hat
        clear hat hm
        go_wp2_with fail
        go_step3
        exact hQ.h1 _ _ (n + y) (by go_num) HB.out HAT.out
      · by_cases htop : n + y ≤ 2147483647
        · have hR : R = .ok (n + y, 2) := by have h := HG.out; rw [if_neg h128, if_pos htop] at h; exact h.symm
          have HR := Lib.hid hR
          clear hR
          go_wp2_with fail
          exact hQ.hret _ _ _ _ _ rfl rfl rfl rfl HB.out (by rw [HR.out]; go_num)
        · exact absurd (by omega) htop
  · have hb := hx 2
    by_cases hend : xs.length = 2
    · have hg1 : intGo xs (3 + 1) 2 n = R := hgo
      have hR : R = .error .end_ := by rw [← hg1]; unfold intGo; rw [if_pos hend.symm]
      have hce : ((2 : Int) == (xs.length : Int)) = true := by rw [hend]; rfl
      have HR := Lib.hid hR
      clear hb hR hgo hg1
      go_wp2_with fail
      go_quiet (fail)
      go_wp2_with fail
      exact hQ.hret _ _ _ _ _ rfl rfl rfl rfl (below_drewN hB _) (by rw [HR.out]; rfl)
    · obtain ⟨b, off, rfl, hbl, hc⟩ := hb (by omega)
      have hc := (hB.cell (p := ⟨b, off + 2, none⟩) hbl).trans hc
      have hce : ((2 : Int) == (xs.length : Int)) = false := beq_eq_false_iff_ne.2 (by omega)
      have hkl : 2 < xs.length := by omega
      have hg1 : intGo xs (3 + 1) 2 n = R := hgo
      unfold intGo at hg1
      rw [if_neg (fun h => hend h.symm)] at hg1
      obtain ⟨x, hx0⟩ : ∃ x, (xs.getD 2 0).toNat = x := ⟨_, rfl⟩
      have hx8 : x < 256 := by rw [← hx0]; exact (xs.getD 2 0).toNat_lt
      simp only [hx0] at hg1
      rw [hx0] at hc
      have han := and_u8 x hx8
      obtain ⟨y, hy⟩ : ∃ y, x % 128 = y := ⟨_, rfl⟩
      have hy7 : y < 128 := by rw [← hy]; exact Nat.mod_lt _ (by decide)
      rw [hy] at han hg1
      have hpw : 2 ^ (7 * (2 - 1)) = 128 := by decide
      rw [hpw] at hg1
      have hnb2 : n < 256 * 128 := by have := hnb; simpa using this
      have HG := Lib.hid hg1
      have HB := Lib.hid hB
      clear hend hb hx0 hy hgo hg1 hnb hpw
      by_cases h128 : 128 ≤ x
      · have hm : n + y * 128 < 256 * 2 ^ (7 * (2 + 1 - 1)) := by
          have e : (2 : Nat) ^ (7 * (2 + 1 - 1)) = 16384 := by decide
          rw [e]; omega
        have hat : AtMore xs R 3 (n + y * 128) := ⟨by omega, by omega, by omega, hm, Lib.hid (by have h := HG.out; rw [if_pos h128] at h; exact h)⟩
        have HAT := Lib.hid hat
        clear hat hm
        go_wp2_with fail
        go_step3
        exact hQ.h1 _ _ (n + y * 128) (by go_num) HB.out HAT.out
      · by_cases htop : n + y * 128 ≤ 2147483647
        · have hR : R = .ok (n + y * 128, 3) := by have h := HG.out; rw [if_neg h128, if_pos htop] at h; exact h.symm
          have HR := Lib.hid hR
          clear hR
          go_wp2_with fail
          exact hQ.hret _ _ _ _ _ rfl rfl rfl rfl HB.out (by rw [HR.out]; go_num)
        · exact absurd (by omega) htop
  · have hb := hx 3
    by_cases hend : xs.length = 3
    · have hg1 : intGo xs (2 + 1) 3 n = R := hgo
      have hR : R = .error .end_ := by rw [← hg1]; unfold intGo; rw [if_pos hend.symm]
      have hce : ((3 : Int) == (xs.length : Int)) = true := by rw [hend]; rfl
      have HR := Lib.hid hR
      clear hb hR hgo hg1
      go_wp2_with fail
      go_quiet (fail)
      go_wp2_with fail
      exact hQ.hret _ _ _ _ _ rfl rfl rfl rfl (below_drewN hB _) (by rw [HR.out]; rfl)
    · obtain ⟨b, off, rfl, hbl, hc⟩ := hb (by omega)
      have hc := (hB.cell (p := ⟨b, off + 3, none⟩) hbl).trans hc
      have hce : ((3 : Int) == (xs.length : Int)) = false := beq_eq_false_iff_ne.2 (by omega)
      have hkl : 3 < xs.length := by omega
      have hg1 : intGo xs (2 + 1) 3 n = R := hgo
      unfold intGo at hg1
      rw [if_neg (fun h => hend h.symm)] at hg1
      obtain ⟨x, hx0⟩ : ∃ x, (xs.getD 3 0).toNat = x := ⟨_, rfl⟩
      have hx8 : x < 256 := by rw [← hx0]; exact (xs.getD 3 0).toNat_lt
      simp only [hx0] at hg1
      rw [hx0] at hc
      have han := and_u8 x hx8
      obtain ⟨y, hy⟩ : ∃ y, x % 128 = y := ⟨_, rfl⟩
      have hy7 : y < 128 := by rw [← hy]; exact Nat.mod_lt _ (by decide)
      rw [hy] at han hg1
      have hpw : 2 ^ (7 * (3 - 1)) = 16384 := by decide
      rw [hpw] at hg1
      have hnb2 : n < 256 * 16384 := by have := hnb; simpa using this
      have HG := Lib.hid hg1
      have HB := Lib.hid hB
      clear hend hb hx0 hy hgo hg1 hnb hpw
      by_cases h128 : 128 ≤ x
      · have hm : n + y * 16384 < 256 * 2 ^ (7 * (3 + 1 - 1)) := by
          have e : (2 : Nat) ^ (7 * (3 + 1 - 1)) = 2097152 := by decide
          rw [e]; omega
        have hat : AtMore xs R 4 (n + y * 16384) := ⟨by omega, by omega, by omega, hm, Lib.hid (by have h := HG.out; rw [if_pos h128] at h; exact h)⟩
        have HAT := Lib.hid hat
        clear hat hm
        go_wp2_with fail
        go_step3
        exact hQ.h1 _ _ (n + y * 16384) (by go_num) HB.out HAT.out
      · by_cases htop : n + y * 16384 ≤ 2147483647
        · have hR : R = .ok (n + y * 16384, 4) := by have h := HG.out; rw [if_neg h128, if_pos htop] at h; exact h.symm
          have HR := Lib.hid hR
          clear hR
          go_wp2_with fail
          exact hQ.hret _ _ _ _ _ rfl rfl rfl rfl HB.out (by rw [HR.out]; go_num)
        · exact absurd (by omega) htop
  · have hb := hx 4
    by_cases hend : xs.length = 4
    · have hg1 : intGo xs (1 + 1) 4 n = R := hgo
      have hR : R = .error .end_ := by rw [← hg1]; unfold intGo; rw [if_pos hend.symm]
      have hce : ((4 : Int) == (xs.length : Int)) = true := by rw [hend]; rfl
      have HR := Lib.hid hR
      clear hb hR hgo hg1
      go_wp2_with fail
      go_quiet (fail)
      go_wp2_with fail
      exact hQ.hret _ _ _ _ _ rfl rfl rfl rfl (below_drewN hB _) (by rw [HR.out]; rfl)
    · obtain ⟨b, off, rfl, hbl, hc⟩ := hb (by omega)
      have hc := (hB.cell (p := ⟨b, off + 4, none⟩) hbl).trans hc
      have hce : ((4 : Int) == (xs.length : Int)) = false := beq_eq_false_iff_ne.2 (by omega)
      have hkl : 4 < xs.length := by omega
      have hg1 : intGo xs (1 + 1) 4 n = R := hgo
      unfold intGo at hg1
      rw [if_neg (fun h => hend h.symm)] at hg1
      obtain ⟨x, hx0⟩ : ∃ x, (xs.getD 4 0).toNat = x := ⟨_, rfl⟩
      have hx8 : x < 256 := by rw [← hx0]; exact (xs.getD 4 0).toNat_lt
      simp only [hx0] at hg1
      rw [hx0] at hc
      have han := and_u8 x hx8
      obtain ⟨y, hy⟩ : ∃ y, x % 128 = y := ⟨_, rfl⟩
      have hy7 : y < 128 := by rw [← hy]; exact Nat.mod_lt _ (by decide)
      rw [hy] at han hg1
      have hpw : 2 ^ (7 * (4 - 1)) = 2097152 := by decide
      rw [hpw] at hg1
      have hnb2 : n < 256 * 2097152 := by have := hnb; simpa using this
      have HG := Lib.hid hg1
      have HB := Lib.hid hB
      clear hend hb hx0 hy hgo hg1 hnb hpw
      by_cases h128 : 128 ≤ x
      · have hm : n + y * 2097152 < 256 * 2 ^ (7 * (4 + 1 - 1)) := by
          have e : (2 : Nat) ^ (7 * (4 + 1 - 1)) = 268435456 := by decide
          rw [e]; omega
        have hat : AtMore xs R 5 (n + y * 2097152) := ⟨by omega, by omega, by omega, hm, Lib.hid (by have h := HG.out; rw [if_pos h128] at h; exact h)⟩
        have HAT := Lib.hid hat
        clear hat hm
        go_wp2_with fail
        go_step3
        exact hQ.h1 _ _ (n + y * 2097152) (by go_num) HB.out HAT.out
      · by_cases htop : n + y * 2097152 ≤ 2147483647
        · have hR : R = .ok (n + y * 2097152, 5) := by have h := HG.out; rw [if_neg h128, if_pos htop] at h; exact h.symm
          have HR := Lib.hid hR
          clear hR
          go_wp2_with fail
          exact hQ.hret _ _ _ _ _ rfl rfl rfl rfl HB.out (by rw [HR.out]; go_num)
        · exact absurd (by omega) htop
  · have hb := hx 5
    by_cases hend : xs.length = 5
    · have hg1 : intGo xs (0 + 1) 5 n = R := hgo
      have hR : R = .error .end_ := by rw [← hg1]; unfold intGo; rw [if_pos hend.symm]
      have hce : ((5 : Int) == (xs.length : Int)) = true := by rw [hend]; rfl
      have HR := Lib.hid hR
      clear hb hR hgo hg1
      go_wp2_with fail
      go_quiet (fail)
      go_wp2_with fail
      exact hQ.hret _ _ _ _ _ rfl rfl rfl rfl (below_drewN hB _) (by rw [HR.out]; rfl)
    · obtain ⟨b, off, rfl, hbl, hc⟩ := hb (by omega)
      have hc := (hB.cell (p := ⟨b, off + 5, none⟩) hbl).trans hc
      have hce : ((5 : Int) == (xs.length : Int)) = false := beq_eq_false_iff_ne.2 (by omega)
      have hkl : 5 < xs.length := by omega
      have hg1 : intGo xs (0 + 1) 5 n = R := hgo
      unfold intGo at hg1
      rw [if_neg (fun h => hend h.symm)] at hg1
      obtain ⟨x, hx0⟩ : ∃ x, (xs.getD 5 0).toNat = x := ⟨_, rfl⟩
      have hx8 : x < 256 := by rw [← hx0]; exact (xs.getD 5 0).toNat_lt
      simp only [hx0] at hg1
      rw [hx0] at hc
      have han := and_u8 x hx8
      obtain ⟨y, hy⟩ : ∃ y, x % 128 = y := ⟨_, rfl⟩
      have hy7 : y < 128 := by rw [← hy]; exact Nat.mod_lt _ (by decide)
      rw [hy] at han hg1
      have hpw : 2 ^ (7 * (5 - 1)) = 268435456 := by decide
      rw [hpw] at hg1
      have hnb2 : n < 256 * 268435456 := by have := hnb; simpa using this
      have HG := Lib.hid hg1
      have HB := Lib.hid hB
      clear hend hb hx0 hy hgo hg1 hnb hpw
      by_cases h128 : 128 ≤ x
      · have hm : n + y * 268435456 < 256 * 2 ^ (7 * (5 + 1 - 1)) := by
          have e : (2 : Nat) ^ (7 * (5 + 1 - 1)) = 34359738368 := by decide
          rw [e]; omega
        have hat : AtMore xs R 6 (n + y * 268435456) := ⟨by omega, by omega, by omega, hm, Lib.hid (by have h := HG.out; rw [if_pos h128] at h; exact h)⟩
        have HAT := Lib.hid hat
        clear hat hm
        go_wp2_with fail
        go_step3
        exact hQ.h1 _ _ (n + y * 268435456) (by go_num) HB.out HAT.out
      · by_cases htop : n + y * 268435456 ≤ 2147483647
        · have hR : R = .ok (n + y * 268435456, 6) := by have h := HG.out; rw [if_neg h128, if_pos htop] at h; exact h.symm
          have HR := Lib.hid hR
          clear hR
          go_wp2_with fail
          exact hQ.hret _ _ _ _ _ rfl rfl rfl rfl HB.out (by rw [HR.out]; go_num)
        · have hR : R = .error .long := by have h := HG.out; rw [if_neg h128, if_neg htop] at h; exact h.symm
          have HR := Lib.hid hR
          clear hR
          go_wp2_with fail
          go_step3
          go_wp2_with fail
          go_quiet (fail)
          go_wp2_with fail
          exact hQ.hret _ _ _ _ _ rfl rfl rfl rfl (below_drewN HB.out _) (by rw [HR.out]; rfl)
  · have hR : R = .error .long := by rw [← hgo]; rfl
    have HR := Lib.hid hR
    have HB := Lib.hid hB
    clear hR hgo
    go_wp2_with fail
    go_step3
    exact hQ.h0 _ _ _ _ rfl HB.out HR.out

theorem pass_more' (W : World) (xs : List UInt8) (A : Option Addr) (cap : Nat) (ev : Er → Value) (hE : Errs W ev) (hx : BytesAt W A xs) (hlen : xs.length ≤ 9223372036854775807) (R : Except Er (Nat × Nat)) (bv full : Value) (i n : Nat) (w : World) (hB : Below W.heap.size W w) (h : AtMore xs R i n) (Q : Exit → Act → World → Prop) (hQ : Outs W xs R ev (.slice A xs.length cap) bv full i Q) (a : Act)
    (ha : a = frame (fun k => a.tmps.getD k undef) (.slice A xs.length cap) bv full (.int .i64 (n : Int)) (.int .i64 (i : Int))) : moreCode.wp Tryd.prog Q a w := by
  rw [ha]
  exact pass_more W xs A cap ev hE hx hlen R bv full _ i n w hB h Q hQ
set_option maxRecDepth 100000 in
set_option maxHeartbeats 4000000 in
theorem pass_long (W : World) (R : Except Er (Nat × Nat)) (ev : Er → Value) (hE : Errs W ev) (arg bv full n i : Value) (f : Nat → Value) (w : World) (hB : Below W.heap.size W w) (hR : R = .error .long) (Q : Exit → Act → World → Prop)
    (hret : ∀ a w' x y z, a.tmps.getD 4 undef = x → a.tmps.getD 5 undef = y → a.tmps.getD 6 undef = z → a.defers = [] → Below W.heap.size W w' → Value.tuple #[x, y, z] = intV ev R → Q .ret a w') :
    (restCode 0).wp Tryd.prog Q (frame f arg bv full n i) w := by
  have el : w.cell? ⟨2, 0, none⟩ = some (ev .long) := ((hE.below hB) .long).1
  conv => arg 2; whnf
  unfold frame
  go_wp2_with fail
  go_quiet (fail)
  go_wp2_with fail
  exact hret _ _ _ _ _ rfl rfl rfl rfl (below_drewN hB _) (by rw [hR]; rfl)
def JI (w : World) (xs : List UInt8) (R : Except Er (Nat × Nat)) (arg bv full : Value) (l : Nat) (a : Act) (w' : World) : Prop :=
  match l with
  | 1 => ∃ f i n, a = frame f arg bv full (.int .i64 ((n : Nat) : Int)) (.int .i64 ((i : Nat) : Int)) ∧ AtMore xs R i n ∧ Below w.heap.size w w'
  | 0 => ∃ f n i, a = frame f arg bv full n i ∧ Below w.heap.size w w' ∧ R = .error .long
  | _ => False
def muI (l : Nat) (a : Act) (_ : World) : Nat :=
  match l with
  | 1 => 8 - (intOf (a.tmps.getD 9 undef)).toNat
  | _ => 0
theorem and_i64_4_all : ((List.range 256).all fun x => decide (Go.bits .and .i64 (x : Int) 15 = ((x % 16 : Nat) : Int))) = true := by decide +kernel
theorem and_i64_4 (x : Nat) (h : x < 256) : Go.bits .and .i64 (x : Int) 15 = ((x % 16 : Nat) : Int) := of_decide_eq_true (List.all_eq_true.1 and_i64_4_all x (List.mem_range.2 h))
theorem and_i64_5_all : ((List.range 256).all fun x => decide (Go.bits .and .i64 (x : Int) 31 = ((x % 32 : Nat) : Int))) = true := by decide +kernel
theorem and_i64_5 (x : Nat) (h : x < 256) : Go.bits .and .i64 (x : Int) 31 = ((x % 32 : Nat) : Int) := of_decide_eq_true (List.all_eq_true.1 and_i64_5_all x (List.mem_range.2 h))
theorem and_i64_6_all : ((List.range 256).all fun x => decide (Go.bits .and .i64 (x : Int) 63 = ((x % 64 : Nat) : Int))) = true := by decide +kernel
theorem and_i64_6 (x : Nat) (h : x < 256) : Go.bits .and .i64 (x : Int) 63 = ((x % 64 : Nat) : Int) := of_decide_eq_true (List.all_eq_true.1 and_i64_6_all x (List.mem_range.2 h))
theorem and_i64_7_all : ((List.range 256).all fun x => decide (Go.bits .and .i64 (x : Int) 127 = ((x % 128 : Nat) : Int))) = true := by decide +kernel
theorem and_i64_7 (x : Nat) (h : x < 256) : Go.bits .and .i64 (x : Int) 127 = ((x % 128 : Nat) : Int) := of_decide_eq_true (List.all_eq_true.1 and_i64_7_all x (List.mem_range.2 h))
set_option maxRecDepth 100000 in
set_option maxHeartbeats 8000000 in
theorem int_any (w : World) (xs : List UInt8) (A : Option Addr) (cap : Nat) (ev : Er → Value) (hE : Errs w ev) (hx : BytesAt w A xs) (hlen : xs.length ≤ 9223372036854775807) (bits : Nat) (hb : bits = 4 ∨ bits = 5 ∨ bits = 6 ∨ bits = 7) :
    Calls Tryd.prog 64 #[.slice A xs.length cap, .int .i64 (bits : Int)] w fun e w' => e = .returned (intV ev (getInt bits xs)) ∧ Below w.heap.size w w' := by
  have ee : w.cell? ⟨3, 0, none⟩ = some (ev .end_) := (hE .end_).1
  go_enter Tryd.func64, Tryd.ntmps64
  have HRET : Hid (∀ (a : Act) (w' : World) x y z, a.tmps.getD 4 undef = x → a.tmps.getD 5 undef = y → a.tmps.getD 6 undef = z → a.defers = [] → Below w.heap.size w w' → Value.tuple #[x, y, z] = intV ev (getInt bits xs) → bodyPost Tryd.prog Tryd.f64 (fun e w' => e = .returned (intV ev (getInt bits xs)) ∧ Below w.heap.size w w') .ret a w') := fun a w' x y z h4 h5 h6 hd hB he =>
    bodyPost_ret (results_tmp3 rfl _ _ _) hd ⟨by rw [h4, h5, h6, he], hB⟩
  go_wp2_with fail
  refine wp_scope_multi (JI w xs (getInt bits xs) (.slice A xs.length cap) (.int .i64 (bits : Int)) (.int .i64 ((2 : Int) ^ bits - 1))) muI ?_ ?_
  · rcases hb with rfl | rfl | rfl | rfl
    · by_cases h0 : xs.length = 0
      · have hce : ((xs.length : Int) == 0) = true := by rw [h0]; rfl
        have hR : getInt 4 xs = .error .end_ := by unfold getInt; rw [if_pos h0]
        have HR := Lib.hid hR
        clear hR h0
        go_wp2_with fail
        go_quiet (fail)
        go_wp2_with fail
        exact HRET.out _ _ _ _ _ rfl rfl rfl rfl (below_drewN (Below.refl _ _) _) (by rw [HR.out]; rfl)
      · have hce : ((xs.length : Int) == 0) = false := beq_eq_false_iff_ne.2 (by omega)
        obtain ⟨bb, off, rfl, hbl, hc⟩ := hx 0 (by omega)
        have h0l : 0 < xs.length := by omega
        obtain ⟨x, hx0⟩ : ∃ x, (xs.getD 0 0).toNat = x := ⟨_, rfl⟩
        have hx8 : x < 256 := by rw [← hx0]; exact (xs.getD 0 0).toNat_lt
        have hgi : getInt 4 xs = if x % 16 < 15 then .ok (x % 16, 1) else intGo xs 5 1 (x % 16) := by
          unfold getInt; rw [if_neg h0, hx0]
        rw [hx0, Nat.add_zero] at hc
        have han : Go.bits .and .i64 (x : Int) 15 = ((x % 16 : Nat) : Int) := and_i64_4 x hx8
        obtain ⟨y, hy⟩ : ∃ y, x % 16 = y := ⟨_, rfl⟩
        have hy8 : y < 16 := by omega
        rw [hy] at han hgi
        have HGI := Lib.hid hgi
        have HX := Lib.hid hx
        clear hgi hx0 hy hx h0
        by_cases hlt : y < 15
        · have hR : getInt 4 xs = .ok (y, 1) := by rw [HGI.out, if_pos hlt]
          have HR := Lib.hid hR
          clear hR
          go_wp2_with fail
          exact HRET.out _ _ _ _ _ rfl rfl rfl rfl (Below.refl _ _) (by rw [HR.out]; rfl)
        · have hat : AtMore xs (getInt 4 xs) 1 y := ⟨by omega, by omega, by omega, by omega, Lib.hid (by rw [HGI.out, if_neg hlt])⟩
          have HAT := Lib.hid hat
          clear hat
          go_wp2_with fail
          go_step3
          go_step
          go_step
          refine pass_more' w xs _ cap ev hE HX.out hlen (getInt 4 xs) (.int .i64 4) (.int .i64 15) 1 y w (Below.refl _ _) HAT.out _ ⟨?_, ?_, ?_⟩ _ ?_
          · intro a2 w2 n' i' ha hB hR
            exact ⟨_, _, _, ha, hB, hR⟩
          · intro a2 w2 n' ha hB hat
            exact ⟨_, _, _, ha, hat, hB⟩
          · intro a2 w2 x' y' z' r4 r5 r6 hd hB he
            exact HRET.out a2 w2 x' y' z' r4 r5 r6 hd hB he
          · rfl
    · by_cases h0 : xs.length = 0
      · have hce : ((xs.length : Int) == 0) = true := by rw [h0]; rfl
        have hR : getInt 5 xs = .error .end_ := by unfold getInt; rw [if_pos h0]
        have HR := Lib.hid hR
        clear hR h0
        go_wp2_with fail
        go_quiet (fail)
        go_wp2_with fail
        exact HRET.out _ _ _ _ _ rfl rfl rfl rfl (below_drewN (Below.refl _ _) _) (by rw [HR.out]; rfl)
      · have hce : ((xs.length : Int) == 0) = false := beq_eq_false_iff_ne.2 (by omega)
        obtain ⟨bb, off, rfl, hbl, hc⟩ := hx 0 (by omega)
        have h0l : 0 < xs.length := by omega
        obtain ⟨x, hx0⟩ : ∃ x, (xs.getD 0 0).toNat = x := ⟨_, rfl⟩
        have hx8 : x < 256 := by rw [← hx0]; exact (xs.getD 0 0).toNat_lt
        have hgi : getInt 5 xs = if x % 32 < 31 then .ok (x % 32, 1) else intGo xs 5 1 (x % 32) := by
          unfold getInt; rw [if_neg h0, hx0]
        rw [hx0, Nat.add_zero] at hc
        have han : Go.bits .and .i64 (x : Int) 31 = ((x % 32 : Nat) : Int) := and_i64_5 x hx8
        obtain ⟨y, hy⟩ : ∃ y, x % 32 = y := ⟨_, rfl⟩
        have hy8 : y < 32 := by omega
        rw [hy] at han hgi
        have HGI := Lib.hid hgi
        have HX := Lib.hid hx
        clear hgi hx0 hy hx h0
        by_cases hlt : y < 31
        · have hR : getInt 5 xs = .ok (y, 1) := by rw [HGI.out, if_pos hlt]
          have HR := Lib.hid hR
          clear hR
          go_wp2_with fail
          exact HRET.out _ _ _ _ _ rfl rfl rfl rfl (Below.refl _ _) (by rw [HR.out]; rfl)
        · have hat : AtMore xs (getInt 5 xs) 1 y := ⟨by omega, by omega, by omega, by omega, Lib.hid (by rw [HGI.out, if_neg hlt])⟩
          have HAT := Lib.hid hat
          clear hat
          go_wp2_with fail
          go_step3
          go_step
          go_step
          refine pass_more' w xs _ cap ev hE HX.out hlen (getInt 5 xs) (.int .i64 5) (.int .i64 31) 1 y w (Below.refl _ _) HAT.out _ ⟨?_, ?_, ?_⟩ _ ?_
          · intro a2 w2 n' i' ha hB hR
            exact ⟨_, _, _, ha, hB, hR⟩
          · intro a2 w2 n' ha hB hat
            exact ⟨_, _, _, ha, hat, hB⟩
          · intro a2 w2 x' y' z' r4 r5 r6 hd hB he
            exact HRET.out a2 w2 x' y' z' r4 r5 r6 hd hB he
          · rfl
    · by_cases h0 : xs.length = 0
      · have hce : ((xs.length : Int) == 0) = true := by rw [h0]; rfl
        have hR : getInt 6 xs = .error .end_ := by unfold getInt; rw [if_pos h0]
        have HR := Lib.hid hR
        clear hR h0
        go_wp2_with fail
        go_quiet (fail)
        go_wp2_with fail
        exact HRET.out _ _ _ _ _ rfl rfl rfl rfl (below_drewN (Below.refl _ _) _) (by rw [HR.out]; rfl)
      · have hce : ((xs.length : Int) == 0) = false := beq_eq_false_iff_ne.2 (by omega)
        obtain ⟨bb, off, rfl, hbl, hc⟩ := hx 0 (by omega)
        have h0l : 0 < xs.length := by omega
        obtain ⟨x, hx0⟩ : ∃ x, (xs.getD 0 0).toNat = x := ⟨_, rfl⟩
        have hx8 : x < 256 := by rw [← hx0]; exact (xs.getD 0 0).toNat_lt
        have hgi : getInt 6 xs = if x % 64 < 63 then .ok (x % 64, 1) else intGo xs 5 1 (x % 64) := by
          unfold getInt; rw [if_neg h0, hx0]
        rw [hx0, Nat.add_zero] at hc
        have han : Go.bits .and .i64 (x : Int) 63 = ((x % 64 : Nat) : Int) := and_i64_6 x hx8
        obtain ⟨y, hy⟩ : ∃ y, x % 64 = y := ⟨_, rfl⟩
        have hy8 : y < 64 := by omega
        rw [hy] at han hgi
        have HGI := Lib.hid hgi
        have HX := Lib.hid hx
        clear hgi hx0 hy hx h0
        by_cases hlt : y < 63
        · have hR : getInt 6 xs = .ok (y, 1) := by rw [HGI.out, if_pos hlt]
          have HR := Lib.hid hR
          clear hR
          go_wp2_with fail
          exact HRET.out _ _ _ _ _ rfl rfl rfl rfl (Below.refl _ _) (by rw [HR.out]; rfl)
        · have hat : AtMore xs (getInt 6 xs) 1 y := ⟨by omega, by omega, by omega, by omega, Lib.hid (by rw [HGI.out, if_neg hlt])⟩
          have HAT := Lib.hid hat
          clear hat
          go_wp2_with fail
          go_step3
          go_step
          go_step
          refine pass_more' w xs _ cap ev hE HX.out hlen (getInt 6 xs) (.int .i64 6) (.int .i64 63) 1 y w (Below.refl _ _) HAT.out _ ⟨?_, ?_, ?_⟩ _ ?_
          · intro a2 w2 n' i' ha hB hR
            exact ⟨_, _, _, ha, hB, hR⟩
          · intro a2 w2 n' ha hB hat
            exact ⟨_, _, _, ha, hat, hB⟩
          · intro a2 w2 x' y' z' r4 r5 r6 hd hB he
            exact HRET.out a2 w2 x' y' z' r4 r5 r6 hd hB he
          · rfl
    · by_cases h0 : xs.length = 0
      · have hce : ((xs.length : Int) == 0) = true := by rw [h0]; rfl
        have hR : getInt 7 xs = .error .end_ := by unfold getInt; rw [if_pos h0]
        have HR := Lib.hid hR
        clear hR h0
        go_wp2_with fail
        go_quiet (fail)
        go_wp2_with fail
        exact HRET.out _ _ _ _ _ rfl rfl rfl rfl (below_drewN (Below.refl _ _) _) (by rw [HR.out]; rfl)
      · have hce : ((xs.length : Int) == 0) = false := beq_eq_false_iff_ne.2 (by omega)
        obtain ⟨bb, off, rfl, hbl, hc⟩ := hx 0 (by omega)
        have h0l : 0 < xs.length := by omega
        obtain ⟨x, hx0⟩ : ∃ x, (xs.getD 0 0).toNat = x := ⟨_, rfl⟩
        have hx8 : x < 256 := by rw [← hx0]; exact (xs.getD 0 0).toNat_lt
        have hgi : getInt 7 xs = if x % 128 < 127 then .ok (x % 128, 1) else intGo xs 5 1 (x % 128) := by
          unfold getInt; rw [if_neg h0, hx0]
        rw [hx0, Nat.add_zero] at hc
        have han : Go.bits .and .i64 (x : Int) 127 = ((x % 128 : Nat) : Int) := and_i64_7 x hx8
        obtain ⟨y, hy⟩ : ∃ y, x % 128 = y := ⟨_, rfl⟩
        have hy8 : y < 128 := by omega
        rw [hy] at han hgi
        have HGI := Lib.hid hgi
        have HX := Lib.hid hx
        clear hgi hx0 hy hx h0
        by_cases hlt : y < 127
        · have hR : getInt 7 xs = .ok (y, 1) := by rw [HGI.out, if_pos hlt]
          have HR := Lib.hid hR
          clear hR
          go_wp2_with fail
          exact HRET.out _ _ _ _ _ rfl rfl rfl rfl (Below.refl _ _) (by rw [HR.out]; rfl)
        · have hat : AtMore xs (getInt 7 xs) 1 y := ⟨by omega, by omega, by omega, by omega, Lib.hid (by rw [HGI.out, if_neg hlt])⟩
          have HAT := Lib.hid hat
          clear hat
          go_wp2_with fail
          go_step3
          go_step
          go_step
          refine pass_more' w xs _ cap ev hE HX.out hlen (getInt 7 xs) (.int .i64 7) (.int .i64 127) 1 y w (Below.refl _ _) HAT.out _ ⟨?_, ?_, ?_⟩ _ ?_
          · intro a2 w2 n' i' ha hB hR
            exact ⟨_, _, _, ha, hB, hR⟩
          · intro a2 w2 n' ha hB hat
            exact ⟨_, _, _, ha, hat, hB⟩
          · intro a2 w2 x' y' z' r4 r5 r6 hd hB he
            exact HRET.out a2 w2 x' y' z' r4 r5 r6 hd hB he
          · rfl
  · rintro l a w' hJ
    match l, hJ with
    | 0, hJ =>
      obtain ⟨f, n, i, rfl, hB, hR⟩ := hJ
      refine ⟨_, rest_found0, pass_long w _ ev hE _ _ _ n i f w' hB hR _ ?_⟩
      intro a2 w2 x' y' z' r4 r5 r6 hd hB he
      exact HRET.out a2 w2 x' y' z' r4 r5 r6 hd hB he
    | 1, hJ =>
      obtain ⟨f, i, n, rfl, hat, hB⟩ := hJ
      refine ⟨_, rest_found1, ?_⟩
      rw [rest_more]
      refine wp_seq (wp_skip (pass_more w xs A cap ev hE hx hlen _ _ _ f i n w' hB hat _ ⟨?_, ?_, ?_⟩))
      · intro a2 w2 n' i' ha hB hR
        refine ⟨⟨_, _, _, ha, hB, hR⟩, ?_⟩
        have := hat.i6
        show 0 < 8 - (intOf (Value.int .i64 (i : Int))).toNat
        simp only [intOf]; omega
      · intro a2 w2 n' ha hB hat2
        refine ⟨⟨_, _, _, ha, hat2, hB⟩, ?_⟩
        have := hat.i6
        have h1 : a2.tmps.getD 9 undef = .int .i64 ((i + 1 : Nat) : Int) := by rw [ha]; rfl
        show 8 - (intOf (a2.tmps.getD 9 undef)).toNat < 8 - (intOf (Value.int .i64 (i : Int))).toNat
        rw [h1]
        simp only [intOf]; omega
      · intro a2 w2 x' y' z' r4 r5 r6 hd hB he
        exact HRET.out a2 w2 x' y' z' r4 r5 r6 hd hB he
end Go.Proofs.YtflmgjidnclegaaDoor.Hpk
/-
  The walk of Text.
-/
namespace Go.Proofs.YtflmgjidnclegaaDoor.Hpk
open Go.RowKit
open Huff (bytesV BytesAt decode_any DecPost dec)
theorem intGo_bound (xs : List UInt8) : ∀ (f i n : Nat) (m k : Nat), intGo xs f i n = .ok (m, k) → i ≤ xs.length → i + 1 ≤ k ∧ k ≤ xs.length ∧ m ≤ 2147483647
  | 0, i, n, m, k, h, _ => by simp [intGo] at h
  | f + 1, i, n, m, k, h, hi => by
    unfold intGo at h
    by_cases he : i = xs.length
    · rw [if_pos he] at h; cases h
    · rw [if_neg he] at h
      simp only at h
      by_cases h1 : 128 ≤ (xs.getD i 0).toNat
      · rw [if_pos h1] at h
        have := intGo_bound xs f (i + 1) _ m k h (by omega)
        omega
      · rw [if_neg h1] at h
        by_cases h2 : n + (xs.getD i 0).toNat % 128 * 2 ^ (7 * (i - 1)) ≤ 2147483647
        · rw [if_pos h2] at h
          injection h with h
          injection h with h3 h4
          subst h3 h4
          exact ⟨Nat.le_refl _, by omega, h2⟩
        · rw [if_neg h2] at h; cases h
theorem getInt_bound {xs : List UInt8} {b m k : Nat} (h : getInt b xs = .ok (m, k)) (hb : b ≤ 8) : 1 ≤ k ∧ k ≤ xs.length ∧ m ≤ 2147483647 := by
  unfold getInt at h
  by_cases h0 : xs.length = 0
  · rw [if_pos h0] at h; cases h
  · rw [if_neg h0] at h
    simp only at h
    have hp : 2 ^ b ≤ 2 ^ 8 := Nat.pow_le_pow_right (by decide) hb
    by_cases h1 : (xs.getD 0 0).toNat % 2 ^ b < 2 ^ b - 1
    · rw [if_pos h1] at h
      injection h with h
      injection h with h3 h4
      subst h3 h4
      exact ⟨Nat.le_refl _, by omega, by omega⟩
    · rw [if_neg h1] at h
      have := intGo_bound xs 5 1 _ m k h (by omega)
      omega
theorem BytesAt_drop {w : World} {b off : Nat} {xs : List UInt8} (h : BytesAt w (some ⟨b, off, none⟩) xs) (i : Nat) : BytesAt w (some ⟨b, off + i, none⟩) (xs.drop i) := by
  intro j hj
  rw [List.length_drop] at hj
  obtain ⟨b', off', e, hb, hc⟩ := h (i + j) (by omega)
  injection e with e
  injection e with e1 e2 _
  subst e1 e2
  refine ⟨b, off + i, rfl, hb, ?_⟩
  rw [Nat.add_assoc, hc]
  simp [List.getD]
theorem BytesAt_take {w : World} {A : Option Addr} {xs : List UInt8} (h : BytesAt w A xs) (n : Nat) : BytesAt w A (xs.take n) := by
  intro j hj
  rw [List.length_take] at hj
  obtain ⟨b, off, e, hb, hc⟩ := h j (by omega)
  refine ⟨b, off, e, hb, ?_⟩
  rw [hc]
  simp [List.getD, show j < n by omega]
set_option maxRecDepth 100000 in
theorem conv_at {w : World} {b off c : Nat} {ys : List UInt8} (h : BytesAt w (some ⟨b, off, none⟩) ys) :
    (convert 66 9 (.slice (some ⟨b, off, none⟩) ys.length c)).run Tryd.prog w = .ok (.string ⟨ys.toArray⟩) w := by
  have := run_convert_bytes_arg (P := Tryd.prog) w 66 5 Tryd.underlying66 Tryd.underlying5 b off ys.length c (ys.map fun c => (c.toNat : Int)) (by simp) (fun i hi => by
    obtain ⟨b', off', e, _, hc⟩ := h i hi
    injection e with e
    injection e with e1 e2 _
    subst e1 e2
    rw [hc]
    simp [List.getElem?_eq_getElem hi, List.getD]) 9 Tryd.underlying9
  rw [this]
  congr 3
  simp only [strOfNums, List.map_map]
  congr 1
  have : ((fun n : Int => UInt8.ofNat n.toNat) ∘ fun c : UInt8 => (c.toNat : Int)) = id := by
    funext c
    simp
  rw [this, List.map_id]
def textV (ev : Er → Value) : Except Er (ByteArray × Nat) → Value
  | .ok (s, i) => .tuple #[.string s, .int .i64 (i : Int), .nilIface]
  | .error er => .tuple #[.string ⟨#[]⟩, .int .i64 0, ev er]
set_option maxRecDepth 100000 in
set_option maxHeartbeats 8000000 in
theorem text_any (w : World) (xs : List UInt8) (A : Option Addr) (cap : Nat) (ev : Er → Value) (hE : Errs w ev) (hx : BytesAt w A xs) (hcap : xs.length ≤ cap) (hc63 : cap ≤ 9223372036854775807) :
    Calls Tryd.prog 103 #[.slice A xs.length cap] w fun e w' => e = .returned (textV ev (getText xs)) ∧ Below w.heap.size w w' := by
  have IN := Lib.hid (int_any w xs A cap ev hE hx (by omega) 7 (by omega))
  have HE := Lib.hid hE
  have HX := Lib.hid hx
  clear hE hx
  go_enter Tryd.func103, Tryd.ntmps103
  go_wp2_with fail
  refine IN.out.mono ?_
  rintro e w1 ⟨rfl, hb1⟩
  have hE1 := HE.out.below hb1
  have HX1 := Lib.hid (HX.out.below hb1)
  have HE1 := Lib.hid hE1
  have HB1 := Lib.hid hb1
  clear IN hb1 HX HE
  cases hgi : getInt 7 xs with
  | error er =>
    have hR : getText xs = .error er := by unfold getText; rw [hgi]
    obtain ⟨t, u, hi⟩ := (hE1 er).2.2
    have HR := Lib.hid (show textV ev (getText xs) = .tuple #[.string ⟨#[]⟩, .int .i64 0, .iface t u] by rw [hR]; show Value.tuple #[_, _, ev er] = _; rw [hi])
    clear hE1 hR
    rw [show intV ev (.error er) = .tuple #[.int .i64 0, .int .i64 0, .iface t u] by show Value.tuple #[_, _, ev er] = _; rw [hi]]
    clear hi hgi
    go_wp2_with fail
    go_ret3
    exact ⟨by rw [HR.out]; rfl, HB1.out⟩
  | ok p =>
    obtain ⟨n, i⟩ := p
    obtain ⟨hi1, hil, hn31⟩ := getInt_bound hgi (by decide)
    have el : w1.cell? ⟨2, 0, none⟩ = some (ev .long) := (hE1 .long).1
    have ee : w1.cell? ⟨3, 0, none⟩ = some (ev .end_) := (hE1 .end_).1
    obtain ⟨b0, off, rfl, hbl, hc0⟩ := HX1.out 0 (by omega)
    rw [Nat.add_zero] at hc0
    have hgt : getText xs = if 16384 < n then .error .long else if xs.length < i + n then .error .end_ else
      if 128 ≤ (xs.getD 0 0).toNat then
        match dec ((xs.drop i).take n) with
        | some s => .ok (⟨s.toArray⟩, i + n)
        | none => .error .huff
      else .ok (⟨((xs.drop i).take n).toArray⟩, i + n) := by unfold getText; rw [hgi]; rfl
    rw [show intV ev (.ok (n, i)) = .tuple #[.int .i64 (n : Int), .int .i64 (i : Int), .nilIface] from rfl]
    have HGT := Lib.hid hgt
    clear hgt hgi hE1
    by_cases hbig : 16384 < n
    · have HR := Lib.hid (show getText xs = .error .long by rw [HGT.out, if_pos hbig])
      clear hc0 HGT
      go_wp2_with fail
      go_quiet (fail)
      go_wp2_with fail
      go_ret3
      exact ⟨by rw [HR.out]; rfl, below_drewN HB1.out _⟩
    · by_cases hlong : xs.length < i + n
      · have HR := Lib.hid (show getText xs = .error .end_ by rw [HGT.out, if_neg hbig, if_pos hlong])
        clear hc0 HGT
        go_wp2_with fail
        go_quiet (fail)
        go_wp2_with fail
        go_ret3
        exact ⟨by rw [HR.out]; rfl, below_drewN HB1.out _⟩
      · by_cases hci : cap = i
        · have hys : ((xs.drop i).take n).length = n := by rw [List.length_take, List.length_drop]; omega
          have hBY : BytesAt w1 (some ⟨b0, off, none⟩) ((xs.drop i).take n) := by
            have e : (xs.drop i).take n = [] := List.eq_nil_of_length_eq_zero (by rw [hys]; omega)
            rw [e]
            intro j hj
            simp at hj
          have hconv := conv_at (c := 0) hBY
          have hdec := Lib.hid (decode_any ((xs.drop i).take n) _ (0) (ev .huff) w1 (by rw [hys]; omega) hBY (HE1.out .huff).1 (HE1.out .huff).2.1)
          rw [hys] at hconv hdec
          obtain ⟨x, hx0⟩ : ∃ x, (xs.getD 0 0).toNat = x := ⟨_, rfl⟩
          rw [hx0] at hc0 HGT
          clear hx0 hBY hys
          by_cases h128 : 128 ≤ x
          · have HR0 := HGT.out
            rw [if_neg hbig, if_neg hlong, if_pos h128] at HR0
            have HR1 := Lib.hid HR0
            clear HGT HR0
            go_wp2_with fail
            refine hdec.out.mono ?_
            rintro e w2 ⟨hb2, rfl⟩
            have HB2 := Lib.hid (HB1.out.trans (hb2.mono HB1.out.size))
            clear hb2 hdec
            cases hd : dec ((xs.drop i).take n) with
            | some z =>
              have HR := Lib.hid (show textV ev (getText xs) = .tuple #[.string ⟨z.toArray⟩, .int .i64 ((i + n : Nat) : Int), .nilIface] by rw [HR1.out, hd]; rfl)
              clear hd HR1
              go_wp2_with fail
              go_ret3
              exact ⟨by rw [HR.out]; go_num, HB2.out⟩
            | none =>
              obtain ⟨t, u, hi⟩ := (HE1.out .huff).2.2
              rw [hi]
              have HR := Lib.hid (show textV ev (getText xs) = .tuple #[.string ⟨#[]⟩, .int .i64 0, .iface t u] by rw [HR1.out, hd]; show Value.tuple #[_, _, ev .huff] = _; rw [hi])
              clear hd HR1 hi
              go_wp2_with fail
              go_ret3
              exact ⟨by rw [HR.out]; rfl, HB2.out⟩
          · have HR0 := HGT.out
            rw [if_neg hbig, if_neg hlong, if_neg h128] at HR0
            have HR := Lib.hid (show textV ev (getText xs) = .tuple #[.string ⟨((xs.drop i).take n).toArray⟩, .int .i64 ((i + n : Nat) : Int), .nilIface] by rw [HR0]; rfl)
            clear HGT HR0
            go_wp2_with fail
            go_ret3
            exact ⟨by rw [HR.out]; go_num, HB1.out⟩
        · have hys : ((xs.drop i).take n).length = n := by rw [List.length_take, List.length_drop]; omega
          have hBY : BytesAt w1 (some ⟨b0, off + i, none⟩) ((xs.drop i).take n) := BytesAt_take (BytesAt_drop HX1.out i) n
          have hconv := conv_at (c := cap - i) hBY
          have hdec := Lib.hid (decode_any ((xs.drop i).take n) _ (cap - i) (ev .huff) w1 (by rw [hys]; omega) hBY (HE1.out .huff).1 (HE1.out .huff).2.1)
          rw [hys] at hconv hdec
          obtain ⟨x, hx0⟩ : ∃ x, (xs.getD 0 0).toNat = x := ⟨_, rfl⟩
          rw [hx0] at hc0 HGT
          clear hx0 hBY hys
          by_cases h128 : 128 ≤ x
          · have HR0 := HGT.out
            rw [if_neg hbig, if_neg hlong, if_pos h128] at HR0
            have HR1 := Lib.hid HR0
            clear HGT HR0
            go_wp2_with fail
            refine hdec.out.mono ?_
            rintro e w2 ⟨hb2, rfl⟩
            have HB2 := Lib.hid (HB1.out.trans (hb2.mono HB1.out.size))
            clear hb2 hdec
            cases hd : dec ((xs.drop i).take n) with
            | some z =>
              have HR := Lib.hid (show textV ev (getText xs) = .tuple #[.string ⟨z.toArray⟩, .int .i64 ((i + n : Nat) : Int), .nilIface] by rw [HR1.out, hd]; rfl)
              clear hd HR1
              go_wp2_with fail
              go_ret3
              exact ⟨by rw [HR.out]; go_num, HB2.out⟩
            | none =>
              obtain ⟨t, u, hi⟩ := (HE1.out .huff).2.2
              rw [hi]
              have HR := Lib.hid (show textV ev (getText xs) = .tuple #[.string ⟨#[]⟩, .int .i64 0, .iface t u] by rw [HR1.out, hd]; show Value.tuple #[_, _, ev .huff] = _; rw [hi])
              clear hd HR1 hi
              go_wp2_with fail
              go_ret3
              exact ⟨by rw [HR.out]; rfl, HB2.out⟩
          · have HR0 := HGT.out
            rw [if_neg hbig, if_neg hlong, if_neg h128] at HR0
            have HR := Lib.hid (show textV ev (getText xs) = .tuple #[.string ⟨((xs.drop i).take n).toArray⟩, .int .i64 ((i + n : Nat) : Int), .nilIface] by rw [HR0]; rfl)
            clear HGT HR0
            go_wp2_with fail
            go_ret3
            exact ⟨by rw [HR.out]; go_num, HB1.out⟩
end Go.Proofs.YtflmgjidnclegaaDoor.Hpk
