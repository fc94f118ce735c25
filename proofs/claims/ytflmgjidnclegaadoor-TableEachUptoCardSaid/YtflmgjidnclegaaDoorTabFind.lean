/-
  The walk of Find.
-/
import Derived.Test.YtflmgjidnclegaaDoorTabGet
namespace Go.Proofs.YtflmgjidnclegaaDoor.Tab
open Go.RowKit
/-- the index of a header among l, whose first one has the index i -/
def findIn (n v : ByteArray) : List Hd → Nat → Nat → Nat × Bool
  | [], _, named => (named, false)
  | h :: t, i, named => if h.1 = n then (if h.2 = v then (i, true) else findIn n v t (i + 1) (if named = 0 then i else named)) else findIn n v t (i + 1) named
theorem str_inj {a b : ByteArray} (h : a.toList = b.toList) : a = b := by
  rw [ByteArray.toList_eq, ByteArray.toList_eq] at h
  cases a
  cases b
  exact congrArg ByteArray.mk (Array.toList_inj.1 h)
theorem str_ne {a b : ByteArray} (h : (!a.toList == b.toList) = true) : a ≠ b := by rintro rfl; simp at h
theorem str_eq {a b : ByteArray} (h : (!a.toList == b.toList) = false) : a = b := str_inj (by simpa using h)
theorem str_ne' {a b : ByteArray} (h : (a.toList == b.toList) = false) : a ≠ b := by rintro rfl; simp at h
theorem str_eq' {a b : ByteArray} (h : (a.toList == b.toList) = true) : a = b := str_inj (by simpa using h)
def findR (n v : ByteArray) (Q : List Hd) : Nat × Bool := findIn n v (stat ++ Q.reverse) 1 0
def FindAt (w : World) (n v : ByteArray) (Q : List Hd) (k : Nat) (named : Nat) (wr : World) : Prop := k ≤ 61 + Q.length ∧ named ≤ k ∧ findIn n v ((stat ++ Q.reverse).drop k) (k + 1) named = findR n v Q ∧ Below w.heap.size w wr
def FindEnd (w : World) (n v : ByteArray) (Q : List Hd) (e : Ending) (w' : World) : Prop := e = .returned (.tuple #[.int .i64 ((findR n v Q).1 : Int), .bool (findR n v Q).2]) ∧ Below w.heap.size w w'
theorem findIn_no {n v : ByteArray} {h : Hd} {t : List Hd} {i named : Nat} (h1 : h.1 ≠ n) : findIn n v (h :: t) i named = findIn n v t (i + 1) named := by rw [findIn, if_neg h1]
theorem findIn_hit {n v : ByteArray} {h : Hd} {t : List Hd} {i named : Nat} (h1 : h.1 = n) (h2 : h.2 = v) : findIn n v (h :: t) i named = (i, true) := by rw [findIn, if_pos h1, if_pos h2]
theorem findIn_new {n v : ByteArray} {h : Hd} {t : List Hd} {i : Nat} (h1 : h.1 = n) (h2 : h.2 ≠ v) : findIn n v (h :: t) i 0 = findIn n v t (i + 1) i := by rw [findIn, if_pos h1, if_neg h2, if_pos rfl]
theorem findIn_old {n v : ByteArray} {h : Hd} {t : List Hd} {i named : Nat} (h1 : h.1 = n) (h2 : h.2 ≠ v) (h3 : named ≠ 0) : findIn n v (h :: t) i named = findIn n v t (i + 1) named := by rw [findIn, if_pos h1, if_neg h2, if_neg h3]
set_option maxRecDepth 100000 in
set_option maxHeartbeats 1000000 in
theorem find_any {w : World} {g r o m : Nat} {Q : List Hd} (h : Tbl w g r o Q m) (n v : ByteArray) (M : Int) (hM : w.cell? ⟨6, 0, none⟩ = some (.int .i64 M)) :
    Calls Tryd.prog 30 #[.pointer (some ⟨g, 0, none⟩), .string n, .string v] w fun e w' => FindEnd w n v Q e w' := by
  have H0 := Lib.hid (⟨Nat.zero_le _, Nat.le_refl _, rfl, Below.refl _ _⟩ : FindAt w n v Q 0 0 w)
  have hl := h.len
  go_enter Tryd.func30, Tryd.ntmps30
  go_wp2_with fail
  go_loopw [8, 9] (fun nm i wr => ∃ k named : Nat, i = .int .i64 ((k : Int) + 1) ∧ nm = .int .i64 (named : Int) ∧ FindAt w n v Q k named wr) (fun _ i _ => 70 + Q.length - (intOf i).toNat)
  case atStart => exact ⟨0, 0, rfl, rfl, H0.out⟩
  case round =>
    clear H0
    obtain ⟨k, named, rfl, rfl, hk, hnk, hf, hb⟩ := hrel
    have hT := h.below hb
    have c2 : wr.cell? ⟨g, 2, none⟩ = some (.int .i64 (Q.length : Int)) := hT.kg.cell 2
    have HG := Lib.hid (get_any hT ((k : Int) + 1) M ((Below.cell hb (p := ⟨6, 0, none⟩) (cell_in hM)).trans hM))
    have HT := Lib.hid h
    have HM := Lib.hid hM
    have HF := Lib.hid hf
    have HB := Lib.hid hb
    have hlen : (stat ++ Q.reverse).length = 61 + Q.length := by rw [List.length_append, stat_len, List.length_reverse]
    clear h hM hf hb hT
    by_cases hlt : k < 61 + Q.length
    · have hx : ∃ x, (stat ++ Q.reverse)[k]? = some x := ⟨_, List.getElem?_eq_getElem (by omega)⟩
      obtain ⟨x, hx⟩ := hx
      have hg : getAt Q ((k : Int) + 1) = some x := by
        unfold getAt
        rw [if_pos (by omega), show ((k : Int) + 1).toNat - 1 = k by omega]
        exact hx
      have hdr : (stat ++ Q.reverse).drop k = x :: (stat ++ Q.reverse).drop (k + 1) := by
        rw [List.drop_eq_getElem_cons (by omega)]
        congr 1
        rw [List.getElem?_eq_getElem (by omega)] at hx
        exact Option.some.inj hx
      have HG2 := HG.out
      rw [hg] at HG2
      have HG3 := Lib.hid HG2
      have HF2 := HF.out
      rw [hdr] at HF2
      have HF3 := Lib.hid HF2
      clear HG HG2 hg hx hlen HF HF2 hdr
      have hle : decide ((k : Int) + 1 ≤ 61 + (Q.length : Int)) = true := decide_eq_true (by omega)
      go_wp2_with fail
      refine HG3.out.mono ?_
      rintro e w1 ⟨rfl, hb1⟩
      unfold hdR hdN hdV
      simp only [Option.getD_some, Option.isSome_some]
      clear HG3
      have hB1 := HB.out.trans (hb1.mono HB.out.size)
      clear HB hb1 c2
      go_wp2_with fail
      · have h1 := str_ne (by assumption : (!x.1.toList == n.toList) = true)
        go_roundw
        case rel => exact ⟨k + 1, named, by go_num, rfl, by omega, by omega, (findIn_no h1).symm.trans HF3.out, hB1.alloc hB1.size _⟩
        case measure => simp [intOf]; omega
      · have h1 := str_eq (by assumption : (!x.1.toList == n.toList) = false)
        have h2 := str_eq' (by assumption : (x.2.toList == v.toList) = true)
        have hR : findR n v Q = (k + 1, true) := HF3.out.symm.trans (findIn_hit h1 h2)
        go_ret2
        exact ⟨by rw [hR]; rfl, hB1.alloc hB1.size _⟩
      · have h1 := str_eq (by assumption : (!x.1.toList == n.toList) = false)
        have h2 := str_ne' (by assumption : (x.2.toList == v.toList) = false)
        have h3 : named = 0 := by have h0 : ((named : Int) == 0) = true := by assumption
                                  simpa using h0
        go_roundw
        case rel => exact ⟨k + 1, k + 1, by go_num, by go_num, by omega, by omega, by subst h3; exact (findIn_new h1 h2).symm.trans HF3.out, hB1.alloc hB1.size _⟩
        case measure => simp [intOf]; omega
      · have h1 := str_eq (by assumption : (!x.1.toList == n.toList) = false)
        have h2 := str_ne' (by assumption : (x.2.toList == v.toList) = false)
        have h3 : named ≠ 0 := by have h0 : ((named : Int) == 0) = false := by assumption
                                  simpa using h0
        go_roundw
        case rel => exact ⟨k + 1, named, by go_num, rfl, by omega, by omega, (findIn_old h1 h2 h3).symm.trans HF3.out, hB1.alloc hB1.size _⟩
        case measure => simp [intOf]; omega
    · have hk1 : k = 61 + Q.length := by omega
      have hR : findR n v Q = (named, false) := by
        rw [← HF.out, List.drop_eq_nil_of_le (by omega), findIn]
      have hle : decide ((k : Int) + 1 ≤ 61 + (Q.length : Int)) = false := decide_eq_false (by omega)
      have HR := Lib.hid hR
      clear HG HF hlen hR hk1
      go_wp2_with fail
      go_ret2
      exact ⟨by rw [HR.out]; rfl, HB.out⟩
end Go.Proofs.YtflmgjidnclegaaDoor.Tab
