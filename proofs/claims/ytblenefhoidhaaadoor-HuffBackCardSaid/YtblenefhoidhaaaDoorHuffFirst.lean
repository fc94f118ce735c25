/-
  The walks of SameBytes and of the chapter's examples (first).
-/
import Derived.Test.YtblenefhoidhaaaDoorHuffDecWalk
namespace Go.Proofs.YtblenefhoidhaaaDoor.Huff
open Go.RowKit
theorem conv_bytes {w : World} {A : Option Addr} {cap : Nat} {xs : List UInt8} (h : BytesAt w A xs) :
    (convert 32 9 (.slice A xs.length cap)).run Tryd.prog w = .ok (.string ⟨xs.toArray⟩) w := by
  by_cases h0 : xs.length = 0
  · have : xs = [] := List.eq_nil_of_length_eq_zero h0
    subst this
    cases A with
    | none => exact run_convert_bytes_nil _ _ _ Tryd.underlying32 Tryd.underlying5 0 cap _ Tryd.underlying9
    | some ad =>
      obtain ⟨b, off, spot⟩ := ad
      have hl : (loadCells ⟨b, off, spot⟩ 0).run Tryd.prog w = .ok #[] w := by
        have := run_loadCells_list (P := Tryd.prog) w ⟨b, off, spot⟩ [] (fun j v hv => by simp at hv)
        simpa using this
      show (convert 32 9 (.slice (some ⟨b, off, spot⟩) 0 cap)).run Tryd.prog w = _
      rw [run_convert_bytes_string w 32 9 5 _ 0 cap Tryd.underlying32 Tryd.underlying5 Tryd.underlying9, run_bytesToString w _ 0 cap [] hl, foldl_push_bytes]
      rfl
  · obtain ⟨b, off, rfl, _, _⟩ := h 0 (by omega)
    have := run_convert_bytes_arg (P := Tryd.prog) w 32 5 Tryd.underlying32 Tryd.underlying5 b off xs.length cap (xs.map fun c => (c.toNat : Int)) (by simp) (fun i hi => by
      obtain ⟨b', off', e, _, hc⟩ := h i hi
      injection e with e
      injection e with e1 e2 _
      subst e1 e2
      rw [hc]
      simp [List.getElem?_eq_getElem hi, List.getD]) 9 Tryd.underlying9
    rw [this]
    congr 3
    simp only [strOfNums, List.map_map]
    congr 1
    have : ((fun n : Int => UInt8.ofNat n.toNat) ∘ fun c : UInt8 => (c.toNat : Int)) = id := by
      funext c
      simp
    rw [this, List.map_id]
theorem own_slice {w : World} {base : Nat} {v : Value} {xs : List UInt8} (h : w.ownsRow base 5 1 v xs.length (bytesV xs)) : ∃ A cap, v = .slice A xs.length cap ∧ BytesAt w A xs := by
  rcases h.2 with ⟨rfl, h0⟩ | ⟨g, cap, cur, rfl, _, hh, _⟩
  · exact ⟨none, 0, by rw [h0], fun i hi => by omega⟩
  · refine ⟨_, _, rfl, fun i hi => ⟨g, 0, rfl, ?_, ?_⟩⟩
    · rcases Nat.lt_or_ge g w.heap.size with hlt | hge
      · exact hlt
      · rw [Array.getElem?_eq_none hge] at hh; cases hh
    · rw [Nat.zero_add, h.cellAt i (by omega)]
      simp [bytesV, List.getElem?_eq_getElem hi, List.getD]
/-- a row of bytes written out -/
theorem bytesAt_lit {w : World} {g : Nat} {xs : List UInt8} (h : w.heap[g]? = some (.cells (bytesV xs).toArray 5 (0, 0))) : BytesAt w (some ⟨g, 0, none⟩) xs := by
  intro i hi
  refine ⟨g, 0, rfl, ?_, ?_⟩
  · rcases Nat.lt_or_ge g w.heap.size with hlt | hge
    · exact hlt
    · rw [Array.getElem?_eq_none hge] at h; cases h
  · rw [Nat.zero_add, cell_of_row w g i _ _ _ h]
    simp [bytesV, List.getElem?_eq_getElem hi, List.getD]
set_option maxHeartbeats 400000 in
theorem same_any (xs ys : List UInt8) (A B : Option Addr) (c d : Nat) (w : World) (hx : BytesAt w A xs) (hy : BytesAt w B ys) :
    Calls Tryd.prog 14 #[.slice A xs.length c, .slice B ys.length d] w fun e w' => e = .returned (.bool (decide (xs = ys))) ∧ w = w' := by
  have h1 := conv_bytes (cap := c) hx
  have h2 := conv_bytes (cap := d) hy
  generalize hn : xs.length = n at *
  generalize hm : ys.length = m at *
  clear hn hm
  go_enter Tryd.func14, Tryd.ntmps14
  go_wp2
  go_ret
  exact ⟨congrArg (fun b => Ending.returned (.bool b)) (by
    by_cases h : xs = ys
    · subst h; simp
    · rw [decide_eq_false h]; exact beq_eq_false_iff_ne.mpr h), rfl⟩
/-! ### The examples -/
def exampleS : ByteArray := ⟨#[119, 119, 119, 46, 101, 120, 97, 109, 112, 108, 101, 46, 99, 111, 109]⟩
def exampleB : List UInt8 := [241, 227, 194, 229, 242, 58, 107, 160, 171, 144, 244, 255]
theorem example_enc : enc exampleS.data.toList = exampleB := by decide +kernel
theorem example_dec : dec [7] = some [48] := by decide +kernel
theorem code97 : codeOf 97 = 3 := by decide +kernel
theorem bits48 : bitsOf 48 = 5 := by decide +kernel
theorem BytesAt.alloc {w : World} {A : Option Addr} {xs : List UInt8} (h : BytesAt w A xs) (o : Obj) : BytesAt (w.alloc o) A xs := h.below ((Below.refl _ w).alloc (Nat.le_refl _) o)
set_option maxHeartbeats 1000000 in
theorem first_any (v : Value) (w : World) (hv : w.cell? ⟨0, 0, none⟩ = some v) (hg : 0 < w.heap.size) :
    Calls Tryd.prog 8 #[] w fun e w' => e = .returned (.bool true) ∧ Below w.heap.size w w' := by
  have HE := Lib.hid (encode_any exampleS w (by decide))
  rw [example_enc] at HE
  have HC := fun W : World => Lib.hid (code_yes 97 W (by omega))
  rw [code97] at HC
  have HB := fun W : World => Lib.hid (bits_yes 48 W (by omega))
  rw [bits48] at HB
  go_enter Tryd.func8, Tryd.ntmps8
  go_wp2_with (go_at_call 13; refine HE.out.mono ?_; rintro e w1 ⟨A0, rfl, ho, hb⟩)
  obtain ⟨A, cap, rfl, hA⟩ := own_slice ho
  refine (same_any exampleB exampleB A _ cap 12 _ (hA.alloc _) (bytesAt_lit (heap_alloc_new _ _))).mono ?_
  rintro e w2 ⟨rfl, rfl⟩
  go_wp2_with fail
  refine (HC _).out.mono ?_
  rintro e w2 ⟨rfl, hb2⟩
  go_wp2_with fail
  refine (HB _).out.mono ?_
  rintro e w2 ⟨rfl, rfl⟩
  go_wp2_with fail
  have hB0 : Below w.heap.size w w2 := (hb.alloc hb.size _).trans (hb2.mono (by have := hb.size; simp only [World.alloc, Array.size_push]; omega))
  have hB1 : Below w.heap.size w (w2.alloc (.cells #[.int .u8 7] 5)) := hB0.alloc hB0.size _
  refine (decode_any [7] _ 1 v _ (by simp) (bytesAt_lit (heap_alloc_new w2 _)) ((hB1.cell hg).trans hv) (Nat.lt_of_lt_of_le hg hB1.size)).mono ?_
  rintro e w3 ⟨hb3, rfl⟩
  rw [example_dec]
  go_wp2
  go_ret
  exact ⟨rfl, hB1.trans (hb3.mono hB1.size)⟩
end Go.Proofs.YtblenefhoidhaaaDoor.Huff
