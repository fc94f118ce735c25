/-
  The walks of parleyref's Bytes, SameBytes and SameHeaders.
-/
import Derived.Test.YtflmgjidnclegaaDoorHuffDM
import Derived.Test.YtflmgjidnclegaaDoorSpecM
import Derived.Test.YtflmgjidnclegaaDoorStatM
import Derived.Test.YtflmgjidnclegaaDoorBaseM
import Derived.Test.YtflmgjidnclegaaDoorIntM
import Derived.Test.YtflmgjidnclegaaDoorDecM
import Derived.Test.YtflmgjidnclegaaDoorEncodeM
namespace Go.Proofs.YtflmgjidnclegaaDoor.Huff
open Go.RowKit
set_option maxRecDepth 100000 in
theorem conv_bytes {w : World} {A : Option Addr} {cap : Nat} {xs : List UInt8} (h : BytesAt w A xs) :
    (convert 66 9 (.slice A xs.length cap)).run Tryd.prog w = .ok (.string ⟨xs.toArray⟩) w := by
  by_cases h0 : xs.length = 0
  · have : xs = [] := List.eq_nil_of_length_eq_zero h0
    subst this
    cases A with
    | none => exact run_convert_bytes_nil _ _ _ Tryd.underlying66 Tryd.underlying5 0 cap _ Tryd.underlying9
    | some ad =>
      obtain ⟨b, off, spot⟩ := ad
      have hl : (loadCells ⟨b, off, spot⟩ 0).run Tryd.prog w = .ok #[] w := by
        have := run_loadCells_list (P := Tryd.prog) w ⟨b, off, spot⟩ [] (fun j v hv => by simp at hv)
        simpa using this
      show (convert 66 9 (.slice (some ⟨b, off, spot⟩) 0 cap)).run Tryd.prog w = _
      rw [run_convert_bytes_string w 66 9 5 _ 0 cap Tryd.underlying66 Tryd.underlying5 Tryd.underlying9, run_bytesToString w _ 0 cap [] hl, foldl_push_bytes]
      rfl
  · obtain ⟨b, off, rfl, _, _⟩ := h 0 (by omega)
    have := run_convert_bytes_arg (P := Tryd.prog) w 66 5 Tryd.underlying66 Tryd.underlying5 b off xs.length cap (xs.map fun c => (c.toNat : Int)) (by simp) (fun i hi => by
      obtain ⟨b', off', e, _, hc⟩ := h i hi
      injection e with e
      injection e with e1 e2 _
      subst e1 e2
      rw [hc]
      simp [List.getElem?_eq_getElem hi, List.getD]) 9 Tryd.underlying9
    rw [this]
    congr 3
    simp only [strOfNums, List.map_map]
    congr 1
    have : ((fun n : Int => UInt8.ofNat n.toNat) ∘ fun c : UInt8 => (c.toNat : Int)) = id := by
      funext c
      simp
    rw [this, List.map_id]
theorem own_slice {w : World} {base : Nat} {v : Value} {xs : List UInt8} (h : w.ownsRow base 5 1 v xs.length (bytesV xs)) : ∃ A cap, v = .slice A xs.length cap ∧ BytesAt w A xs := by
  rcases h.2 with ⟨rfl, h0⟩ | ⟨g, cap, cur, rfl, _, hh, _⟩
  · exact ⟨none, 0, by rw [h0], fun i hi => by omega⟩
  · refine ⟨_, _, rfl, fun i hi => ⟨g, 0, rfl, ?_, ?_⟩⟩
    · rcases Nat.lt_or_ge g w.heap.size with hlt | hge
      · exact hlt
      · rw [Array.getElem?_eq_none hge] at hh; cases hh
    · rw [Nat.zero_add, h.cellAt i (by omega)]
      simp [bytesV, List.getElem?_eq_getElem hi, List.getD]
/-- a row of bytes written out -/
theorem bytesAt_lit {w : World} {g : Nat} {xs : List UInt8} (h : w.heap[g]? = some (.cells (bytesV xs).toArray 5 (0, 0))) : BytesAt w (some ⟨g, 0, none⟩) xs := by
  intro i hi
  refine ⟨g, 0, rfl, ?_, ?_⟩
  · rcases Nat.lt_or_ge g w.heap.size with hlt | hge
    · exact hlt
    · rw [Array.getElem?_eq_none hge] at h; cases h
  · rw [Nat.zero_add, cell_of_row w g i _ _ _ h]
    simp [bytesV, List.getElem?_eq_getElem hi, List.getD]
set_option maxHeartbeats 400000 in
theorem same_any (xs ys : List UInt8) (A B : Option Addr) (c d : Nat) (w : World) (hx : BytesAt w A xs) (hy : BytesAt w B ys) :
    Calls Tryd.prog 49 #[.slice A xs.length c, .slice B ys.length d] w fun e w' => e = .returned (.bool (decide (xs = ys))) ∧ w = w' := by
  have h1 := conv_bytes (cap := c) hx
  have h2 := conv_bytes (cap := d) hy
  generalize hn : xs.length = n at *
  generalize hm : ys.length = m at *
  clear hn hm
  go_enter Tryd.func49, Tryd.ntmps49
  go_wp2
  go_ret
  exact ⟨congrArg (fun b => Ending.returned (.bool b)) (by
    by_cases h : xs = ys
    · subst h; simp
    · rw [decide_eq_false h]; exact beq_eq_false_iff_ne.mpr h), rfl⟩
end Go.Proofs.YtflmgjidnclegaaDoor.Huff
namespace Go.Proofs.YtflmgjidnclegaaDoor.Hpk
open Go.RowKit
open Huff (bytesV BytesAt)
open Tab (Hn HnAt)
theorem reads_bytes {w : World} {A : Option Addr} {xs : List UInt8} (h : BytesAt w A xs) : Reads w w.heap.size 1 A xs.length (bytesV xs) := by
  refine ⟨by simp [bytesV], fun hp => ?_⟩
  obtain ⟨b, off, hA, hlt, _⟩ := h 0 hp
  refine ⟨_, hA, hlt, fun j u hu => ?_⟩
  have hj : j < xs.length := by
    have := (List.getElem?_eq_some_iff.1 hu).1
    simpa [bytesV] using this
  obtain ⟨b', off', e, _, hc⟩ := h j hj
  rw [hA] at e
  injection e with e
  injection e with e1 e2 _
  subst e1 e2
  rw [Tab.add_pl, hc, ← hu]
  simp [bytesV, List.getElem?_eq_getElem hj, List.getD]
set_option maxRecDepth 100000 in
set_option maxHeartbeats 1000000 in
theorem bytes_any (A : Option Addr) (cap : Nat) (xs : List UInt8) (hx : xs.length ≤ 1099511627776) (w : World) (hA : BytesAt w A xs) :
    Calls Tryd.prog 44 #[.slice A xs.length cap] w (BytesEnd w xs) := by
  obtain ⟨i, hi, hi0, hi1, hi2⟩ := info_parts (P := Tryd.prog) (e := 5) (z := .int .u8 0) (size := 1) (bytes := 1) (by kernel_rfl)
  have HI := Lib.hid hi
  obtain ⟨L, hL⟩ : ∃ L : Nat, L = xs.length := ⟨_, rfl⟩
  have hmk : ∀ W : World, (Instr.makeSlice 66 (.int .i64 0) (.int .i64 (L : Int))).run Tryd.prog W = .ok (.slice (some ⟨W.heap.size, 0, none⟩) 0 L) (W.alloc (.cells (madeCells #[.int .u8 0] L) 5)) := by
    intro W
    have := run_make_rowN (P := Tryd.prog) 66 5 i (.int .u8 0) Tryd.underlying66 hi hi0 .i64 .i64 0 L (Nat.zero_le _) (by rw [hi2]; omega) (by omega) W
    rw [hi1, Nat.mul_one] at this
    exact this
  have HR := Lib.hid (reads_bytes hA)
  rw [← hL] at hx HR ⊢
  have HLL := Lib.hid hL
  clear hi hA hL
  go_enter Tryd.func44, Tryd.ntmps44
  go_wp2_with (refine wpList_append_any _ rfl (.tmp 5) (.tmp 6) 66 rfl w.heap.size 5 i (.int .u8 0) 1 1 Tryd.underlying66 HI.out hi0 hi1 hi2 rfl (by decide) _ 0 [] rfl (made_own w L (by omega)) w.heap.size A L cap (bytesV xs) rfl (HR.out.alloc (Nat.le_refl _) _) (bytes_one xs) (by unfold maxLen; omega) (by omega) (by simp) ?_; intro v1 w1 ho1 hg1 hat1)
  have hB1 : Below w.heap.size w w1 := ((Below.refl _ _).alloc (Nat.le_refl _) _).grown hg1 (by simp) (fun k hk => by have e : (some w.heap.size : Option Nat) = some k := hk; injection e with e; omega)
  rw [Nat.zero_add, List.nil_append] at ho1
  have HO1 := Lib.hid ho1
  have HB1 := Lib.hid hB1
  clear ho1 hg1 hat1 hB1 hmk
  go_wp2_with fail
  go_ret
  exact ⟨v1, rfl, by rw [← HLL.out]; exact HO1.out, HB1.out⟩
set_option maxRecDepth 100000 in
set_option maxHeartbeats 1000000 in
theorem same_headers (A B : Option Addr) (c d : Nat) (L : List Hn) (hL : L.length ≤ 4194304) (w : World) (hA : HnAt w A L) (hB : HnAt w B L) :
    Calls Tryd.prog 42 #[.slice A L.length c, .slice B L.length d] w fun e w' => e = .returned (.bool true) ∧ Below w.heap.size w w' := by
  have HA := Lib.hid hA
  have HB := Lib.hid hB
  clear hA hB
  go_enter Tryd.func42, Tryd.ntmps42
  go_wp2_with fail
  go_loopw [5] (fun i wr => ∃ k : Nat, i = .int .i64 (k : Int) ∧ k ≤ L.length ∧ Since w wr) (fun i _ => L.length - (intOf i).toNat)
  case atStart => exact ⟨0, rfl, Nat.zero_le _, Below.refl _ _⟩
  case round =>
    obtain ⟨k, rfl, hk, hs⟩ := hrel
    by_cases hlt : k < L.length
    · obtain ⟨x, hx⟩ : ∃ x, L[k]? = some x := ⟨_, List.getElem?_eq_getElem hlt⟩
      obtain ⟨b, off, hAe, _, a0, a1, a2⟩ := (HA.out.below hs) k x hx
      obtain ⟨b', off', hBe, _, b0, b1, b2⟩ := (HB.out.below hs) k x hx
      subst hAe hBe
      obtain ⟨n, v, nv⟩ := x
      simp only at a0 a1 a2 b0 b1 b2
      have HS := Lib.hid hs
      have hd : decide ((k : Int) < (L.length : Int)) = true := decide_eq_true (by omega)
      have HSH := Lib.hid (fun W => Tab.same_header_any n v nv W)
      clear hs hx
      go_wp2_with fail
      refine wp_region_in (Since wr) (Since.drew0 wr) (by kernel_rfl) (by kernel_rfl) ?_
      repeat (first
        | go_big_quiet_skip
        | (go_big_quiet_want; go_big_quiet_op; go_big_quiet_on)
        | (go_big_quiet_want; apply in_val; (· intro W hW; have d0 := hW.cell a0; have d1 := hW.cell a1; have d2 := hW.cell a2; have d3 := hW.cell b0; have d4 := hW.cell b1; have d5 := hW.cell b2; go_simp; first | done | rfl); simp only [Act.put, List.setIfInBounds_toArray, List.set_cons_zero, List.set_cons_succ]; go_big_quiet_on)
        | (go_big_quiet_want; apply in_q; (· intro W hW; go_simp; (go_at_call 16; with_reducible exact hW.call (HSH.out W))); simp only [Act.put, List.setIfInBounds_toArray, List.set_cons_zero, List.set_cons_succ]; go_big_quiet_on))
      refine wpQuiet_nil ?_
      intro W1 hW1
      have hs1 : Since w W1 := Below.trans HS.out (Below.mono hW1 (Below.size HS.out))
      have HS1 := Lib.hid hs1
      clear hW1 hs1 a0 a1 a2 b0 b1 b2
      go_wp2_with fail
      go_roundw
      case rel => exact ⟨k + 1, by go_num, by omega, HS1.out⟩
      case measure => simp [intOf]; omega
    · have hd : decide ((k : Int) < (L.length : Int)) = false := decide_eq_false (by omega)
      have HS := Lib.hid hs
      clear hs
      go_wp2_with fail
      go_ret
      exact ⟨rfl, HS.out⟩
end Go.Proofs.YtflmgjidnclegaaDoor.Hpk
/-
  An encoder's block is handed to a decoder: what the laws lean on.
-/
namespace Go.Proofs.YtflmgjidnclegaaDoor.Hpk
open Go.RowKit
open Huff (bytesV BytesAt)
open Tab (Hd hsz tot Hn Tbl HnAt hncs hncs_at hncs_length)
/-- the listed variables, as a walk wants them -/
structure Glob (w : World) (ev : Er → Value) (M : Int) : Prop where
  er : Errs w ev
  mx : w.cell? ⟨6, 0, none⟩ = some (.int .i64 M)
  hs : 10 ≤ w.heap.size
theorem Glob.below {w w' : World} {ev : Er → Value} {M : Int} (h : Glob w ev M) (hb : Below w.heap.size w w') : Glob w' ev M :=
  ⟨h.er.below hb, (Below.cell hb (p := ⟨6, 0, none⟩) (cell_lt h.mx)).trans h.mx, Nat.le_trans h.hs hb.size⟩
/-- what was there when the law began stays; so the variables do -/
theorem Glob.since {w w' : World} {ev : Er → Value} {M : Int} (h : Glob w ev M) (hb : Below w.heap.size w w') : Glob w' ev M := h.below hb
theorem hnAt_lit {w : World} {g : Nat} {L : List Hn} (h : Blk w g 23 (hncs L).toArray) : HnAt w (some ⟨g, 0, none⟩) L := by
  intro i x hx
  obtain ⟨a, b, c⟩ := hncs_at L i x hx
  refine ⟨g, 0, rfl, h.lt, ?_, ?_, ?_⟩
  · rw [Nat.zero_add]; exact (h.cell _).trans (by simpa using a)
  · rw [Nat.zero_add]; exact (h.cell _).trans (by simpa using b)
  · rw [Nat.zero_add]; exact (h.cell _).trans (by simpa using c)
theorem HnAt.upd {w w' : World} {F : Nat → Prop} {A : Option Addr} {L : List Hn} (h : HnAt w A L) (u : Upd3 w w' F) (hn : ∀ ad, A = some ad → ¬ F ad.block) : HnAt w' A L := by
  intro i x hx
  obtain ⟨b, off, hA, hlt, c0, c1, c2⟩ := h i x hx
  have := hn _ hA
  exact ⟨b, off, hA, Nat.lt_of_lt_of_le hlt u.size, u.cell c0 this, u.cell c1 this, u.cell c2 this⟩
theorem HnAt.own {w : World} {base n c : Nat} {A : Option Addr} {L : List Hn} (h : w.ownsRow base 23 3 (.slice A n c) n (hncs L)) : HnAt w A L := by
  have := Tab.HnAt.of_own h L.length
  rwa [List.take_length] at this
theorem BytesAt.upd {w w' : World} {F : Nat → Prop} {A : Option Addr} {xs : List UInt8} (h : BytesAt w A xs) (u : Upd3 w w' F) (hn : ∀ ad, A = some ad → ¬ F ad.block) : BytesAt w' A xs := by
  intro i hi
  obtain ⟨b, off, hA, hlt, c0⟩ := h i hi
  exact ⟨b, off, hA, Nat.lt_of_lt_of_le hlt u.size, u.cell c0 (hn _ hA)⟩
theorem own_bytes {w : World} {base n : Nat} {v : Value} {xs : List UInt8} (hn : n = xs.length) (h : w.ownsRow base 5 1 v n (bytesV xs)) :
    ∃ A c, v = .slice A xs.length c ∧ BytesAt w A xs ∧ (xs.length ≤ c ∧ c ≤ 9223372036854775807) ∧ ∀ ad, A = some ad → base ≤ ad.block ∧ ad.block < w.heap.size := by
  subst hn
  have hb := h
  rcases h.2 with ⟨rfl, h0⟩ | ⟨g, cap, cur, rfl, hg, hh, h1, h2, _⟩
  · exact ⟨none, 0, by rw [h0], fun i hi => by omega, by omega, fun ad e => by cases e⟩
  · obtain ⟨A, c, e, hx⟩ := Huff.own_slice hb
    injection e with e1 _ e3
    subst e1 e3
    unfold maxLen at h2
    refine ⟨_, _, rfl, hx, ⟨h1, by omega⟩, fun ad e => ?_⟩
    injection e with e
    subst e
    exact ⟨hg, hb.lt g rfl |>.2⟩
theorem Dec.upd {w w' : World} {F : Nat → Prop} {D g r lim m : Nat} {Q : List Hd} {b : Bool} (h : Dec w D g r lim Q m b) (u : Upd3 w w' F) (hD : ¬ F D) (hg : ¬ F g) (hr : ¬ F r) : Dec w' D g r lim Q m b := by
  obtain ⟨o, ht⟩ := h.kt
  exact ⟨u.blk h.kd hD, o, ht.upd u hg hr⟩
theorem Dec.below {w w' : World} {D g r lim m : Nat} {Q : List Hd} {b : Bool} (h : Dec w D g r lim Q m b) (hb : Below w.heap.size w w') : Dec w' D g r lim Q m b := h.upd (Upd3.of_below hb (fun _ => False)) id id id
/-- a decoder reads bytes that were made after it -/
theorem decode_own {w : World} {D g r lim m base n : Nat} {ev : Er → Value} {M : Int} {Q : List Hd} {v : Value} (xs : List UInt8) (hd : Dec w D g r lim Q m false) (G : Glob w ev M) (hgl : 10 ≤ g ∧ 10 ≤ r ∧ 10 ≤ D) (hlt : g < base ∧ r < base ∧ D < base) (hne : D ≠ g ∧ D ≠ r) (hlm : lim ≤ 4096)
    (hn : n = xs.length) (ho : w.ownsRow base 5 1 v n (bytesV xs)) :
    Calls Tryd.prog 41 #[.pointer (some ⟨D, 0, none⟩), v] w (DecEnd w D g r lim ev (run lim xs.length ⟨xs, [], 0, Q, m⟩)) := by
  obtain ⟨A, c, rfl, hx, hc, hA⟩ := own_bytes hn ho
  have hl : g < w.heap.size ∧ r < w.heap.size ∧ D < w.heap.size := by
    obtain ⟨o, ht⟩ := hd.kt
    obtain ⟨cs, hr, _⟩ := ht.kr
    exact ⟨ht.kg.lt, hr.lt, hd.kd.lt⟩
  cases A with
  | none => exact decode_blk (bb := 0) xs none c hd ⟨by omega, hl, hne.1, hne.2, G.er, G.mx, by omega, hlm⟩ hx hc (fun ad e => by cases e)
  | some ad =>
    obtain ⟨h1, h2⟩ := hA ad rfl
    exact decode_blk (bb := ad.block) xs (some ad) c hd ⟨by omega, hl, hne.1, hne.2, G.er, G.mx, by omega, hlm⟩ hx hc (fun ad' e => by injection e with e; rw [e])
end Go.Proofs.YtflmgjidnclegaaDoor.Hpk
/-
  The walk of the chapter's examples (first).
-/
namespace Go.Proofs.YtflmgjidnclegaaDoor.Hpk
open Go.RowKit
open Huff (bytesV BytesAt)
open Tab (Hd hsz tot Hn Tbl HnAt hncs)
def ex3 : List Hn := [(⟨#[58, 109, 101, 116, 104, 111, 100]⟩, ⟨#[71, 69, 84]⟩, false), (⟨#[58, 112, 97, 116, 104]⟩, ⟨#[47]⟩, false), (⟨#[97]⟩, ⟨#[98]⟩, false)]
def exB : List UInt8 := [130, 132, 64, 1, 97, 1, 98]
def exQ : List Hd := [(⟨#[97]⟩, ⟨#[98]⟩)]
theorem ex_one : encode (es0 4096) ex3 = (exB, ⟨exQ, 4096, 0, false⟩) := by kernel_rfl
theorem ex_two : encode ⟨exQ, 4096, 0, false⟩ ex3 = ([130, 132, 190], ⟨exQ, 4096, 0, false⟩) := by kernel_rfl
theorem ex_int : getInt 5 [31, 154, 10] = .ok (1337, 3) := by kernel_rfl
theorem ex_run : run 4096 exB.length ⟨exB, [], 0, [], 4096⟩ = .ok ⟨[], ex3, tots ex3, exQ, 4096⟩ := by
  have h := (run_encode (limit := 4096) (s := es0 4096) (Q := []) (m := 4096) ⟨by decide, by decide, by decide, fun _ => ⟨rfl, rfl⟩, fun e => by cases e⟩ ex3 (by decide)).1
  rw [ex_one] at h
  exact h
set_option maxRecDepth 100000 in
set_option maxHeartbeats 2000000 in
theorem first_any {ev : Er → Value} {M : Int} (w : World) (G : Glob w ev M) :
    Calls Tryd.prog 34 #[] w fun e w' => e = .returned (.bool true) ∧ Below w.heap.size w w' := by
  have HG := Lib.hid G
  have hs := G.hs
  clear G
  go_enter Tryd.func34, Tryd.ntmps34
  go_wp2_with fail
  refine (newenc_yes 4096 (by omega) w).mono ?_
  rintro e w1 ⟨E, rfl, hE, hb1, he1⟩
  go_wp2_with fail
  refine (newdec_yes 4096 (by omega) w1).mono ?_
  rintro e w2 ⟨D, rfl, hD, hb2, kd2, o2, ht2⟩
  have hE1 := he1.ke.lt
  have hs1 := hb1.size
  have hs2 := hb2.size
  have hD2 := kd2.lt
  have HB2 := Lib.hid (hb1.trans (hb2.mono hb1.size))
  have HE2 := Lib.hid (he1.below hb2)
  have HD2 := Lib.hid (⟨kd2, o2, ht2⟩ : Dec w2 D (w1.heap.size + 1) w1.heap.size 4096 [] 4096 false)
  clear hb1 he1 hb2 kd2 ht2
  go_wp2_with fail
  have K3 := Blk.new w2 23 (hncs ex3).toArray
  have hB3 := (Below.refl w2.heap.size w2).alloc (Nat.le_refl _) (.cells (hncs ex3).toArray 23)
  have G3 := HG.out.since (HB2.out.trans (hB3.mono HB2.out.size))
  have HE3 := HE2.out.below hB3
  have HD3 := Lib.hid (HD2.out.below hB3)
  have HN3 := hnAt_lit K3
  have hs3 : (w2.alloc (.cells (hncs ex3).toArray 23)).heap.size = w2.heap.size + 1 := by simp
  have V3 : EncEnv (w2.alloc (.cells (hncs ex3).toArray 23)) E (w.heap.size + 1) w.heap.size (some ⟨w2.heap.size, 0, none⟩) ex3 M :=
    ⟨by omega, by omega, G3.mx, by omega, HN3, fun ad e _ => by injection e with e; subst e; simp only; omega, by decide, by decide⟩
  have HC := Lib.hid (encode_any 3 HE3 V3 (Nat.zero_le _))
  generalize hw3 : w2.alloc (.cells (hncs ex3).toArray 23) = w3 at *
  have hw3' : w2.alloc (.cells #[.string ⟨#[58, 109, 101, 116, 104, 111, 100]⟩, .string ⟨#[71, 69, 84]⟩, .bool false, .string ⟨#[58, 112, 97, 116, 104]⟩, .string ⟨#[47]⟩, .bool false, .string ⟨#[97]⟩, .string ⟨#[98]⟩, .bool false] 23) = w3 := hw3
  rw [hw3']
  have HN := Lib.hid HN3
  have HB3 := Lib.hid (HB2.out.trans (hB3.mono HB2.out.size))
  have HGG := Lib.hid G3
  clear hw3 hw3' K3 HE3 G3 HN3 V3 HE2 HD2 hB3
  refine HC.out.mono ?_
  rintro e w4 ⟨v4, rfl, ho4, he4, hu4⟩
  rw [ex_one] at ho4 he4
  simp only at ho4 he4
  have hs4 := hu4.size
  have hb4 : Below w.heap.size w w4 := below_upd HB3.out hu4 (by omega) (by omega)
  have G4 := HG.out.since hb4
  have HN4 := HnAt.upd HN.out hu4 (fun ad e => by injection e with e; subst e; simp only; omega)
  have V4 : EncEnv w4 E (w.heap.size + 1) w.heap.size (some ⟨w2.heap.size, 0, none⟩) ex3 M :=
    ⟨by omega, by omega, G4.mx, by omega, HN4, fun ad e _ => by injection e with e; subst e; simp only; omega, by decide, by decide⟩
  have HD4 := HD3.out.upd hu4 (by omega) (by omega) (by omega)
  have HC4 := Lib.hid (encode_any 3 he4 V4 (Nat.zero_le _))
  obtain ⟨A4, c4, rfl, -, -⟩ := Tab.own_slice ho4
  have HO4 := Lib.hid ho4
  have HH4 := Lib.hid hb4
  have HDD4 := Lib.hid HD4
  have HNN4 := Lib.hid HN4
  clear HC ho4 he4 hu4 hb4 G4 HN4 V4 HD4 HD3 HN HGG HB3
  go_wp2_with fail
  refine HC4.out.mono ?_
  rintro e w5 ⟨v5, rfl, ho5, he5, hu5⟩
  rw [ex_two] at ho5
  simp only at ho5
  have hs5 := hu5.size
  have hb5 : Below w.heap.size w w5 := below_upd HH4.out hu5 (by omega) (by omega)
  have HD5 := Lib.hid (HDD4.out.upd hu5 (by omega) (by omega) (by omega))
  have HN5 := Lib.hid (HnAt.upd HNN4.out hu5 (fun ad e => by injection e with e; subst e; simp only; omega))
  have HO45 := Lib.hid (hu5.own HO4.out (fun b hb hi => by have := (HO4.out.lt b hb).1; omega))
  obtain ⟨A5, c5, rfl, hx5, -, hA5⟩ := own_bytes rfl ho5
  have HA5 : Hid (∀ ad, A5 = some ad → w4.heap.size ≤ ad.block) := Lib.hid (fun ad e => (hA5 ad e).1)
  have HX5 := Lib.hid hx5
  have HB5 := Lib.hid hb5
  clear HC4 hA5 ho5 he5 hu5 hb5 hx5 HDD4 HNN4 HO4 HH4
  go_wp2_with fail
  have hB6 : Below w5.heap.size w5 (w5.alloc (.cells #[.int .u8 31, .int .u8 154, .int .u8 10] 5)) := (Below.refl _ _).alloc (Nat.le_refl _) _
  have hb6 := HB5.out.trans (hB6.mono HB5.out.size)
  have hx6 : BytesAt (w5.alloc (.cells #[.int .u8 31, .int .u8 154, .int .u8 10] 5)) (some ⟨w5.heap.size, 0, none⟩) [31, 154, 10] := Huff.bytesAt_lit (heap_alloc_new w5 _)
  have HI := int_any _ [31, 154, 10] (some ⟨w5.heap.size, 0, none⟩) 3 ev (HG.out.since hb6).er hx6 (by simp) 5 (by omega)
  rw [ex_int] at HI
  have HI := Lib.hid HI
  have HB6 := Lib.hid hb6
  have HD6 := Lib.hid (HD5.out.below hB6)
  have HN6 := Lib.hid (HN5.out.below hB6)
  have HO6 := Lib.hid (own_in HO45.out hB6)
  have HX6 := Lib.hid (HX5.out.below hB6)
  clear hB6 hb6 hx6 HB5 HD5 HN5 HO45 HX5
  generalize w5.alloc (.cells #[.int .u8 31, .int .u8 154, .int .u8 10] 5) = w6 at *
  refine HI.out.mono ?_
  rintro e w7 ⟨rfl, hb7⟩
  rw [show intV ev (.ok (1337, 3)) = .tuple #[.int .i64 1337, .int .i64 3, .nilIface] from rfl]
  have hb7' := HB6.out.trans (hb7.mono HB6.out.size)
  have HB7 := Lib.hid hb7'
  have HN7 := Lib.hid (HN6.out.below hb7)
  have HX7 := Lib.hid (HX6.out.below hb7)
  have DC := decode_own (ev := ev) (M := M) exB (HD6.out.below hb7) (HG.out.since hb7') (by omega) (by omega) (by omega) (by omega) rfl (own_in HO6.out hb7)
  rw [ex_run] at DC
  have HDC := Lib.hid DC
  clear HI HB6 HD6 HN6 HO6 HX6 hb7 hb7' DC
  go_wp2_with fail
  refine HDC.out.mono ?_
  rintro e w8 ⟨ov, rfl, ho8, hd8, hu8⟩
  simp only at ho8 hd8
  have hs7 := HB7.out.size
  have hb8 : Below w.heap.size w w8 := below_upd HB7.out hu8 (by omega) (by omega)
  have HN8 := HnAt.upd HN7.out hu8 (fun ad e => by injection e with e; subst e; simp only; omega)
  have HX8 := Lib.hid (BytesAt.upd HX7.out hu8 (fun ad e => by have := HA5.out ad e; omega))
  obtain ⟨A8, c8, rfl, -, -⟩ := Tab.own_slice ho8
  have HSH := Lib.hid (same_headers A8 (some ⟨w2.heap.size, 0, none⟩) c8 3 ex3 (by decide) w8 (HnAt.own ho8) HN8)
  have HB8 := Lib.hid hb8
  have HD8 := Lib.hid hd8
  clear HDC ho8 hd8 hu8 hb8 HN8 HN7 HX7 HB7
  go_wp2_with fail
  refine HSH.out.mono ?_
  rintro e w9 ⟨rfl, hb9⟩
  have HB9 := Lib.hid (HB8.out.trans (hb9.mono HB8.out.size))
  have HX9 := HX8.out.below hb9
  have HD9 := HD8.out.below hb9
  have hBa : Below w9.heap.size w9 (w9.alloc (.cells #[.int .u8 130, .int .u8 132, .int .u8 190] 5)) := (Below.refl _ _).alloc (Nat.le_refl _) _
  have HSB := Lib.hid (Huff.same_any [130, 132, 190] [130, 132, 190] A5 (some ⟨w9.heap.size, 0, none⟩) c5 3 _ (HX9.below hBa) (Huff.bytesAt_lit (heap_alloc_new w9 _)))
  have HDA := HD9.below hBa
  obtain ⟨oA, htA⟩ := HDA.kt
  have HLN := Lib.hid (declen_any HDA.kd htA)
  have HBA := Lib.hid (HB9.out.trans (hBa.mono HB9.out.size))
  clear HSH hb9 HX8 HX9 HD8 HD9 HB8 hBa HDA htA
  go_wp2_with fail
  refine HSB.out.mono ?_
  rintro e wb ⟨rfl, rfl⟩
  rw [show decide True = true from rfl]
  go_wp2_with fail
  refine HLN.out.mono ?_
  rintro e wb ⟨rfl, rfl⟩
  go_wp2_with fail
  go_ret
  exact ⟨rfl, HBA.out⟩
end Go.Proofs.YtflmgjidnclegaaDoor.Hpk
