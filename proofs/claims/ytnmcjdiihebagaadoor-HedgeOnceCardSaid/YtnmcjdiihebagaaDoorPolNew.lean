/-
  slices.Clone, Index and Contains of ints; NewCall; the throttle's functions.
-/
import Derived.Test.YtnmcjdiihebagaaDoorPolCall
namespace Go.Proofs.YtnmcjdiihebagaaDoor.Pol
open Go.RowKit
def intsV (l : List Int) : List Value := l.map fun c => .int .i64 c
theorem own_ge {w : World} {base : Nat} {e : TypeId} {size n : Nat} {v : Value} {xs : List Value} (h : w.ownsRow base e size v n xs) : ∀ k, v.ownBlock = some k → base ≤ k := by
  intro k hk
  rcases h.2 with ⟨rfl, _⟩ | ⟨g, cap, cur, rfl, hg, _⟩
  · simp [Value.ownBlock] at hk
  · simp [Value.ownBlock] at hk
    omega
theorem own_ints {w : World} {base n : Nat} {v : Value} {xs : List Int} (hn : xs.length = n) (h : w.ownsRow base 3 1 v n (intsV xs)) : ∃ A cap, v = .slice A n cap ∧ IntsAt w A xs := by
  rcases h.2 with ⟨rfl, h0⟩ | ⟨g, cap, cur, rfl, _, hh, _⟩
  · exact ⟨none, 0, by rw [h0], fun i hi => by omega⟩
  · refine ⟨_, _, rfl, fun i hi => ⟨g, 0, rfl, ?_, ?_⟩⟩
    · rcases Nat.lt_or_ge g w.heap.size with hlt | hge
      · exact hlt
      · rw [Array.getElem?_eq_none hge] at hh; cases hh
    · rw [Nat.zero_add, h.cellAt i (by omega)]
      simp [intsV, List.getElem?_eq_getElem hi, List.getD]
theorem ints_reads {w : World} {A : Option Addr} {xs : List Int} (h : IntsAt w A xs) : Reads w w.heap.size 1 A xs.length (intsV xs) := by
  refine ⟨by simp [intsV], fun hn => ?_⟩
  obtain ⟨b, off, rfl, hlt, _⟩ := h 0 hn
  refine ⟨_, rfl, hlt, fun j u hu => ?_⟩
  have hj : j < xs.length := by
    rcases Nat.lt_or_ge j xs.length with h1 | h1
    · exact h1
    · rw [List.getElem?_eq_none (by simpa [intsV] using h1)] at hu; cases hu
  obtain ⟨b', off', e, _, hc⟩ := h j hj
  injection e with e
  injection e with e1 e2 _
  subst e1 e2
  rw [Addr.add_lit, hc]
  rw [← hu]
  simp [intsV, List.getElem?_eq_getElem hj, List.getD]
theorem eql_nil (A : Option Addr) (n c : Nat) (w : World) : (binOp .eql 22 (.slice A n c) (.slice none 0 0)).run Tryd.prog w = .ok (.bool A.isNone) w := by
  simp [binOp, run_equal_slice_nil w 22 3 A n c Tryd.underlying22]
set_option maxRecDepth 100000 in
set_option maxHeartbeats 1000000 in
theorem clone_any (xs : List Int) (A : Option Addr) (n c : Nat) (hn : xs.length = n) (hcap : n ≤ 1000000) (w : World) (hx : IntsAt w A xs) (h0 : A = none → c = 0) :
    Calls Tryd.prog 33 #[.slice A n c] w fun e w' => ∃ v, e = .returned v ∧ w'.ownsRow w.heap.size 3 1 v n (intsV xs) ∧ Below w.heap.size w w' := by
  have heq := fun W : World => eql_nil A n c W
  cases A with
  | none =>
    have : xs = [] := by
      cases xs with
      | nil => rfl
      | cons x xs => obtain ⟨_, _, e, _⟩ := hx 0 (by simp); cases e
    subst this
    have hc := h0 rfl
    subst hc
    have hn0 : n = 0 := by simpa using hn.symm
    subst hn0
    go_enter Tryd.func33, Tryd.ntmps33
    go_wp2
    go_ret
    exact ⟨_, rfl, ⟨rfl, Or.inl ⟨rfl, rfl⟩⟩, Below.refl _ _⟩
  | some ad =>
    subst hn
    have hown : (w.alloc (.cells #[] 3)).ownsRow w.heap.size 3 1 (.slice (some ⟨w.heap.size, 0, none⟩) 0 0) 0 [] :=
      ⟨rfl, Or.inr ⟨w.heap.size, 0, #[], rfl, Nat.le_refl _, heap_alloc_new w _, Nat.le_refl _, Nat.zero_le _, rfl, rfl⟩⟩
    have hr := (ints_reads hx).alloc (Nat.le_refl _) (.cells #[] 3)
    have h1 : ∀ u ∈ intsV xs, u.oneCell' = true := by
      intro u hu
      simp only [intsV, List.mem_map] at hu
      obtain ⟨x, _, rfl⟩ := hu
      rfl
    have hbl : Below w.heap.size w (w.alloc (.cells #[] 3)) := (Below.refl _ _).alloc (Nat.le_refl _) _
    obtain ⟨i, hi, hi0, hi1, hi2⟩ := info_parts (P := Tryd.prog) (e := 3) (z := .int .i64 0) (size := 1) (bytes := 8) (by kernel_rfl)
    go_enter Tryd.func33, Tryd.ntmps33
    go_wp2_with (at_builtin; refine wpList_append_any _ rfl _ _ 22 rfl w.heap.size 3 i (.int .i64 0) 1 8 Tryd.underlying22 hi hi0 hi1 hi2 rfl (by decide) _ 0 [] rfl hown w.heap.size (some ad) xs.length c (intsV xs) rfl hr h1 (by unfold maxLen; omega) (by omega) hbl.size ?_; intro v' w' ho hgr _)
    go_ret
    refine ⟨v', rfl, ?_, hbl.grown hgr hbl.size (own_ge hown)⟩
    rw [Nat.zero_add, List.nil_append] at ho
    exact ho
theorem own_lt {w : World} {base : Nat} {e : TypeId} {size n : Nat} {v : Value} {xs : List Value} (h : w.ownsRow base e size v n xs) : ∀ k, v.ownBlock = some k → k < w.heap.size := by
  intro k hk
  rcases h.2 with ⟨rfl, _⟩ | ⟨g, cap, cur, rfl, _, hg, _⟩
  · simp [Value.ownBlock] at hk
  · simp [Value.ownBlock] at hk
    subst hk
    rcases Nat.lt_or_ge g w.heap.size with hlt | hge
    · exact hlt
    · rw [Array.getElem?_eq_none hge] at hg; cases hg
theorem IntsAt.setCell {w : World} {A : Option Addr} {xs : List Int} (h : IntsAt w A xs) {p : Addr} (hp : ∀ ad, A = some ad → ad.block ≠ p.block) (u : Value) : IntsAt (w.setCell p u) A xs := by
  intro i hi
  obtain ⟨b, off, hA, hlt, hc⟩ := h i hi
  refine ⟨b, off, hA, by simpa using hlt, ?_⟩
  rw [World.cell?_of_block (w := w) (Below.heap_setCell w p u b (hp _ hA))]
  exact hc
/-- a call's cells -/
def callC (T F M X : Int) (l tp : Value) (tries waits : Int) (r co d : Bool) : Array Value :=
  #[.int .i64 T, .int .i64 F, .int .i64 M, .int .i64 X, l, tp, .int .i64 tries, .int .i64 waits, .bool r, .bool co, .bool d]
set_option maxRecDepth 100000 in
set_option maxHeartbeats 1000000 in
theorem newcall_ok (T F M X : Int) (xs : List Int) (A : Option Addr) (n c : Nat) (hn : xs.length = n) (hcap : n ≤ 1000000) (h0 : A = none → c = 0) (tp : Option Addr) (v : Value) (w : World) (hx : IntsAt w A xs) (hok : polOk T F M X xs = true) (hv : w.cell? ⟨0, 0, none⟩ = some v) (hg : 0 < w.heap.size) :
    Calls Tryd.prog 13 #[.agg #[.int .i64 T, .int .i64 F, .int .i64 M, .int .i64 X, .slice A n c], .pointer tp] w fun e w' => ∃ g A' c', e = .returned (.tuple #[.pointer (some ⟨g, 0, none⟩), .nilIface]) ∧ w.heap.size ≤ g ∧
      Blk w' g 74 (callC T F M X (.slice A' n c') (.pointer tp) 1 0 false false false) ∧ IntsAt w' A' xs ∧ (∀ ad, A' = some ad → w.heap.size ≤ ad.block ∧ ad.block ≠ g) ∧ Below w.heap.size w w' := by
  have hB0 : Below w.heap.size w (w.alloc (.cells #[.int .i64 T, .int .i64 F, .int .i64 M, .int .i64 X, .slice A n c] 29)) := (Below.refl _ _).alloc (Nat.le_refl _) _
  have hx1 := hx.below hB0
  have hv1 := (hB0.cell (p := ⟨0, 0, none⟩) hg).trans hv
  have hg1 : 0 < (w.alloc (.cells #[.int .i64 T, .int .i64 F, .int .i64 M, .int .i64 X, .slice A n c] 29)).heap.size := Nat.lt_of_lt_of_le hg hB0.size
  have HV := Lib.hid (valid_any T F M X xs A n c hn (by omega) v _ hx1 hv1 hg1)
  rw [hok] at HV
  go_enter Tryd.func13, Tryd.ntmps13
  go_wp2_with fail
  refine HV.out.mono ?_
  rintro e w2 ⟨rfl, hb2⟩
  have hP2 : Blk w2 w.heap.size 29 #[.int .i64 T, .int .i64 F, .int .i64 M, .int .i64 X, .slice A n c] := (Blk.new w 29 #[.int .i64 T, .int .i64 F, .int .i64 M, .int .i64 X, .slice A n c]).below hb2 (by simp)
  have hB2 : Below w.heap.size w w2 := hB0.trans (hb2.mono hB0.size)
  have hx2 := hx1.below hb2
  have hc4 : w2.cell? ⟨w.heap.size, 4, none⟩ = some (.slice A n c) := hP2.cell 4
  clear hx1 hv1 hg1 HV
  go_wp2_with fail
  refine (clone_any xs A n c hn hcap w2 hx2 h0).mono ?_
  rintro e w3 ⟨v2, rfl, ho, hb3⟩
  have hlt2 : w.heap.size < w2.heap.size := hP2.lt
  have hP3 := hP2.below hb3 hlt2
  have hB3 : Below w.heap.size w w3 := hB2.trans (hb3.mono hB2.size)
  obtain ⟨A', c', rfl, hx3⟩ := own_ints hn ho
  have hge : ∀ ad, A' = some ad → w2.heap.size ≤ ad.block := by
    rintro ad rfl
    exact own_ge ho _ rfl
  have hlt3 : ∀ ad, A' = some ad → ad.block < w3.heap.size := by
    rintro ad rfl
    exact own_lt ho _ rfl
  have hc4b : w3.cell? ⟨w.heap.size, 4, none⟩ = some (.slice A n c) := hP3.cell 4
  have hd0 : w3.cell? ⟨w.heap.size, 0, none⟩ = some (.int .i64 T) := hP3.cell 0
  have hd1 : w3.cell? ⟨w.heap.size, 1, none⟩ = some (.int .i64 F) := hP3.cell 1
  have hd2 : w3.cell? ⟨w.heap.size, 2, none⟩ = some (.int .i64 M) := hP3.cell 2
  have hd3 : w3.cell? ⟨w.heap.size, 3, none⟩ = some (.int .i64 X) := hP3.cell 3
  have hf4 : w3.frozen? ⟨w.heap.size, 4, none⟩ = false := hP3.frozen 4
  have hP4 := hP3.set_ 4 (.slice A' n c')
  clear hP2 hc4 hx2 ho hb2 hb3
  go_wp2_with fail
  go_ret2
  have hs3 : (w3.setCell ⟨w.heap.size, 4, none⟩ (.slice A' n c')).heap.size = w3.heap.size := by simp
  have hB4 := hB3.setCell (p := ⟨w.heap.size, 4, none⟩) (Nat.le_refl _) (.slice A' n c')
  have hx4 := hx3.setCell (p := ⟨w.heap.size, 4, none⟩) (fun ad e => by have := hge ad e; show ad.block ≠ w.heap.size; omega) (.slice A' n c')
  have hx5 := hx4.below ((Below.refl _ _).alloc (Nat.le_refl _) (.cells (callC T F M X (.slice A' n c') (.pointer tp) 1 0 false false false) 74))
  have hK := Blk.new (w3.setCell ⟨w.heap.size, 4, none⟩ (.slice A' n c')) 74 (callC T F M X (.slice A' n c') (.pointer tp) 1 0 false false false)
  rw [hs3] at hK
  exact ⟨_, A', c', rfl, hB3.size, hK, hx5, fun ad e => ⟨by have := hge ad e; omega, by have := hlt3 ad e; omega⟩, hB4.alloc (by rw [hs3]; exact hB3.size) _⟩
end Go.Proofs.YtnmcjdiihebagaaDoor.Pol
