/-
  The hedge: what a call holds in memory, what a method may turn; the call's functions in plain words.
-/
import Derived.Test.YtnmcjdiihebagaaDoorSteady
import Derived.Test.YtnmcjdiihebagaaDoorPolClos
import Derived.StillTailTactics
import Derived.Deep.RegionHeld3
namespace Go.Proofs.YtnmcjdiihebagaaDoor.Hdg
open Go.RowKit
open Pol (intsV IntsAt)
/-- all but the blocks of F is as it was -/
structure Upd3 (w w' : World) (F : Nat → Prop) : Prop where
  os : w'.os = w.os
  tape : w'.tape = w.tape
  output : w'.output = w.output
  size : w.heap.size ≤ w'.heap.size
  block : ∀ i, i < w.heap.size → ¬ F i → w'.heap[i]? = w.heap[i]?
section
variable {w w1 w' : World} {F G : Nat → Prop}
theorem Upd3.refl (w : World) (F : Nat → Prop) : Upd3 w w F := ⟨rfl, rfl, rfl, Nat.le_refl _, fun _ _ _ => rfl⟩
theorem Upd3.trans (u : Upd3 w w1 F) (v : Upd3 w1 w' G) (h : ∀ i, G i → F i ∨ w.heap.size ≤ i) : Upd3 w w' F :=
  ⟨v.os.trans u.os, v.tape.trans u.tape, v.output.trans u.output, Nat.le_trans u.size v.size, fun i hi hn => (v.block i (Nat.lt_of_lt_of_le hi u.size) (fun hg => by rcases h i hg with h1 | h1; exact hn h1; omega)).trans (u.block i hi hn)⟩
theorem Upd3.mono (u : Upd3 w w' F) (h : ∀ i, F i → G i) : Upd3 w w' G := ⟨u.os, u.tape, u.output, u.size, fun i hi hn => u.block i hi (fun hf => hn (h i hf))⟩
theorem Upd3.alloc (u : Upd3 w w1 F) (o : Obj) : Upd3 w (w1.alloc o) F :=
  ⟨u.os, u.tape, u.output, Nat.le_trans u.size (by simp), fun i hi hn => (Below.heap_alloc w1 o i (Nat.lt_of_lt_of_le hi u.size)).trans (u.block i hi hn)⟩
theorem Upd3.drewN (u : Upd3 w w1 F) (n : Nat) : Upd3 w (w1.drewN n) F := ⟨u.os, u.tape, u.output, u.size, u.block⟩
theorem Upd3.drew (u : Upd3 w w1 F) : Upd3 w w1.drew F := ⟨u.os, u.tape, u.output, u.size, u.block⟩
theorem Upd3.setCell (u : Upd3 w w1 F) {p : Addr} (hp : F p.block ∨ w.heap.size ≤ p.block) (x : Value) : Upd3 w (w1.setCell p x) F :=
  ⟨u.os, u.tape, u.output, by simpa using u.size, fun i hi hn => (Below.heap_setCell w1 p x i (fun e => by subst e; rcases hp with h | h; exact hn h; omega)).trans (u.block i hi hn)⟩
theorem Upd3.grown (u : Upd3 w w1 F) {row : Option Nat} (hg : w1.grownBy w' row) (hr : ∀ b, row = some b → F b ∨ w.heap.size ≤ b) : Upd3 w w' F :=
  ⟨hg.os.trans u.os, hg.tape.trans u.tape, hg.output.trans u.output, Nat.le_trans u.size hg.size, fun i hi hn => (hg.block i (Nat.lt_of_lt_of_le hi u.size) (fun e => by rcases hr i e.symm with h | h; exact hn h; omega)).trans (u.block i hi hn)⟩
theorem Upd3.below {B : Nat} (u : Upd3 w w' F) (hF : ∀ i, F i → B ≤ i) (hB : B ≤ w.heap.size) : Below B w w' := ⟨u.os, u.tape, u.output, u.size, fun i hi => u.block i (by omega) (fun h => by have := hF i h; omega)⟩
theorem Upd3.of_below (h : Below w.heap.size w w') (F : Nat → Prop) : Upd3 w w' F := ⟨h.os, h.tape, h.output, h.size, fun i hi _ => h.block i hi⟩
theorem Upd3.blk (u : Upd3 w w' F) {b : Nat} {t : TypeId} {cs : Array Value} (k : Blk w b t cs) (h : ¬ F b) : Blk w' b t cs := (u.block b k.lt h).trans k
theorem Upd3.own (u : Upd3 w w' F) {base : Nat} {e : TypeId} {size n : Nat} {v : Value} {xs : List Value} (h : w.ownsRow base e size v n xs) (hn : ∀ b, v.ownBlock = some b → ¬ F b) : w'.ownsRow base e size v n xs := by
  refine ⟨h.1, ?_⟩
  rcases h.2 with ⟨hv, h0⟩ | ⟨g, cap, cur, hv, hb, hg, rest⟩
  · exact .inl ⟨hv, h0⟩
  · have hlt : g < w.heap.size := by
      rcases Nat.lt_or_ge g w.heap.size with hlt | hge
      · exact hlt
      · rw [Array.getElem?_eq_none hge] at hg; cases hg
    exact .inr ⟨g, cap, cur, hv, hb, (u.block g hlt (hn g (by rw [hv]; rfl))).trans hg, rest⟩
theorem Upd3.ints (u : Upd3 w w' F) {A : Option Addr} {xs : List Int} (h : IntsAt w A xs) (hn : ∀ ad, A = some ad → ¬ F ad.block) : IntsAt w' A xs := by
  intro i hi
  obtain ⟨b, off, hA, hlt, hc⟩ := h i hi
  exact ⟨b, off, hA, Nat.lt_of_lt_of_le hlt u.size, (World.cell?_of_block (u.block b hlt (hn _ hA))).trans hc⟩
end
/-- what 'next' is -/
def nxV (g : Nat) (b : Bool) : Value := .func (.func (if b then 53 else 45)) #[.pointer (some ⟨g, 0, none⟩)] #[]
/-- a call's cells -/
def hcC (T D : Int) (fv tp : Value) (now started : Int) (nf : Value) (due : Int) (rv : Value) (ans : Int) (done : Bool) (code : Int) : Array Value :=
  #[.int .i64 T, .int .i64 D, fv, tp, .int .i64 now, .int .i64 started, nf, .int .i64 due, rv, .int .i64 ans, .bool done, .int .i64 code]
/-- an event: kind, try, code, at -/
structure Ev where
  kind : Int
  try_ : Int
  code : Int
  at_ : Int
def Ev.cells (e : Ev) : List Value := [.int .i64 e.kind, .int .i64 e.try_, .int .i64 e.code, .int .i64 e.at_]
def evV (l : List Ev) : List Value := l.flatMap Ev.cells
theorem evV_length (l : List Ev) : (evV l).length = l.length * 4 := by
  induction l with
  | nil => rfl
  | cons e l ih => simp only [evV, List.flatMap_cons, List.length_append, List.length_cons] at *; rw [ih]; show 4 + _ = _; omega
theorem evV_append (a b : List Ev) : evV (a ++ b) = evV a ++ evV b := by simp [evV]
theorem evV_one (l : List Ev) : ∀ u ∈ evV l, u.oneCell' = true := by
  intro u hu
  simp only [evV, List.mem_flatMap] at hu
  obtain ⟨e, _, he⟩ := hu
  simp only [Ev.cells, List.mem_cons, List.not_mem_nil, or_false] at he
  rcases he with rfl | rfl | rfl | rfl <;> rfl
theorem ints_one (l : List Int) : ∀ u ∈ intsV l, u.oneCell' = true := by
  intro u hu
  simp only [intsV, List.mem_map] at hu
  obtain ⟨x, _, rfl⟩ := hu
  rfl
/-- where a walk of a method stands: the call's cells, the running tries' row, what has turned -/
structure HMid (w W : World) (B g : Nat) (rb : Option Nat) (cs : Array Value) (rv : Value) (run : List Int) : Prop where
  kg : Blk W g 91 cs
  kr : W.ownsRow B 3 1 rv run.length (intsV run)
  up : Upd3 w W (fun i => i = g ∨ rb = some i)
  hB : B ≤ W.heap.size
  fresh : ∀ b, rv.ownBlock = some b → rb = some b ∨ w.heap.size ≤ b
section
variable {w W W' : World} {B g : Nat} {rb : Option Nat} {cs cs' : Array Value} {rv rv' : Value} {run run' : List Int}
theorem HMid.start (hg : Blk w g 91 cs) (hr : w.ownsRow B 3 1 rv run.length (intsV run)) (hB : B ≤ w.heap.size) : HMid w w B g rv.ownBlock cs rv run :=
  ⟨hg, hr, Upd3.refl _ _, hB, fun _ h => Or.inl h⟩
theorem HMid.alloc (h : HMid w W B g rb cs rv run) (o : Obj) : HMid w (W.alloc o) B g rb cs rv run :=
  ⟨h.kg.alloc o, h.kr.alloc o, h.up.alloc o, Nat.le_trans h.hB (by simp), h.fresh⟩
theorem HMid.drewN (h : HMid w W B g rb cs rv run) (n : Nat) : HMid w (W.drewN n) B g rb cs rv run := ⟨h.kg.drewN n, h.kr, h.up.drewN n, h.hB, h.fresh⟩
theorem HMid.drew (h : HMid w W B g rb cs rv run) : HMid w W.drew B g rb cs rv run := ⟨h.kg.drew, h.kr, h.up.drew, h.hB, h.fresh⟩
theorem HMid.ne (h : HMid w W B g rb cs rv run) : rv.ownBlock ≠ some g := own_blk_ne h.kr h.kg (by decide)
theorem HMid.set (h : HMid w W B g rb cs rv run) (i : Nat) (u : Value) : HMid w (W.setCell ⟨g, i, none⟩ u) B g rb (cs.setIfInBounds i u) rv run :=
  ⟨h.kg.set_ i u, h.kr.kept (only_setCell (World.grownBy.refl W (some g)) (Or.inl rfl) u) (Or.inr h.ne), h.up.setCell (Or.inl (Or.inl rfl)) u, by simpa using h.hB, h.fresh⟩
theorem HMid.below (h : HMid w W B g rb cs rv run) (hb : Below W.heap.size W W') : HMid w W' B g rb cs rv run :=
  ⟨h.kg.below hb h.kg.lt, h.kr.kept (only_of_below hb none) (by rcases hv : rv.ownBlock with _ | b <;> simp), h.up.grown (only_of_below hb none) (fun _ e => by cases e), Nat.le_trans h.hB hb.size, h.fresh⟩
/-- the row has been written anew -/
theorem HMid.row (h : HMid w W B g rb cs rv run) (hr : W'.ownsRow B 3 1 rv' run'.length (intsV run')) (hg : W.grownBy W' rv.ownBlock) (hf : rv'.ownBlock = rv.ownBlock ∨ rv'.ownBlock = none ∨ ∃ b, rv'.ownBlock = some b ∧ W.heap.size ≤ b) : HMid w W' B g rb cs rv' run' :=
  ⟨h.kg.grown hg (fun e => h.ne e.symm), hr, h.up.grown hg (fun b e => (h.fresh b e).elim (fun h => Or.inl (Or.inr h)) Or.inr), Nat.le_trans h.hB hg.size,
    fun b hb => by
      rcases hf with e | e | ⟨b', e, hl⟩
      · exact h.fresh b (e ▸ hb)
      · rw [e] at hb; cases hb
      · rw [e] at hb
        injection hb with hb
        subst hb
        exact Or.inr (Nat.le_trans h.up.size hl)⟩
end
set_option maxRecDepth 100000 in
theorem none_any (g : Nat) (w : World) : Calls Tryd.prog 45 #[.pointer (some ⟨g, 0, none⟩)] w fun e w' => e = .returned (.tuple #[.int .i64 0, .bool false]) ∧ w = w' := by
  go_enter Tryd.func45, Tryd.ntmps45
  go_wp2
  go_ret2
  exact ⟨rfl, rfl⟩
set_option maxRecDepth 100000 in
theorem some_any (g : Nat) (T D : Int) (fv tp : Value) (now started : Int) (nf : Value) (due : Int) (rv : Value) (ans : Int) (done : Bool) (code : Int) (w : World) (h : Blk w g 91 (hcC T D fv tp now started nf due rv ans done code)) :
    Calls Tryd.prog 53 #[.pointer (some ⟨g, 0, none⟩)] w fun e w' => e = .returned (.tuple #[.int .i64 due, .bool true]) ∧ w = w' := by
  have c0 : w.cell? ⟨g, 7, none⟩ = some (.int .i64 due) := h.cell 7
  clear h
  go_enter Tryd.func53, Tryd.ntmps53
  go_wp2
  go_ret2
  exact ⟨rfl, rfl⟩
set_option maxRecDepth 100000 in
theorem clock_any (g : Nat) (T D : Int) (fv tp : Value) (now started : Int) (nf : Value) (due : Int) (rv : Value) (ans : Int) (done : Bool) (code : Int) (n : Int) (w : World) (h : Blk w g 91 (hcC T D fv tp now started nf due rv ans done code)) :
    Calls Tryd.prog 40 #[.pointer (some ⟨g, 0, none⟩), .int .i64 n] w fun e w' => e = .returned (.tuple #[]) ∧ w' = w.setCell ⟨g, 4, none⟩ (.int .i64 (max now n)) := by
  have c0 : w.cell? ⟨g, 4, none⟩ = some (.int .i64 now) := h.cell 4
  have f0 := h.frozen 4
  clear h
  go_enter Tryd.func40, Tryd.ntmps40
  go_wp2_with (refine wpList_max (o := ⟨some 10, _, _, _, _, _⟩) rfl (.tmp 8) (.tmp 9) _ _ rfl .i64 now n rfl rfl ?_)
  go_end0
  exact ⟨rfl, rfl⟩
set_option maxRecDepth 100000 in
theorem done_any (g : Nat) (T D : Int) (fv tp : Value) (now started : Int) (nf : Value) (due : Int) (rv : Value) (ans : Int) (done : Bool) (code : Int) (w : World) (h : Blk w g 91 (hcC T D fv tp now started nf due rv ans done code)) :
    Calls Tryd.prog 26 #[.pointer (some ⟨g, 0, none⟩)] w fun e w' => e = .returned (.tuple #[.int .i64 code, .bool done]) ∧ ∃ n, w' = w.drewN n := by
  have c0 : w.cell? ⟨g, 11, none⟩ = some (.int .i64 code) := h.cell 11
  have c1 : w.cell? ⟨g, 10, none⟩ = some (.bool done) := h.cell 10
  clear h
  go_enter Tryd.func26, Tryd.ntmps26
  go_wp2
  go_quiet (fail)
  go_wp2
  go_ret2
  exact ⟨rfl, nq, rfl⟩
end Go.Proofs.YtnmcjdiihebagaaDoor.Hdg
