/-
  A world in which only the blocks of F have turned.
-/
import Derived.Test.YtflmgjidnclegaaDoorTail
namespace Go.Proofs.YtflmgjidnclegaaDoor
open Go.RowKit
/-- all but the blocks of F is as it was -/
structure Upd3 (w w' : World) (F : Nat → Prop) : Prop where
  os : w'.os = w.os
  tape : w'.tape = w.tape
  output : w'.output = w.output
  size : w.heap.size ≤ w'.heap.size
  block : ∀ i, i < w.heap.size → ¬ F i → w'.heap[i]? = w.heap[i]?
section
variable {w w1 w' : World} {F G : Nat → Prop}
theorem Upd3.refl (w : World) (F : Nat → Prop) : Upd3 w w F := ⟨rfl, rfl, rfl, Nat.le_refl _, fun _ _ _ => rfl⟩
theorem Upd3.trans (u : Upd3 w w1 F) (v : Upd3 w1 w' G) (h : ∀ i, G i → F i ∨ w.heap.size ≤ i) : Upd3 w w' F :=
  ⟨v.os.trans u.os, v.tape.trans u.tape, v.output.trans u.output, Nat.le_trans u.size v.size, fun i hi hn => (v.block i (Nat.lt_of_lt_of_le hi u.size) (fun hg => by rcases h i hg with h1 | h1; exact hn h1; omega)).trans (u.block i hi hn)⟩
theorem Upd3.mono (u : Upd3 w w' F) (h : ∀ i, F i → G i) : Upd3 w w' G := ⟨u.os, u.tape, u.output, u.size, fun i hi hn => u.block i hi (fun hf => hn (h i hf))⟩
theorem Upd3.alloc (u : Upd3 w w1 F) (o : Obj) : Upd3 w (w1.alloc o) F :=
  ⟨u.os, u.tape, u.output, Nat.le_trans u.size (by simp), fun i hi hn => (Below.heap_alloc w1 o i (Nat.lt_of_lt_of_le hi u.size)).trans (u.block i hi hn)⟩
theorem Upd3.drewN (u : Upd3 w w1 F) (n : Nat) : Upd3 w (w1.drewN n) F := ⟨u.os, u.tape, u.output, u.size, u.block⟩
theorem Upd3.drew (u : Upd3 w w1 F) : Upd3 w w1.drew F := ⟨u.os, u.tape, u.output, u.size, u.block⟩
theorem Upd3.setCell (u : Upd3 w w1 F) {p : Addr} (hp : F p.block ∨ w.heap.size ≤ p.block) (x : Value) : Upd3 w (w1.setCell p x) F :=
  ⟨u.os, u.tape, u.output, by simpa using u.size, fun i hi hn => (Below.heap_setCell w1 p x i (fun e => by subst e; rcases hp with h | h; exact hn h; omega)).trans (u.block i hi hn)⟩
theorem Upd3.grown (u : Upd3 w w1 F) {row : Option Nat} (hg : w1.grownBy w' row) (hr : ∀ b, row = some b → F b ∨ w.heap.size ≤ b) : Upd3 w w' F :=
  ⟨hg.os.trans u.os, hg.tape.trans u.tape, hg.output.trans u.output, Nat.le_trans u.size hg.size, fun i hi hn => (hg.block i (Nat.lt_of_lt_of_le hi u.size) (fun e => by rcases hr i e.symm with h | h; exact hn h; omega)).trans (u.block i hi hn)⟩
theorem Upd3.below {B : Nat} (u : Upd3 w w' F) (hF : ∀ i, F i → B ≤ i) (hB : B ≤ w.heap.size) : Below B w w' := ⟨u.os, u.tape, u.output, u.size, fun i hi => u.block i (by omega) (fun h => by have := hF i h; omega)⟩
theorem Upd3.of_below (h : Below w.heap.size w w') (F : Nat → Prop) : Upd3 w w' F := ⟨h.os, h.tape, h.output, h.size, fun i hi _ => h.block i hi⟩
theorem Upd3.blk (u : Upd3 w w' F) {b : Nat} {t : TypeId} {cs : Array Value} (k : Blk w b t cs) (h : ¬ F b) : Blk w' b t cs := (u.block b k.lt h).trans k
theorem Upd3.own (u : Upd3 w w' F) {base : Nat} {e : TypeId} {size n : Nat} {v : Value} {xs : List Value} (h : w.ownsRow base e size v n xs) (hn : ∀ b, v.ownBlock = some b → ¬ F b) : w'.ownsRow base e size v n xs := by
  refine ⟨h.1, ?_⟩
  rcases h.2 with ⟨hv, h0⟩ | ⟨g, cap, cur, hv, hb, hg, rest⟩
  · exact .inl ⟨hv, h0⟩
  · have hlt : g < w.heap.size := by
      rcases Nat.lt_or_ge g w.heap.size with hlt | hge
      · exact hlt
      · rw [Array.getElem?_eq_none hge] at hg; cases hg
    exact .inr ⟨g, cap, cur, hv, hb, (u.block g hlt (hn g (by rw [hv]; rfl))).trans hg, rest⟩
theorem Upd3.cell (u : Upd3 w w' F) {b o : Nat} {v : Value} (h : w.cell? ⟨b, o, none⟩ = some v) (hn : ¬ F b) : w'.cell? ⟨b, o, none⟩ = some v :=
  (World.cell?_of_block (u.block b (cell_in h) hn)).trans h
theorem below_upd {B : Nat} (hb : Below B w w1) (u : Upd3 w1 w' F) (hF : ∀ i, F i → B ≤ i) (hB : B ≤ w.heap.size) : Below B w w' :=
  hb.trans (u.below hF (Nat.le_trans hB hb.size))
theorem Upd3.since (u : Upd3 w w' F) (h : Since w' w1) : Upd3 w w1 F := u.trans (Upd3.of_below h F) (fun _ h => Or.inl h)
end
end Go.Proofs.YtflmgjidnclegaaDoor
