/-
  The law TableEach: its states; the range over the closure.
-/
import Derived.Test.YtflmgjidnclegaaDoorTabRnd
import Derived.Test.YtflmgjidnclegaaDoorTabCals
import Derived.Test.YtflmgjidnclegaaDoorTabPlain
import Derived.Test.YtflmgjidnclegaaDoorTabSame
import Derived.Outline
namespace Go.Proofs.YtflmgjidnclegaaDoor.Tab
open Go.RowKit Go.Shelf
/-- what the law holds in memory: its boxes, the table -/
structure ESt (w W : World) (B tb g r : Nat) (stop : Int) (nm vm : ByteArray) (bm : Bool) (o m : Nat) (Q : List Hd) : Prop where
  k0 : Blk W B 3 #[.int .i64 stop]
  k1 : Blk W (B + 1) 23 #[.string nm, .string vm, .bool bm]
  k2 : Blk W (B + 1 + 1) 4 #[.bool false]
  kt : Blk W tb 33 #[.pointer (some ⟨g, 0, none⟩)]
  hT : Tbl W g r o Q m
  hb : Below B w W
theorem ESt.since {w W W' : World} {B tb g r o m : Nat} {stop : Int} {nm vm : ByteArray} {bm : Bool} {Q : List Hd} (h : ESt w W B tb g r stop nm vm bm o m Q) (hs : Since W W') (hB : B ≤ w.heap.size) : ESt w W' B tb g r stop nm vm bm o m Q :=
  ⟨h.k0.below hs h.k0.lt, h.k1.below hs h.k1.lt, h.k2.below hs h.k2.lt, h.kt.below hs h.kt.lt, h.hT.below hs, h.hb.trans (Below.mono hs (Nat.le_trans hB h.hb.size))⟩
theorem ESt.upd {w W W' : World} {B tb g r o m o' m' : Nat} {stop : Int} {nm vm : ByteArray} {bm : Bool} {Q Q' : List Hd} (h : ESt w W B tb g r stop nm vm bm o m Q) (hT : Tbl W' g r o' Q' m') (hu : Upd3 W W' (fun i => i = g ∨ i = r))
    (hB : B ≤ w.heap.size) (hr : B + 3 ≤ r) (hg : B + 3 ≤ g) (htg : tb ≠ g) (htr : tb ≠ r) : ESt w W' B tb g r stop nm vm bm o' m' Q' :=
  ⟨hu.blk h.k0 (by omega), hu.blk h.k1 (by omega), hu.blk h.k2 (by omega), hu.blk h.kt (by rintro (e | e); exact htg e; exact htr e), hT, below_upd h.hb hu (by rintro i (rfl | rfl) <;> omega) hB⟩
theorem bool_res {fn : Func} {p : Tmp} (h : fn.results = #[.cell p 4]) (tmps : Array Value) (w : World) (b : Nat) (v : Bool) (hp : tmps.getD p undef = .pointer (some ⟨b, 0, none⟩)) (hc : w.cell? ⟨b, 0, none⟩ = some (.bool v)) : (results fn tmps).run Tryd.prog w = .ok (.bool v) w := by
  have hp' : tmps[p]?.getD undef = .pointer (some ⟨b, 0, none⟩) := by simpa using hp
  simp [results, h, hp', asAddr, go_sem, hc]
/-- the marks of the loops over a function that are over -/
def Marks (ds : List Nat) (z : Nat) (W : World) : Prop := ∀ D ∈ ds, D < z ∧ W.heap[D]? = some (.deferred (some []))
/-- where the loop that lays down what is wanted stands -/
structure WAt (w W : World) (B tb g r : Nat) (stop : Int) (nm vm : ByteArray) (bm : Bool) (o m : Nat) (Q : List Hd) (rb wb : Nat) (rd : Int) (ds : List Nat) (A : Option Addr) (k c : Nat) : Prop where
  hS : ESt w W B tb g r stop nm vm bm o m Q
  hrb : Blk W rb 3 #[.int .i64 rd]
  hwb : Blk W wb 51 #[.slice A k c]
  hO : W.ownsRow wb 23 3 (.slice A k c) k (hncs ((hq Q).take k))
  hD : Marks ds wb W
theorem own_since {W W' : World} (h : Since W W') {base : Nat} {e : TypeId} {size n : Nat} {v : Value} {xs : List Value} (ho : W.ownsRow base e size v n xs) : W'.ownsRow base e size v n xs :=
  ho.kept (only_of_below h none) (by rcases hv : v.ownBlock with _ | b <;> simp)
theorem Marks.since {ds : List Nat} {z : Nat} {W W' : World} (h : Marks ds z W) (hs : Since W W') : Marks ds z W' := fun D hD =>
  ⟨(h D hD).1, (hs.block D (by have := (h D hD).2; exact (Array.getElem?_eq_some_iff.1 this).1)).trans (h D hD).2⟩
theorem Marks.upd {ds : List Nat} {z : Nat} {W W' : World} {F : Nat → Prop} (h : Marks ds z W) (u : Upd3 W W' F) (hF : ∀ i, F i → z ≤ i) : Marks ds z W' := fun D hD =>
  ⟨(h D hD).1, (u.block D (by have := (h D hD).2; exact (Array.getElem?_eq_some_iff.1 this).1) (fun hf => by have := hF D hf; have := (h D hD).1; omega)).trans (h D hD).2⟩
theorem WAt.since {w W W' : World} {B tb g r : Nat} {stop : Int} {nm vm : ByteArray} {bm : Bool} {o m : Nat} {Q : List Hd} {rb wb : Nat} {rd : Int} {ds : List Nat} {A : Option Addr} {k c : Nat}
    (h : WAt w W B tb g r stop nm vm bm o m Q rb wb rd ds A k c) (hs : Since W W') (hB : B ≤ w.heap.size) : WAt w W' B tb g r stop nm vm bm o m Q rb wb rd ds A k c :=
  ⟨h.hS.since hs hB, h.hrb.below hs h.hrb.lt, h.hwb.below hs h.hwb.lt, own_since hs h.hO, h.hD.since hs⟩
theorem ESt.updHigh {w W W' : World} {B tb g r o m : Nat} {stop : Int} {nm vm : ByteArray} {bm : Bool} {Q : List Hd} (h : ESt w W B tb g r stop nm vm bm o m Q) {z : Nat} (hu : Upd3 W W' (fun i => z ≤ i))
    (hB : B ≤ w.heap.size) (h1 : B + 1 + 1 < z) (h2 : tb < z) (h3 : g < z) (h4 : r < z) : ESt w W' B tb g r stop nm vm bm o m Q :=
  ⟨hu.blk h.k0 (by omega), hu.blk h.k1 (by omega), hu.blk h.k2 (by omega), hu.blk h.kt (by omega), h.hT.upd hu (by omega) (by omega), below_upd h.hb hu (by intro i hi; omega) hB⟩
/-- one more is wanted: appended to the row, and stored -/
theorem WAt.more {w W W3 W4 : World} {B tb g r : Nat} {stop : Int} {nm vm : ByteArray} {bm : Bool} {o m : Nat} {Q : List Hd} {rb wb : Nat} {rd : Int} {ds : List Nat} {A A' : Option Addr} {k c c' : Nat} {x : Hd}
    (h : WAt w W B tb g r stop nm vm bm o m Q rb wb rd ds A k c) (hx : Q.reverse[k]? = some x) (hs : Since W W3) (hg : W3.grownBy W4 (Value.slice A k c).ownBlock)
    (ho : W4.ownsRow wb 23 3 (.slice A' (k + 1) c') (k + 1) (hncs ((hq Q).take k) ++ hnc (x.1, x.2, false))) (hB : B ≤ w.heap.size) (h0 : B + 1 + 1 < r) (h1 : r + 1 < tb) (h2 : tb < rb) (h3 : rb < wb) (hgr : g = r + 1) :
    WAt w (W4.setCell ⟨wb, 0, none⟩ (.slice A' (k + 1) c')) B tb g r stop nm vm bm o m Q rb wb rd ds A' (k + 1) c' := by
  have h' := h.since hs hB
  have hlt : ∀ b, (Value.slice A k c).ownBlock = some b → wb ≤ b := fun b hb => (h'.hO.lt b hb).1
  have hne : (Value.slice A k c).ownBlock ≠ some wb := own_blk_ne h'.hO h'.hwb (by decide)
  have hu : Upd3 W3 (W4.setCell ⟨wb, 0, none⟩ (.slice A' (k + 1) c')) (fun i => wb ≤ i) := ((Upd3.refl W3 (fun i => wb ≤ i)).grown hg (fun b hb => Or.inl (hlt b hb))).setCell (p := ⟨wb, 0, none⟩) (Or.inl (Nat.le_refl _)) _
  have hw4 := (h'.hwb.grown hg (fun e => hne e.symm))
  have hn4 : (Value.slice A' (k + 1) c').ownBlock ≠ some wb := own_blk_ne ho hw4 (by decide)
  refine ⟨h'.hS.updHigh hu hB (by omega) (by omega) (by omega) (by omega), hu.blk h'.hrb (by omega), hw4.set_ 0 _, ?_, h'.hD.upd hu (fun _ h => h)⟩
  have e : hncs ((hq Q).take (k + 1)) = hncs ((hq Q).take k) ++ hnc (x.1, x.2, false) := by
    obtain ⟨hkl, hxe⟩ := List.getElem?_eq_some_iff.1 (hq_at Q k x hx)
    rw [List.take_succ_eq_append_getElem hkl, hncs_append, hxe]
    simp [hncs]
  rw [e]
  exact (Upd3.setCell (Upd3.refl W4 (fun i => i = wb)) (p := ⟨wb, 0, none⟩) (Or.inl rfl) (.slice A' (k + 1) c')).own ho (fun b hb h => hn4 (by rw [hb, h]))
/-- where the loop over the calls stands -/
def EAt (w : World) (B tb g r : Nat) (stop : Int) (nm vm : ByteArray) (bm : Bool) (W : World) : Prop := ∃ (o m : Nat) (Q : List Hd), ESt w W B tb g r stop nm vm bm o m Q
/-- where a loop over the closure stands: i headers have come -/
structure RAt (w W : World) (B tb r : Nat) (stop : Int) (nm vm : ByteArray) (bm : Bool) (Q : List Hd) (rb wb ib : Nat) (rd : Int) (ds : List Nat) (A : Option Addr) (c i : Nat) : Prop where
  hS : ∃ (o m : Nat) (Q' : List Hd), ESt w W B tb (r + 1) r stop nm vm bm o m Q'
  hrb : Blk W rb 3 #[.int .i64 rd]
  hwb : Blk W wb 51 #[.slice A Q.length c]
  hO : W.ownsRow wb 23 3 (.slice A Q.length c) Q.length (hncs (hq Q))
  hib : Blk W ib 3 #[.int .i64 (i : Int)]
  hD : Marks ds wb W
/-- how its blocks follow one another -/
structure Rows (w : World) (B tb r rb wb ib : Nat) : Prop where
  hB : B ≤ w.heap.size
  h0 : B + 1 + 1 < r
  h1 : r + 1 < tb
  h2 : tb < rb
  h3 : rb < wb
  h4 : wb < ib
section
variable {w W W' : World} {B tb r : Nat} {stop : Int} {nm vm : ByteArray} {bm : Bool} {Q : List Hd} {rb wb ib : Nat} {rd : Int} {ds : List Nat} {A : Option Addr} {c i : Nat}
theorem RAt.since (h : RAt w W B tb r stop nm vm bm Q rb wb ib rd ds A c i) (hr : Rows w B tb r rb wb ib) (hs : Since W W') : RAt w W' B tb r stop nm vm bm Q rb wb ib rd ds A c i := by
  obtain ⟨o, m, Q', hS⟩ := h.hS
  exact ⟨⟨o, m, Q', hS.since hs hr.hB⟩, h.hrb.below hs h.hrb.lt, h.hwb.below hs h.hwb.lt, own_since hs h.hO, h.hib.below hs h.hib.lt, h.hD.since hs⟩
theorem RAt.grown (h : RAt w W B tb r stop nm vm bm Q rb wb ib rd ds A c i) (hr : Rows w B tb r rb wb ib) {B0 : Nat} (hB0 : ib < B0) {row : Option Nat} (hg : W.grownBy W' row)
    (hn : ∀ k, row = some k → B0 ≤ k ∧ ∃ o : Obj, W.heap[k]? = some o ∧ o.isCells = false) : RAt w W' B tb r stop nm vm bm Q rb wb ib rd ds A c i := by
  obtain ⟨o, m, Q', hS⟩ := h.hS
  have hu0 : Upd3 W W' (fun k => row = some k) := ⟨hg.os, hg.tape, hg.output, hg.size, fun k hk hn => hg.block k hk (fun e => hn e.symm)⟩
  have hu : Upd3 W W' (fun k => B0 ≤ k) := hu0.mono (fun k e => (hn k e).1)
  have := hr.h0; have := hr.h1; have := hr.h2; have := hr.h3; have := hr.h4
  refine ⟨⟨o, m, Q', hS.updHigh hu hr.hB (by omega) (by omega) (by omega) (by omega)⟩, hu.blk h.hrb (by omega), hu.blk h.hwb (by omega), hu0.own h.hO ?_, hu.blk h.hib (by omega), h.hD.upd hu (fun k hk => by omega)⟩
  intro b hb e
  obtain ⟨_, ob, ho, hc⟩ := hn b e
  rcases h.hO.2 with ⟨hv, _⟩ | ⟨g, cap, cur, hv, _, hgb, _⟩
  · rw [hv] at hb; cases hb
  · rw [hv] at hb
    cases hb
    rw [hgb] at ho
    cases ho
    cases hc
theorem RAt.step (h : RAt w W B tb r stop nm vm bm Q rb wb ib rd ds A c i) (hr : Rows w B tb r rb wb ib) : RAt w (W.setCell ⟨ib, 0, none⟩ (.int .i64 ((i : Int) + 1))) B tb r stop nm vm bm Q rb wb ib rd ds A c (i + 1) := by
  obtain ⟨o, m, Q', hS⟩ := h.hS
  have hu : Upd3 W (W.setCell ⟨ib, 0, none⟩ (.int .i64 ((i : Int) + 1))) (fun k => k = ib) := Upd3.setCell (F := fun k => k = ib) (Upd3.refl W _) (p := ⟨ib, 0, none⟩) (Or.inl rfl) _
  have hu2 := hu.mono (G := fun k => ib ≤ k) (fun k e => Nat.le_of_eq e.symm)
  have := hr.h0; have := hr.h1; have := hr.h2; have := hr.h3; have := hr.h4
  refine ⟨⟨o, m, Q', hS.updHigh hu2 hr.hB (by omega) (by omega) (by omega) (by omega)⟩, hu.blk h.hrb (by omega), hu.blk h.hwb (by omega), hu.own h.hO ?_, ?_, h.hD.upd hu2 (fun k hk => by omega)⟩
  · intro b hb e
    exact own_blk_ne h.hO h.hib (by decide) (by rw [hb, e])
  · have := h.hib.set_ 0 (.int .i64 ((i : Int) + 1))
    simpa using this
theorem RAt.add {o m : Nat} {Q' : List Hd} (h : RAt w W B tb r stop nm vm bm Q rb wb ib rd ds A c i) (hr : Rows w B tb r rb wb ib) (hS : ESt w W' B tb (r + 1) r stop nm vm bm o m Q') (hu : Upd3 W W' (fun i => i = r + 1 ∨ i = r)) : RAt w W' B tb r stop nm vm bm Q rb wb ib rd ds A c i := by
  have := hr.h0; have := hr.h1; have := hr.h2; have := hr.h3; have := hr.h4
  refine ⟨⟨o, m, Q', hS⟩, hu.blk h.hrb (by omega), hu.blk h.hwb (by omega), hu.own h.hO (fun b hb => by have := (h.hO.lt b hb).1; omega), hu.blk h.hib (by omega), fun D hD => ⟨(h.hD D hD).1, ?_⟩⟩
  have hb := (h.hD D hD).2
  have hl := (Array.getElem?_eq_some_iff.1 hb).1
  refine (hu.block D hl ?_).trans hb
  rintro (rfl | rfl)
  · obtain ⟨o, m, Q', hS⟩ := h.hS
    rw [hS.hT.kg] at hb
    cases hb
  · obtain ⟨o, m, Q', hS⟩ := h.hS
    obtain ⟨cs, hk, _⟩ := hS.hT.kr
    rw [hk] at hb
    cases hb
theorem KpC.of_upd {n₀ : Nat} (hu : Upd3 W W' (fun k => k < n₀)) : KpC n₀ W W' := ⟨hu.size, fun k cs t hk hc => (hu.block k (Array.getElem?_eq_some_iff.1 hc).1 (by omega)).trans hc⟩
theorem KeepsFrom.of_upd {n₀ : Nat} (hu : Upd3 W W' (fun k => k < n₀)) : KeepsFrom n₀ W W' := ⟨hu.size, fun k o hk hc _ => (hu.block k (Array.getElem?_eq_some_iff.1 hc).1 (by omega)).trans hc⟩
theorem KpC.put {n₀ : Nat} (W : World) (l : Nat) (o o' : Obj) (hl : W.heap[l]? = some o) (ho : o.isCells = false) : KpC n₀ W (W.putObj l o') := by
  have hg := grownBy_putObj' W l o'
  refine ⟨hg.size, fun k cs t hk hc => (hg.block k (Array.getElem?_eq_some_iff.1 hc).1 ?_).trans hc⟩
  intro e
  cases e
  rw [hc] at hl
  cases hl
  cases ho
end
theorem each_stops (n bx g r o m : Nat) (Q : List Hd) (W0 : World) (hT : Tbl W0 g r o Q m) (hbx : W0.cell? ⟨bx, 0, none⟩ = some (.pointer (some ⟨g, 0, none⟩))) :
    SeqStopsK Fence.wide n Tryd.prog 63 #[.pointer (some ⟨bx, 0, none⟩)] (eachV Q) (KpC W0.heap.size) (fun xs => xs = List.range Q.length) (fun pre => ∃ k, k ≤ Q.length ∧ pre = List.range k) Q.length W0 := fun l J Jx W hW hJ _ hY h0 =>
  each1_in n l bx W0.heap.size g r o m Q J Jx W (hT.below hW) (Since.cell hW hbx) hW.size (fun s W1 W2 hs hb => hJ s W1 W2 none hs (only_of_below hb none) (fun r e => by cases e)) hY h0
/-- the act of a round behind the assignments -/
def roundAct (T : Array Value) (Q : List Hd) (x Bx : Nat) : Act := { tmps := (((T.setIfInBounds 107 (.int .i64 ((62 : Int) + (x : Int)))).setIfInBounds 108 (.agg #[.string (hat Q x).1, .string (hat Q x).2, .bool false])).setIfInBounds 20 (.int .i64 ((62 : Int) + (x : Int)))).setIfInBounds 21 (.pointer (some ⟨Bx, 0, none⟩)), defers := [] }
theorem not_range {pre : List Nat} {x : Nat} (hx : x ≠ pre.length) : ¬ ∃ k, pre ++ [x] = List.range k := by
  rintro ⟨k, hk⟩
  have hl : pre.length + 1 = k := by simpa using congrArg List.length hk
  rw [← hl, List.range_succ] at hk
  have := List.append_inj_right hk (by simp)
  simp at this
  exact hx this
theorem range_next {pre : List Nat} (hp : pre = List.range pre.length) : pre ++ [pre.length] = List.range (pre ++ [pre.length]).length := by
  rw [List.length_append, List.length_singleton, List.range_succ, ← hp]
theorem run_equalIn_fn {P : Program} (d : Nat) (t : TypeId) {k1 k2 k3} (h : P.underlying t = some (.func k1 k2 k3)) (f : Fn) (x y : Array Value) (W : World) : (Op.equalIn (d + 1) t (.func f x y) .nilFunc).run P W = .ok false W := by
  simp [Op.equalIn, run_underlying h]
theorem run_equal_fn {P : Program} (t : TypeId) {k1 k2 k3} (h : P.underlying t = some (.func k1 k2 k3)) (f : Fn) (x y : Array Value) (W : World) : (Op.equal t (.func f x y) .nilFunc).run P W = .ok false W := run_equalIn_fn 9999 t h f x y W
theorem run_eql_func_nil {P : Program} (t : TypeId) (h : (match P.underlying t with | some (.func _ _ _) => true | _ => false) = true) (f : Fn) (x y : Array Value) (W : World) : (binOp .eql t (.func f x y) .nilFunc).run P W = .ok (.bool false) W := by
  cases hu : P.underlying t with
  | none => rw [hu] at h; cases h
  | some u =>
    rw [hu] at h
    cases u <;> first | (cases h; done) | skip
    simp only [binOp]
    simp [run_equal_fn t hu]
theorem each_nil (x y : Array Value) (W : World) : (binOp .eql 54 (.func (.func 63) x y) .nilFunc).run Tryd.prog W = .ok (.bool false) W := run_eql_func_nil 54 (by kernel_rfl) _ _ _ W
theorem KpC.of_since {n₀ : Nat} {W W' : World} (h : Since W W') : KpC n₀ W W' := ⟨h.size, fun i _ _ _ hc => (h.block i (Array.getElem?_eq_some_iff.1 hc).1).trans hc⟩
theorem KeepsFrom.of_since {n₀ : Nat} {W W' : World} (h : Since W W') : KeepsFrom n₀ W W' := ⟨h.size, fun i _ _ hc _ => (h.block i (Array.getElem?_eq_some_iff.1 hc).1).trans hc⟩
/-- between two rounds -/
def EachI (w : World) (B tb r : Nat) (stop : Int) (nm vm : ByteArray) (bm : Bool) (Q : List Hd) (rb wb ib : Nat) (rd : Int) (ds : List Nat) (A : Option Addr) (c : Nat) (pre : List Nat) (W : World) : Prop :=
  pre = List.range pre.length ∧ RAt w W B tb r stop nm vm bm Q rb wb ib rd ds A c pre.length
/-- where a round has left -/
def EachIx (w : World) (B tb r : Nat) (stop : Int) (nm vm : ByteArray) (bm : Bool) (Q : List Hd) (rb wb ib : Nat) (rd : Int) (ds : List Nat) (A : Option Addr) (c : Nat) (cd : Code) (pre : List Nat) (W : World) : Prop :=
  (cd = .ret ∧ ¬ ∃ k, pre = List.range k) ∨ (cd = .exit 6 ∧ rd = 0 ∧ (pre.length : Int) = stop ∧ RAt w W B tb r stop nm vm bm Q rb wb ib rd ds A c pre.length)
theorem wpIn_each {assign body : Code} {Qp : Exit → Act → World → Prop} {T : Array Value} {dfs : List Deferred} {w WF : World} {B tb r : Nat} {stop : Int} {nm vm : ByteArray} {bm : Bool} {Q : List Hd} {rb wb ib bx : Nat} {rd : Int} {ds : List Nat} {A : Option Addr} {c : Nat}
    (hg : ({ tmps := T, defers := dfs } : Act).eval (.tmp 106) = .func (.func 63) #[] #[.pointer (some ⟨bx, 0, none⟩)])
    (hst : SeqStopsK Fence.wide 2 Tryd.prog 63 #[.pointer (some ⟨bx, 0, none⟩)] (eachV Q) (KpC WF.heap.size) (fun xs => xs = List.range Q.length) (fun pre => ∃ k, k ≤ Q.length ∧ pre = List.range k) Q.length WF)
    (hRW : Rows w B tb r rb wb ib) (hib : ib < WF.heap.size) (h0 : RAt w WF B tb r stop nm vm bm Q rb wb ib rd ds A c 0)
    (hassign : ∀ (l x : Nat) (W : World) (K : Act → World → Prop), (∀ W', Since W W' → Blk W' W.heap.size 23 #[.string (hat Q x).1, .string (hat Q x).2, .bool false] → K (roundAct T Q x W.heap.size) W') →
      assign.wpIn (Fence.wide.inRound l) 1 Tryd.prog (Exit.then K (fun _ _ _ => False)) { tmps := (T.setIfInBounds 107 (.int .i64 ((62 : Int) + (x : Int)))).setIfInBounds 108 (.agg #[.string (hat Q x).1, .string (hat Q x).2, .bool false]), defers := [] } W)
    (hbody : ∀ (l x Bx : Nat) (pre : List Nat) (W : World), pre = List.range pre.length → pre.length < Q.length → RAt w W B tb r stop nm vm bm Q rb wb ib rd ds A c pre.length → Blk W Bx 23 #[.string (hat Q x).1, .string (hat Q x).2, .bool false] → ib < Bx →
      body.wpIn (Fence.wide.inRound l) 1 Tryd.prog (ownPostG WF.heap.size (KpC WF.heap.size) (EachI w B tb r stop nm vm bm Q rb wb ib rd ds A c) (EachIx w B tb r stop nm vm bm Q rb wb ib rd ds A c) (pre ++ [x]) W) (roundAct T Q x Bx) W)
    (hboth : ∀ (D k : Nat) (W : World), WF.heap.size ≤ D → k ≤ Q.length → (k = Q.length ∨ (rd = 0 ∧ (k : Int) = stop)) → RAt w W B tb r stop nm vm bm Q rb wb ib rd ds A c k → W.heap[D]? = some (.deferred (some [])) →
      Qp .normal { tmps := T, defers := { target := .collected D, args := #[] } :: dfs } W) :
    (Code.rangeFunc (.tmp 106) #[107, 108] assign body).wpIn Fence.wide 3 Tryd.prog (Exit.inBlock 6 Qp) { tmps := T, defers := dfs } WF := by
  refine wpIn_rangeFunc_ownH rfl (by omega) (gf := 63) (lb := #[.pointer (some ⟨bx, 0, none⟩)]) hg trivial (enters_of Tryd.func63 (by kernel_rfl) rfl) hst KpC.trans (fun W l o o' _ hl ho _ => KpC.put W l o o' hl ho) (Below.refl _ _) (fun _ => rfl)
    (EachI w B tb r stop nm vm bm Q rb wb ib rd ds A c) (EachIx w B tb r stop nm vm bm Q rb wb ib rd ds A c) ?hI ?hIx ⟨rfl, h0⟩
    (fun x a' W => ∃ Bx, ib < Bx ∧ Blk W Bx 23 #[.string (hat Q x).1, .string (hat Q x).2, .bool false] ∧ a' = roundAct T Q x Bx) ?hAx ?assign ?body ?done ?stop
  case hI =>
    rintro pre X Y row ⟨h1, h2⟩ hgr hr
    exact ⟨h1, h2.grown hRW hib hgr hr⟩
  case hIx =>
    rintro cd pre X Y row h hgr hr
    rcases h with h | ⟨h1, h2, h3, h4⟩
    · exact .inl h
    · exact .inr ⟨h1, h2, h3, h4.grown hRW hib hgr hr⟩
  case hAx =>
    rintro x a' _ X Y row ⟨Bx, h1, h2, h3⟩ hgr hr
    refine ⟨Bx, h1, (hgr.block Bx h2.lt ?_).trans h2, h3⟩
    intro e
    obtain ⟨_, o, ho, hc⟩ := hr Bx e.symm
    rw [show X.heap[Bx]? = _ from h2] at ho
    cases ho
    cases hc
  case assign =>
    rintro l pre x W K ⟨h1, h2⟩ hK
    have e : Array.foldl (fun (t : Array Value) (x : Tmp × Value) => match x with | (p, v) => t.setIfInBounds p v) T (#[107, 108].zip (eachV Q x)) = (T.setIfInBounds 107 (.int .i64 ((62 : Int) + (x : Int)))).setIfInBounds 108 (.agg #[.string (hat Q x).1, .string (hat Q x).2, .bool false]) := by simp [eachV]
    have h := hassign l x W K (fun W' hs hk => hK _ _ (KeepsFrom.of_since hs) (KpC.of_since hs) ⟨h1, h2.since hRW hs⟩ ⟨W.heap.size, h2.hib.lt, hk, rfl⟩)
    rw [← e] at h
    exact h
  case body =>
    rintro l pre x a' W _ _ ⟨h1, h2⟩ ⟨Bx, h3, h4, rfl⟩ hlt
    exact hbody l x Bx pre W h1 hlt h2 h4 h3
  case done =>
    rintro D xs W hD rfl ⟨_, h2⟩ hk
    rw [List.length_range] at h2
    exact hboth D _ W hD (Nat.le_refl _) (.inl rfl) h2 hk
  case stop =>
    rintro D cd pre W hD ⟨k, hk, rfl⟩ h hd
    rcases h with ⟨_, h2⟩ | ⟨rfl, h2, h3, h4⟩
    · exact absurd ⟨k, rfl⟩ h2
    · rw [List.length_range] at h3 h4
      exact wpIn_exit (show Exit.inBlock 6 Qp (.exit 6) _ _ from hboth D k W hD hk (.inr ⟨h2, h3⟩) h4 hd)
section
variable {w W : World} {B tb r : Nat} {stop : Int} {nm vm : ByteArray} {bm : Bool} {Q : List Hd} {rb wb ib : Nat} {rd : Int} {ds : List Nat} {A : Option Addr} {c k x : Nat} {pre : List Nat}
theorem each_next (hp : pre = List.range k) (hR : RAt w W B tb r stop nm vm bm Q rb wb ib rd ds A c (k + 1)) : EachI w B tb r stop nm vm bm Q rb wb ib rd ds A c (pre ++ [k]) W := by
  have hl : (pre ++ [k]).length = k + 1 := by rw [hp]; simp
  refine ⟨by rw [hl, List.range_succ, hp], by rw [hl]; exact hR⟩
theorem each_exit (hp : pre = List.range k) (hr : rd = 0) (hs : (k : Int) + 1 = stop) (hR : RAt w W B tb r stop nm vm bm Q rb wb ib rd ds A c (k + 1)) : EachIx w B tb r stop nm vm bm Q rb wb ib rd ds A c (.exit 6) (pre ++ [k]) W := by
  have hl : (pre ++ [k]).length = k + 1 := by rw [hp]; simp
  refine .inr ⟨rfl, hr, by rw [hl]; push_cast; exact hs, by rw [hl]; exact hR⟩
theorem each_ret (hp : pre = List.range k) (hx : x ≠ k) : EachIx w B tb r stop nm vm bm Q rb wb ib rd ds A c .ret (pre ++ [x]) W := by
  refine .inl ⟨rfl, not_range (by rw [hp]; simpa using hx)⟩
end
end Go.Proofs.YtflmgjidnclegaaDoor.Tab
