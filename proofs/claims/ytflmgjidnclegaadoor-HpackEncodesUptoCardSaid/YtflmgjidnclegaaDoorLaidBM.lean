/-
  What the listed variables give a walk; a start that meets the condition; how a header among the arguments is opened.
-/
import Derived.Test.YtflmgjidnclegaaDoorCards
import Derived.Test.YtflmgjidnclegaaDoorTie
import Derived.Test.YtflmgjidnclegaaDoorBaseM
import Derived.Test.YtflmgjidnclegaaDoorTabM
import Derived.ProofKit
import Derived.ChangeSlices
import Derived.OpenShut
import Derived.LaidMore
import Derived.Deep.DeepWitnessRowRef
import Derived.Deep.DeepHandedRow
import Derived.Stop.LaidErr
import Derived.LaidHandle
import Derived.MakeChecks
import Derived.Lay
import Derived.Shelf.Vars
import Derived.Test.YtflmgjidnclegaaDoorLaidM
namespace Go.Proofs.YtflmgjidnclegaaDoor
open Go.ChangeShapes Go.WideShapes Go.ChangeAt Go.RowKit Go.Deep Go.Joins

theorem own : ownKnob Tryd.prog.godebug = none := by kernel_rfl
theorem laidOut : laidOutB Tryd.prog = true := by kernel_rfl
theorem gT : Tryd.prog.globalNamed "parley/api.ErrTable" = some 0 := by kernel_rfl
theorem tT : (Tryd.prog.globals[0]?).map (·.type) = some 35 := by kernel_rfl
theorem cellsE : Tryd.prog.cellsOf 164 = 1 := by kernel_rfl
theorem cellsS : Tryd.prog.cellsOf 9 = 1 := by kernel_rfl
theorem star : "*" ++ "errors.errorString" = "*errors.errorString" := by decide
theorem rowE (u : TypeId) (h : Tryd.prog.typeName? 3 u = some "*errors.errorString") : u = 149 :=
  typeName_ptr_named (nm := "errors.errorString") (by rw [star]; kernel_rfl) (by kernel_rfl) (by decide) u (by rw [star]; exact h)
theorem plainList : (Rows.tableStaticRow.laid.all fun x => x.2.handleName?.isNone) = true := by kernel_rfl
theorem err_of {W : World} (h : laidMetH Tryd.prog Rows.tableStaticRow.laid W) : ∃ (ad : Addr) (s : ByteArray), W.cell? ⟨0, 0, none⟩ = some (.iface 149 (.pointer (some ad))) ∧ W.cell? ad = some (.string s) := by
  rw [MakeChecks.laidMetH_plain _ _ _ plainList] at h
  have h' : laidMet Tryd.prog [("unicode/utf8.acceptRanges", Rows.laid_unicode_utf8_acceptRanges), ("parley/api.ErrTable", Rows.laid_parley_api_ErrTable), ("unicode/utf8.first", Rows.laid_unicode_utf8_first)] W := h
  obtain ⟨a1, s1, hv1, hc1, _, _⟩ := laid_sentinel h'.tail gT tT Tryd.underlying35 rowE Tryd.underlying149 Tryd.underlying164 rfl rfl Tryd.underlying9 cellsE cellsS
  exact ⟨a1, s1, World.var?_cell gT hv1 0, hc1⟩
theorem maxLen_of {W : World} (h : W.ShapedOpen Tryd.prog) : ∃ m, W.cell? ⟨6, 0, none⟩ = some (.int .i64 m) :=
  cell_of_shapedOpen_int (P := Tryd.prog) (g := 6) (t := 3) (zero := #[.int .i64 0]) h (of_decide_eq_true (by kernel_rfl)) (by kernel_rfl) rfl (by kernel_rfl) (by kernel_rfl) Tryd.underlying3
theorem door_met (os : Os) (args : Array Value) : laidMetH Tryd.prog Rows.tableStaticRow.laid ((World.laidAll Tryd.prog os Rows.tableStaticRow.laid).forCall (fun _ _ => 0) ⟨#[], args, []⟩).memory := by
  rw [MakeChecks.laidMetH_plain _ _ _ plainList]
  exact laidMet_laidAll _ (by kernel_rfl) (by kernel_rfl)
section
variable {H : Type} {enc : TypeId × Value → H}
/-- there is an input that fits, at a world that is laid by the law -/
theorem witness_zip {C : Checked} {os : Os} {f : FuncId} {fn : Func} {s : OpenSpec} {conds : List PathCond} {apart : Bool} {laid : List (String × DataW Unit)} (modest : Bool) (w0 : World) (args : Array Value) (hos : w0.os = os)
    (hv : (w0.forCall (fun _ _ => 0) ⟨#[], args, []⟩).variablesZipB C.prog = true)
    (hr : ((w0.forCall (fun _ _ => 0) ⟨#[], args, []⟩).heap.toList.drop C.prog.globals.size).take ((begin C.prog (fun _ _ => 0) default).world.heap.size - C.prog.globals.size) =
      (begin C.prog (fun _ _ => 0) default).world.heap.toList.drop C.prog.globals.size)
    (hok : Input.okWideB C.prog (w0.forCall (fun _ _ => 0) ⟨#[], args, []⟩) f ⟨#[], args, []⟩ = true)
    (hrow : s.preRow enc C.prog fn conds apart laid (w0.forCall (fun _ _ => 0) ⟨#[], args, []⟩).memory args) :
    ∃ (w : World) (tape : Tape) (i : Input), w.os = os ∧ (w.forCall tape i).Shaped C.prog ∧ i.vars = [] ∧ Input.okWide C.prog (w.forCall tape i) .any w.heap.size f i ∧
      s.preRow enc C.prog fn conds apart laid (w.forCall tape i).memory i.args ∧ ({ modest := modest } : Assume).holds C.prog (lone (Frame.enter C.prog f i.args .normal) [] (w.forCall tape i)) :=
  ⟨w0, fun _ _ => 0, ⟨#[], args, []⟩, hos, World.shaped_of_ZipB hv hr, (Input.okWide_of_okWideB (base := 0) hok).1, (Input.okWide_of_okWideB hok).2, hrow, by
    simp only [Assume.holds]
    exact ⟨by simp, by simp, fun _ => Modest.zero, by simp, by simp⟩⟩

set_option maxRecDepth 100000 in
theorem hd_of {W : World} {v : Value} {base : Nat} {d : DataW H} {p : List MemPlace} (hv : Value.okWide Tryd.prog W .any base 23 v)
    (h : DataW.Trod enc Tryd.prog W 0 (fun _ => true) true 23 v d p) :
    ∃ (n x : ByteArray) (b : Bool), v = .agg #[.string n, .string x, .bool b] := by
  obtain ⟨v0, v1, v2, y0, y1, y2, n, rfl, _, _, t0, t1, t2⟩ := open_agg3 Tryd.underlying23 (by kernel_rfl) (by kernel_rfl) hv h
  obtain ⟨k0, e0, _⟩ := DataW.trod_string Tryd.underlying9 t0
  obtain ⟨k1, e1, _⟩ := DataW.trod_string Tryd.underlying9 t1
  obtain ⟨k2, e2, _⟩ := DataW.trod_bool Tryd.underlying4 t2
  simp only [List.cons.injEq, and_true] at e0 e1 e2
  subst e0 e1 e2
  exact ⟨_, _, _, rfl⟩
end
end Go.Proofs.YtflmgjidnclegaaDoor
/-
  The calls that a law looks at: how they lie in memory; the walks of light and Can.
-/
namespace Go.Proofs.YtflmgjidnclegaaDoor.Tab
open Go.RowKit
/-- a call: kind, number, header -/
structure Cal where
  kind : Int
  num : Int
  name : ByteArray
  value : ByteArray
  never : Bool
def Cal.hd (c : Cal) : Hd := (c.name, c.value)
/-- the calls lie at A -/
def CalsAt (w : World) (A : Option Addr) (l : List Cal) : Prop := ∀ (i : Nat) (c : Cal), l[i]? = some c → ∃ b off, A = some ⟨b, off, none⟩ ∧ b < w.heap.size ∧
  w.cell? ⟨b, off + i * 5, none⟩ = some (.int .i64 c.kind) ∧ w.cell? ⟨b, off + i * 5 + 1, none⟩ = some (.int .i64 c.num) ∧ w.cell? ⟨b, off + i * 5 + 2, none⟩ = some (.string c.name) ∧
  w.cell? ⟨b, off + i * 5 + 3, none⟩ = some (.string c.value) ∧ w.cell? ⟨b, off + i * 5 + 4, none⟩ = some (.bool c.never)
theorem CalsAt.below {w w' : World} {A : Option Addr} {l : List Cal} (h : CalsAt w A l) (hb : Below w.heap.size w w') : CalsAt w' A l := by
  intro i c hi
  obtain ⟨b, off, hA, hlt, c0, c1, c2, c3, c4⟩ := h i c hi
  have k : ∀ o v, w.cell? ⟨b, o, none⟩ = some v → w'.cell? ⟨b, o, none⟩ = some v := fun o v hv => (Below.cell hb (p := ⟨b, o, none⟩) hlt).trans hv
  exact ⟨b, off, hA, Nat.lt_of_lt_of_le hlt hb.size, k _ _ c0, k _ _ c1, k _ _ c2, k _ _ c3, k _ _ c4⟩
/-- every header of theirs is small -/
def Small (l : List Cal) : Prop := ∀ c ∈ l, hsz c.hd ≤ 4611686018427387904
set_option maxRecDepth 100000 in
theorem can_yes (m : Nat) (hm : m ≤ 4096) (w : World) : Calls Tryd.prog 19 #[.int .i64 (m : Int)] w fun e w' => e = .returned (.bool true) ∧ w = w' := by
  have h2 : decide ((m : Int) ≤ 4096) = true := decide_eq_true (by omega)
  go_enter Tryd.func19, Tryd.ntmps19
  go_wp2_with fail
  go_ret
  exact ⟨rfl, rfl⟩
set_option maxRecDepth 100000 in
theorem can_no (m : Int) (hm : m < 0 ∨ 4096 < m) (w : World) : Calls Tryd.prog 19 #[.int .i64 m] w fun e w' => e = .returned (.bool false) ∧ w = w' := by
  rcases hm with h | h
  · have h2 : decide ((0 : Int) ≤ m) = false := decide_eq_false (by omega)
    go_enter Tryd.func19, Tryd.ntmps19
    go_wp2_with fail
    go_ret
    exact ⟨rfl, rfl⟩
  · have h1 : decide ((0 : Int) ≤ m) = true := decide_eq_true (by omega)
    have h2 : decide (m ≤ 4096) = false := decide_eq_false (by omega)
    go_enter Tryd.func19, Tryd.ntmps19
    go_wp2_with fail
    go_ret
    exact ⟨rfl, rfl⟩
def LightEnd (w : World) (e : Ending) (w' : World) : Prop := ∃ b : Bool, e = .returned (.bool b) ∧ Below w.heap.size w w'
set_option maxRecDepth 100000 in
set_option maxHeartbeats 1000000 in
theorem light_any (A : Option Addr) (cap : Nat) (l : List Cal) (hl : l.length ≤ 4611686018427387904) (w : World) (h : CalsAt w A l) :
    Calls Tryd.prog 18 #[.slice A l.length cap] w fun e w' => LightEnd w e w' := by
  go_enter Tryd.func18, Tryd.ntmps18
  go_wp2_with fail
  go_loopw [3, 4] (fun n i wr => ∃ j N : Nat, i = .int .i64 (j : Int) ∧ n = .int .i64 (N : Int) ∧ j ≤ 201 ∧ N ≤ j * 40000 ∧ Below w.heap.size w wr) (fun _ i _ => 202 - (intOf i).toNat)
  case atStart => exact ⟨0, 0, rfl, rfl, by omega, by omega, Below.refl _ _⟩
  case round =>
    obtain ⟨j, N, rfl, rfl, hj, hN, hb⟩ := hrel
    have HB := Lib.hid hb
    have hA := h.below hb
    clear hb
    by_cases h1 : j < l.length
    · by_cases h2 : j ≤ 200
      · have hd1 : decide ((j : Int) < (l.length : Int)) = true := decide_eq_true (by omega)
        have hd2 : decide ((j : Int) ≤ 200) = true := decide_eq_true (by omega)
        obtain ⟨c, hc⟩ : ∃ c, l[j]? = some c := ⟨_, List.getElem?_eq_getElem h1⟩
        obtain ⟨b, off, rfl, hlt, c0, c1, c2, c3, c4⟩ := hA j c hc
        have hmx : min (c.name.size : Int) 20000 = ((min c.name.size 20000 : Nat) : Int) := by omega
        have hmy : min (c.value.size : Int) 20000 = ((min c.value.size 20000 : Nat) : Int) := by omega
        obtain ⟨x, hx⟩ : ∃ x, x = min c.name.size 20000 := ⟨_, rfl⟩
        obtain ⟨y, hy⟩ : ∃ y, y = min c.value.size 20000 := ⟨_, rfl⟩
        rw [← hx] at hmx
        rw [← hy] at hmy
        have hx' : x ≤ 20000 := by omega
        have hy' : y ≤ 20000 := by omega
        have hw1 : IntKind.i64.wrap ((N : Int) + min (c.name.size : Int) 20000) = (N : Int) + (x : Int) := by rw [hmx]; exact IntWalk.i64_in _ (by omega)
        have hw2 : IntKind.i64.wrap ((N : Int) + (x : Int) + min (c.value.size : Int) 20000) = (N : Int) + (x : Int) + (y : Int) := by rw [hmy]; exact IntWalk.i64_in _ (by omega)
        have hjl : (j : Int) < (l.length : Int) := by omega
        have HC := Lib.hid h
        clear hx hy hmx hmy c0 c1 c4 hc hlt h hA
        go_wp2_with fail
        refine wp_region_in (Since wr) (Since.drew0 wr) (by kernel_rfl) (by kernel_rfl) ?_
        repeat (first
          | go_big_quiet_skip
          | (go_big_quiet_want; go_big_quiet_op; go_big_quiet_on)
          | (go_big_quiet_want; apply in_val; (· intro W hW; have d0 := hW.cell c2; have d1 := hW.cell c3; go_simp; first | done | rfl); simp only [Act.put, List.setIfInBounds_toArray, List.set_cons_zero, List.set_cons_succ]; go_big_quiet_on))
        refine wpQuiet_nil ?_
        intro W1 hW1
        go_wp2_with fail
        go_roundw
        case rel => exact ⟨j + 1, N + x + y, by go_num, by go_num, by omega, by omega, HB.out.trans (Below.mono hW1 HB.out.size)⟩
        case measure => simp [intOf]; omega
      · have hd1 : decide ((j : Int) < (l.length : Int)) = true := decide_eq_true (by omega)
        have hd2 : decide ((j : Int) ≤ 200) = false := decide_eq_false (by omega)
        clear h hA
        go_wp2_with fail
        all_goals
          go_ret
          exact ⟨_, rfl, HB.out⟩
    · have hd1 : decide ((j : Int) < (l.length : Int)) = false := decide_eq_false (by omega)
      clear h hA
      go_wp2_with fail
      all_goals
        go_ret
        exact ⟨_, rfl, HB.out⟩
end Go.Proofs.YtflmgjidnclegaaDoor.Tab
/-
  How the calls among the arguments are opened, and what the bound of the second form gives.
-/
namespace Go.Proofs.YtflmgjidnclegaaDoor
open Go.ChangeShapes Go.WideShapes Go.ChangeAt Go.RowKit Go.Deep Go.Joins
open Tab (Cal CalsAt Small hsz)

theorem list_of_each {α : Type} (P : Nat → α → Prop) : ∀ n : Nat, (∀ i, i < n → ∃ c, P i c) → ∃ l : List α, l.length = n ∧ ∀ i c, l[i]? = some c → P i c
  | 0, _ => ⟨[], rfl, fun i c h => by simp at h⟩
  | n + 1, h => by
    obtain ⟨l, hl, hp⟩ := list_of_each P n (fun i hi => h i (by omega))
    obtain ⟨c, hc⟩ := h n (by omega)
    refine ⟨l ++ [c], by simp [hl], fun i x hx => ?_⟩
    by_cases hi : i < n
    · rw [List.getElem?_append_left (by omega)] at hx
      exact hp i x hx
    · have hlt := (List.getElem?_eq_some_iff.1 hx).1
      rw [List.length_append, List.length_singleton] at hlt
      obtain rfl : i = n := by omega
      rw [List.getElem?_append_right (by omega), hl, Nat.sub_self] at hx
      obtain rfl : c = x := by simpa using hx
      exact hc
theorem bulk_part {H : Type} {d : DataW H} {l : List (DataW H)} (h : d ∈ l) : Rows.uptoBulk d ≤ Rows.uptoBulkAll l := by
  induction l with
  | nil => cases h
  | cons x r ih =>
    simp only [Rows.uptoBulkAll]
    cases List.mem_cons.1 h with
    | inl e => subst e; omega
    | inr e => have := ih e; omega
theorem bulk_one {H : Type} (d : DataW H) : 1 ≤ Rows.uptoBulk d := by
  cases d with
  | lit l => cases l <;> simp [Rows.uptoBulk]
  | nil => simp [Rows.uptoBulk]
  | ptr d => simp [Rows.uptoBulk]
  | slice elems spare => simp [Rows.uptoBulk]
  | agg parts => simp [Rows.uptoBulk]
  | iface t d => simp [Rows.uptoBulk]
  | map entries => simp [Rows.uptoBulk]
  | held h => simp [Rows.uptoBulk]
theorem bulk_len {H : Type} (l : List (DataW H)) : l.length ≤ Rows.uptoBulkAll l := by
  induction l with
  | nil => simp [Rows.uptoBulkAll]
  | cons x r ih => have := bulk_one x; simp only [Rows.uptoBulkAll, List.length_cons]; omega
theorem bulk_of {H : Type} {l : List (DataW H)} (hk : Rows.uptoSmall H l = true) : Rows.uptoBulkAll l ≤ 1048576 := of_decide_eq_true hk
theorem co3 : Tryd.prog.cellsOf 3 = 1 := by kernel_rfl
theorem co23 : Tryd.prog.cellsOf 23 = 3 := by kernel_rfl
theorem co9 : Tryd.prog.cellsOf 9 = 1 := by kernel_rfl
theorem co4 : Tryd.prog.cellsOf 4 = 1 := by kernel_rfl
theorem co39 : Tryd.prog.cellsOf 39 = 5 := by kernel_rfl
section
variable {H : Type} {enc : TypeId × Value → H}
set_option maxRecDepth 100000 in
theorem cals_of {W : World} {v : Value} {base : Nat} {d : DataW H} {p : List MemPlace} (hv : Value.okWide Tryd.prog W .any base 30 v)
    (h : DataW.Trod enc Tryd.prog W 0 (fun _ => true) true 30 v d p) :
    ∃ (A : Option Addr) (l : List Cal) (cap : Nat), v = .slice A l.length cap ∧ CalsAt W A l ∧ (Rows.uptoBulk d ≤ 1048576 → Small l ∧ l.length ≤ 1048576) := by
  obtain ⟨a0, len, cap, rfl⟩ := okWide_slice Tryd.underlying30 hv
  obtain ⟨fuel, hf⟩ := h
  rcases open_slice Tryd.underlying30 hf with ⟨hcs, _⟩ | ⟨a, len', cap', m, n, D, Pl, hcs, _, hl, hm, hmm, hx, hi⟩
  · simp only [Value.cells] at hcs
    injection hcs with hcs
    injection hcs with e1 e2 e3
    subst e1 e2 e3
    exact ⟨none, [], 0, rfl, fun i c h => by simp at h, fun _ => ⟨fun c h => by simp at h, by simp⟩⟩
  · simp only [Value.cells] at hcs
    injection hcs with hcs
    injection hcs with e1 e2 e3
    subst e1 e2 e3
    unfold maxLen at hm
    simp only [if_true] at hmm
    rw [co39] at hi
    have each : ∀ i, i < len → ∃ c : Cal, (∃ b off, (some a : Option Addr) = some ⟨b, off, none⟩ ∧ b < W.heap.size ∧
        W.cell? ⟨b, off + i * 5, none⟩ = some (.int .i64 c.kind) ∧ W.cell? ⟨b, off + i * 5 + 1, none⟩ = some (.int .i64 c.num) ∧ W.cell? ⟨b, off + i * 5 + 2, none⟩ = some (.string c.name) ∧
        W.cell? ⟨b, off + i * 5 + 3, none⟩ = some (.string c.value) ∧ W.cell? ⟨b, off + i * 5 + 4, none⟩ = some (.bool c.never)) ∧ hsz c.hd ≤ Rows.uptoBulk (D i) + 32 := by
      intro i hil
      obtain ⟨b, off, hA⟩ : ∃ b off, a = ⟨b, off, none⟩ := by
        obtain ⟨c0, hc0, _⟩ := hi 0 (by omega)
        obtain ⟨_, hcl, hat⟩ := World.cells?_some hc0
        have h0 := hat 0 (by omega)
        rw [List.getElem?_eq_getElem (by omega)] at h0
        obtain ⟨b, off, spot⟩ := a
        have hspot : spot = none := by simpa [Addr.add] using World.cell?_spot h0
        exact ⟨b, off, by rw [hspot]⟩
      obtain ⟨cs', hc, ht⟩ := hi i (by omega)
      obtain ⟨_, hcl, hat⟩ := World.cells?_some hc
      obtain ⟨ys, n', _, hy, _, hyl, hg⟩ := DataW.trod_struct Tryd.underlying39 ht
      match cs', hcl, ys, hyl with
      | [x0, x1, x2, x3, x4], _, [y0, y1, y2], _ =>
        have g0 : DataW.trod enc Tryd.prog W 0 (fun _ => true) true n' 3 (List.take (Tryd.prog.cellsOf 3) (List.drop 0 [x0, x1, x2, x3, x4])) = some y0 := hg 0 _ rfl
        rw [co3] at g0
        have g0 : DataW.trod enc Tryd.prog W 0 (fun _ => true) true n' 3 [x0] = some y0 := g0
        have g1 : DataW.trod enc Tryd.prog W 0 (fun _ => true) true n' 3 (List.take (Tryd.prog.cellsOf 3) (List.drop 1 [x0, x1, x2, x3, x4])) = some y1 := hg 1 _ rfl
        rw [co3] at g1
        have g1 : DataW.trod enc Tryd.prog W 0 (fun _ => true) true n' 3 [x1] = some y1 := g1
        have g2 : DataW.trod enc Tryd.prog W 0 (fun _ => true) true n' 23 (List.take (Tryd.prog.cellsOf 23) (List.drop 2 [x0, x1, x2, x3, x4])) = some y2 := hg 2 _ rfl
        rw [co23] at g2
        have g2 : DataW.trod enc Tryd.prog W 0 (fun _ => true) true n' 23 [x2, x3, x4] = some y2 := g2
        obtain ⟨zs, n2, _, hz, _, hzl, hh⟩ := DataW.trod_struct Tryd.underlying23 g2
        match zs, hzl with
        | [z0, z1, z2], _ =>
          have q0 : DataW.trod enc Tryd.prog W 0 (fun _ => true) true n2 9 (List.take (Tryd.prog.cellsOf 9) (List.drop 0 [x2, x3, x4])) = some z0 := hh 0 _ rfl
          rw [co9] at q0
          have q0 : DataW.trod enc Tryd.prog W 0 (fun _ => true) true n2 9 [x2] = some z0 := q0
          have q1 : DataW.trod enc Tryd.prog W 0 (fun _ => true) true n2 9 (List.take (Tryd.prog.cellsOf 9) (List.drop 1 [x2, x3, x4])) = some z1 := hh 1 _ rfl
          rw [co9] at q1
          have q1 : DataW.trod enc Tryd.prog W 0 (fun _ => true) true n2 9 [x3] = some z1 := q1
          have q2 : DataW.trod enc Tryd.prog W 0 (fun _ => true) true n2 4 (List.take (Tryd.prog.cellsOf 4) (List.drop 2 [x2, x3, x4])) = some z2 := hh 2 _ rfl
          rw [co4] at q2
          have q2 : DataW.trod enc Tryd.prog W 0 (fun _ => true) true n2 4 [x4] = some z2 := q2
          obtain ⟨k0, e0, _, _⟩ := DataW.trod_int Tryd.underlying3 g0
          obtain ⟨k1, e1, _, _⟩ := DataW.trod_int Tryd.underlying3 g1
          obtain ⟨k2, e2, f2, _⟩ := DataW.trod_string Tryd.underlying9 q0
          obtain ⟨k3, e3, f3, _⟩ := DataW.trod_string Tryd.underlying9 q1
          obtain ⟨k4, e4, f4⟩ := DataW.trod_bool Tryd.underlying4 q2
          simp only [List.cons.injEq, and_true] at e0 e1 e2 e3 e4
          subst e0 e1 e2 e3 e4 f2 f3 f4
          have t0 := hat 0 (by omega)
          have t1 := hat 1 (by omega)
          have t2 := hat 2 (by omega)
          have t3 := hat 3 (by omega)
          have t4 := hat 4 (by omega)
          rw [add_of_add, hA, add_plain] at t0 t1 t2 t3 t4
          refine ⟨⟨k0, k1, k2, k3, k4⟩, ⟨b, off, congrArg some hA, cell_lt t0, t0, t1, t2, t3, t4⟩, ?_⟩
          simp only [Prod.mk.injEq] at hy
          rw [hy.1]
          simp only [List.map_cons, List.map_nil, Rows.uptoBulk, Rows.uptoBulkAll, hz]
          simp only [hsz, Cal.hd]
          have : k2.data.toList.length = k2.size := Array.length_toList
          have : k3.data.toList.length = k3.size := Array.length_toList
          omega
    obtain ⟨l, hll, hp⟩ := list_of_each _ len each
    subst hll
    simp only [Prod.mk.injEq] at hx
    refine ⟨some a, l, cap, rfl, fun i c hc => (hp i c hc).1, fun hd => ?_⟩
    rw [hx.1, Rows.uptoBulk] at hd
    have hlen := bulk_len ((List.range l.length).map D)
    rw [List.length_map, List.length_range] at hlen
    refine ⟨fun c hc => ?_, by omega⟩
    obtain ⟨i, hi2, rfl⟩ := List.getElem_of_mem hc
    have h1 := (hp i _ (List.getElem?_eq_getElem hi2)).2
    have h2 : Rows.uptoBulk (D i) ≤ Rows.uptoBulkAll ((List.range l.length).map D) := bulk_part (List.mem_map.2 ⟨i, List.mem_range.2 hi2, rfl⟩)
    omega
end
end Go.Proofs.YtflmgjidnclegaaDoor
