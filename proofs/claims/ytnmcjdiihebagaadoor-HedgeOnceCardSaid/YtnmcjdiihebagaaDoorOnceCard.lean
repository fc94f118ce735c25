/-
  The law HedgeOnce returns true at every input: its tied card.
-/
import Derived.Test.YtnmcjdiihebagaaDoorPolLaid
import Derived.Test.YtnmcjdiihebagaaDoorHdgLOnce
import Derived.Lib.SmallJoins
namespace Go.Proofs.YtnmcjdiihebagaaDoor.hedgeOnce
open Go.ChangeShapes Go.WideShapes Go.ChangeAt Go.RowKit Go.Deep

set_option maxRecDepth 100000 in
/-- the things that are told, as the walk wants them -/
theorem open_dos {H : Type} {enc : TypeId × Value → H} {W : World} {v : Value} {base : Nat} {d : DataW H} {p : List MemPlace} (hv : Value.okWide Tryd.prog W .any base 64 v)
    (h : DataW.Trod enc Tryd.prog W 0 (fun _ => true) true 64 v d p) :
    ∃ (A : Option Addr) (len cap : Nat) (f : Nat → Hdg.Do5), v = .slice A len cap ∧ len ≤ 9223372036854775807 ∧ Hdg.DosAt W A len f := by
  obtain ⟨a0, len, cap, rfl⟩ := okWide_slice Tryd.underlying64 hv
  obtain ⟨fuel, hf⟩ := h
  rcases open_slice_fields (e := 69) Tryd.underlying64 Tryd.underlying69 (by kernel_rfl) (by kernel_rfl) hf with ⟨hcs, _⟩ | ⟨a, len', cap', m, D, Pl, hcs, _, hl, hmx, hm, _, hi⟩
  · simp only [Value.cells] at hcs
    injection hcs with hcs
    injection hcs with e1 e2 e3
    subst e1 e2 e3
    exact ⟨none, 0, 0, fun _ => ⟨0, 0, 0, 0, 0⟩, rfl, by omega, fun i hi => absurd hi (by omega)⟩
  · simp only [Value.cells] at hcs
    injection hcs with hcs
    injection hcs with e1 e2 e3
    subst e1 e2 e3
    unfold maxLen at hmx
    have hch : ∀ i, ∃ x : Hdg.Do5, i < len → ∃ b off, (some a) = some ⟨b, off, none⟩ ∧ b < W.heap.size ∧ W.cell? ⟨b, off + i * 5, none⟩ = some (.int .i64 x.kind) ∧ W.cell? ⟨b, off + i * 5 + 1, none⟩ = some (.int .i64 x.try_) ∧
        W.cell? ⟨b, off + i * 5 + 2, none⟩ = some (.int .i64 x.code) ∧ W.cell? ⟨b, off + i * 5 + 3, none⟩ = some (.int .i64 x.push) ∧ W.cell? ⟨b, off + i * 5 + 4, none⟩ = some (.int .i64 x.now) := by
      intro i
      by_cases hil : i < len
      · simp only [if_true] at hm
        obtain ⟨_, _, _, _, _, hF0⟩ := hi 0 (by omega)
        obtain ⟨_, _, c00, _, _⟩ := hF0 0 _ rfl
        obtain ⟨b, off, spot⟩ := a
        have hspot : spot = none := by simpa [Addr.add] using World.cell?_spot c00
        subst hspot
        obtain ⟨ys, n, _, _, hyl, hF⟩ := hi i (by omega)
        obtain ⟨v0, y0, c0, hy0, t0⟩ := hF 0 _ rfl
        obtain ⟨v1, y1, c1, hy1, t1⟩ := hF 1 _ rfl
        obtain ⟨v2, y2, c2, hy2, t2⟩ := hF 2 _ rfl
        obtain ⟨v3, y3, c3, hy3, t3⟩ := hF 3 _ rfl
        obtain ⟨v4, y4, c4, hy4, t4⟩ := hF 4 _ rfl
        obtain ⟨k0, e0, _, _⟩ := DataW.trod_int Tryd.underlying3 t0
        obtain ⟨k1, e1, _, _⟩ := DataW.trod_int Tryd.underlying3 t1
        obtain ⟨k2, e2, _, _⟩ := DataW.trod_int Tryd.underlying3 t2
        obtain ⟨k3, e3, _, _⟩ := DataW.trod_int Tryd.underlying3 t3
        obtain ⟨k4, e4, _, _⟩ := DataW.trod_int Tryd.underlying3 t4
        simp only [List.cons.injEq, and_true] at e0 e1 e2 e3 e4
        subst e0 e1 e2 e3 e4
        rw [add_plain] at c0 c1 c2 c3 c4
        exact ⟨⟨k0, k1, k2, k3, k4⟩, fun _ => ⟨b, off, rfl, cell_lt c0, c0, c1, c2, c3, c4⟩⟩
      · exact ⟨⟨0, 0, 0, 0, 0⟩, fun h => absurd h hil⟩
    obtain ⟨f, hf⟩ := Classical.axiomOfChoice hch
    exact ⟨_, _, _, f, rfl, by omega, fun i hil => hf i hil⟩

set_option maxRecDepth 100000 in
theorem open_pol25 {H : Type} {enc : TypeId × Value → H} {W : World} {v : Value} {base : Nat} {d : DataW H} {p : List MemPlace} (hv : Value.okWide Tryd.prog W .any base 63 v)
    (h : DataW.Trod enc Tryd.prog W 0 (fun _ => true) true 63 v d p) :
    ∃ (T D : Int) (A : Option Addr) (n c : Nat) (xs : List Int), v = .agg #[.int .i64 T, .int .i64 D, .slice A n c] ∧ xs.length = n ∧ n ≤ c ∧ c ≤ 9223372036854775807 ∧ (A = none → c = 0) ∧ Pol.IntsAt W A xs ∧ ∀ y ∈ xs, (Lit.int .i64 y).wf = true := by
  obtain ⟨v0, v1, v2, y0, y1, y2, n, rfl, _, _, t0, t1, t2⟩ := Go.Joins.open_agg3 Tryd.underlying63 (by kernel_rfl) (by kernel_rfl) hv h
  obtain ⟨k0, e0, _, _⟩ := DataW.trod_int Tryd.underlying3 t0
  obtain ⟨k1, e1, _, _⟩ := DataW.trod_int Tryd.underlying3 t1
  obtain ⟨A, n, c, xs, rfl, hr⟩ := ints_of t2
  simp only [List.cons.injEq, and_true] at e0 e1
  subst e0 e1
  exact ⟨_, _, A, n, c, xs, rfl, hr⟩

set_option maxRecDepth 100000 in
theorem contract (H : Type) (enc : TypeId × Value → H) (W : World) (base : Nat) (args : Array Value) (ds gs : List (DataW H)) (before : List MemPlace)
    (hval : ∀ (j : Nat) t v, Tryd.f8.params[j]? = some t → args[j]? = some v → Value.okWide Tryd.prog W .any base t v)
    (hW : DataW.Whole enc Tryd.prog Tryd.f8.params.toList Rows.hedgeOnceSpec.vars false W args.toList ds gs before) (hL : laidMetH Tryd.prog Rows.policyWaitsRow.laid W) :
    Calls Tryd.prog 8 args W fun e W' => ∃ v, e = .returned v ∧ Rows.hedgeOnceSpec.post enc Tryd.prog Tryd.f8 false true false false W args v W' := by
  have hW' := hW
  obtain ⟨p, q, hA0, hV, rfl, hfz, hnd⟩ := hW
  have hA : DataW.TrodAll enc Tryd.prog W 0 (fun _ => true) true Tryd.f8.params.toList args.toList ds p := hA0
  rw [Tryd.params8] at hA hval
  obtain ⟨v0, v1, d0, d1, p0, p1, rfl, rfl, rfl, h0, h1⟩ := trodAll_two hA
  obtain ⟨rfl, rfl⟩ := trodVars_none hV
  obtain ⟨T, D, A, n, c, xs, rfl, hn, hnc, hc63, hnone, hx, _⟩ := open_pol25 (hval 0 63 v0 rfl rfl) h0
  obtain ⟨B, m, mc, f, rfl, hm, hd⟩ := open_dos (hval 1 64 v1 rfl rfl) h1
  obtain ⟨e1, ie1, c1, hz⟩ := of_laid hL
  refine (Hdg.lonce_any T D xs A n c B m mc f hn (by omega) hm hnone e1 ie1 W hx hd c1 hz).mono fun e W' ⟨he, hg⟩ => ?_
  subst he
  exact ⟨_, rfl, law_post laidOut Tryd.underlying4 (by kernel_rfl) rfl (by rw [Tryd.params8]; simp only [List.mem_cons, List.not_mem_nil, or_false]; rintro t (rfl | rfl) <;> exact ⟨by kernel_rfl, of_decide_eq_true (by kernel_rfl)⟩) hW' rfl hg⟩

theorem laid_met (os : Os) : laidMetH Tryd.prog Rows.hedgeOnceRow.laid ((World.doorLaid Tryd.prog 200 os).forCall (fun _ _ => 0) ⟨#[], #[.agg #[.int .i64 0, .int .i64 0, .slice none 0 0], .slice none 0 0], []⟩).memory := door_met os _
theorem reads (os : Os) {H : Type} (enc : TypeId × Value → H) : ∃ places, DataW.whole enc Tryd.prog ((World.doorLaid Tryd.prog 200 os).forCall (fun _ _ => 0) ⟨#[], #[.agg #[.int .i64 0, .int .i64 0, .slice none 0 0], .slice none 0 0], []⟩).memory Tryd.f8.params.toList Rows.hedgeOnceSpec.vars false ((#[.agg #[.int .i64 0, .int .i64 0, .slice none 0 0], .slice none 0 0] : Array Value)).toList 8 = some ([.agg [.lit (.int .i64 0), .lit (.int .i64 0), .nil], .nil], [], places) :=
  ⟨[], by kernel_rfl⟩

set_option maxRecDepth 100000 in
theorem lifted (os : Os) (started : os.Started) (H : Type) (enc : TypeId × Value → H) (F : Stop.Interp) :
    ReturnsInHanded {} Tryd.checked os 8 .any ((OpenSpec.ofChange Rows.hedgeOnceSpec).preRow enc Tryd.prog Tryd.f8 Rows.hedgeOnceRow.domain false Rows.hedgeOnceRow.laid) (((OpenSpec.ofChange Rows.hedgeOnceSpec).at F).post enc Tryd.prog Tryd.f8 false true false false) := by
  obtain ⟨places, hx⟩ := reads os enc
  refine returnsInHanded_of_row (C := Tryd.checked) (s := (OpenSpec.ofChange Rows.hedgeOnceSpec)) own started (by kernel_rfl) Tryd.func8
    (witness_row_at (enc := enc) (C := Tryd.checked) false (World.doorLaid Tryd.prog 200 os) #[.agg #[.int .i64 0, .int .i64 0, .slice none 0 0], .slice none 0 0] rfl (by kernel_rfl) (by kernel_rfl) (by kernel_rfl)
      (OpenSpec.preRow_of_cond 8 hx (by kernel_rfl) (fun k hk => by cases hk) (by kernel_rfl) (laid_met os))) ?_
  intro W base args ds gs before hval hW _ _ _ hL _ _
  exact contract H enc W base args ds gs before hval hW hL

theorem said : Rows.HedgeOnceSaid :=
  OpenClaim.holds_of_cond 8 Tryd.f8 rfl rfl rfl rfl rfl rfl rfl ⟨rfl, rfl, rfl, rfl, rfl⟩ rfl rfl rfl rfl rfl (by kernel_rfl) Tryd.func8 (by kernel_rfl)
    (of_decide_eq_true (by kernel_rfl)) (by unfold Func.isWrapper; rw [if_neg (of_decide_eq_false (by kernel_rfl))]; exact ⟨rfl, rfl⟩)
    (fun os started H enc _ F => by rw [OpenClaim.pre_eq_preRow]; exact lifted os started H enc F)

theorem plain (f : FuncId) (fn : Func) (hf : Tryd.pinned.checked.prog.funcNamed "parley/parleylaw25.HedgeOnce" = some f) (hfn : Tryd.pinned.checked.prog.funcs[f]? = some fn) :
    false = Tryd.pinned.checked.prog.looks [] ∧ ∀ (j : Nat) t, fn.params[j]? = some t → Tryd.pinned.checked.prog.wantsStandIn t = false := by
  obtain rfl : f = 8 := Option.some.inj ((show Tryd.prog.funcNamed "parley/parleylaw25.HedgeOnce" = some 8 by kernel_rfl).symm.trans hf) |>.symm
  obtain rfl : fn = Tryd.f8 := (Option.some.inj (Tryd.func8.symm.trans hfn)).symm
  refine ⟨by kernel_rfl, fun j t ht => ?_⟩
  rw [Tryd.params8] at ht
  have hm : t = 63 ∨ t = 64 := by simpa using Array.mem_of_getElem? ht
  rcases hm with rfl | rfl
  · exact (show Tryd.prog.wantsStandIn 63 = false by kernel_rfl)
  · exact (show Tryd.prog.wantsStandIn 64 = false by kernel_rfl)

/-- The statement: the law HedgeOnce returns true at every input. -/
theorem card : Rows.HedgeOnceCardSaid :=
  Claim7.holds_tied_plain_at .later [] _ _ _ _ said (fun _ h => by cases h) (by kernel_rfl) (fun _ h => by cases h) hedgeOnce_row_tie rfl ⟨rfl, rfl⟩ (by kernel_rfl) rfl plain (by kernel_rfl)
end Go.Proofs.YtnmcjdiihebagaaDoor.hedgeOnce
