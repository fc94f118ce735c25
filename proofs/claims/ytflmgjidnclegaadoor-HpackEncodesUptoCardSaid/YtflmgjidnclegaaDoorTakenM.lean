/-
  A step takes a byte or more; as much fuel as bytes is enough.
-/
import Derived.Test.YtflmgjidnclegaaDoorKindsM
import Derived.Defers
import Derived.Recover
namespace Go.Proofs.YtflmgjidnclegaaDoor.Hpk
open Tab (Hd Hn)
theorem number_rest {bits : Nat} {s s' : DS} {n : Nat} (h : number bits s = .ok (n, s')) (hb : bits ≤ 8) : s'.rest.length < s.rest.length := by
  unfold number at h
  cases hg : getInt bits s.rest with
  | error e => rw [hg] at h; cases h
  | ok p =>
    obtain ⟨a, b⟩ := p
    obtain ⟨h1, h2, _⟩ := getInt_bound hg hb
    rw [hg] at h
    injection h with h
    injection h with _ h
    subst h
    show (s.rest.drop b).length < _
    rw [List.length_drop]
    omega
theorem text_rest {s s' : DS} {t : ByteArray} (h : text s = .ok (t, s')) : s'.rest.length < s.rest.length := by
  unfold text at h
  cases hg : getText s.rest with
  | error e => rw [hg] at h; cases h
  | ok p =>
    obtain ⟨a, b⟩ := p
    obtain ⟨h1, h2⟩ := getText_bound hg
    rw [hg] at h
    injection h with h
    injection h with _ h
    subst h
    show (s.rest.drop b).length < _
    rw [List.length_drop]
    omega
theorem named_rest {bits : Nat} {s s' : DS} {x : Hd} (h : named bits s = .ok (x, s')) (hb : bits ≤ 8) : s'.rest.length < s.rest.length := by
  unfold named at h
  cases h1 : number bits s with
  | error e => rw [h1] at h; cases h
  | ok p =>
    obtain ⟨i, s1⟩ := p
    rw [h1] at h
    simp only at h
    have r1 := number_rest h1 hb
    cases h2 : nameAt s1 i with
    | error e => rw [h2] at h; cases h
    | ok p =>
      obtain ⟨nm, s2⟩ := p
      rw [h2] at h
      simp only at h
      have r2 : s2.rest.length ≤ s1.rest.length := by
        unfold nameAt at h2
        by_cases c : 0 < i
        · rw [if_pos c] at h2
          cases h3 : header s1 i with
          | error e => rw [h3] at h2; cases h2
          | ok x =>
            rw [h3] at h2
            injection h2 with h2
            injection h2 with _ h2
            subst h2
            exact Nat.le_refl _
        · rw [if_neg c] at h2
          exact Nat.le_of_lt (text_rest h2)
      cases h4 : text s2 with
      | error e => rw [h4] at h; cases h
      | ok p =>
        obtain ⟨vl, s3⟩ := p
        rw [h4] at h
        simp only at h
        injection h with h
        injection h with _ h
        subst h
        have := text_rest h4
        omega
theorem tell_rest {s s' : DS} {h : Hn} (ht : tell s h = .ok s') : s'.rest = s.rest := by
  unfold tell at ht
  simp only at ht
  by_cases c : 16384 < s.size + Tab.hsz (h.1, h.2.1)
  · rw [if_pos c] at ht; cases ht
  · rw [if_neg c] at ht
    injection ht with ht
    subst ht
    rfl
theorem step_rest {limit : Nat} {s s' : DS} (h : step limit s = .ok s') : s'.rest.length < s.rest.length := by
  rw [step_eq] at h
  have k1 : ∀ s', step1 s = .ok s' → s'.rest.length < s.rest.length := by
    intro s' h
    unfold step1 at h
    cases hn : number 7 s with
    | error e => rw [hn] at h; cases h
    | ok p =>
      obtain ⟨i, s1⟩ := p
      rw [hn] at h
      simp only at h
      cases hh : header s1 i with
      | error e => rw [hh] at h; cases h
      | ok x =>
        rw [hh] at h
        rw [tell_rest h]
        exact number_rest hn (by decide)
  have k5 : ∀ nv s', step5 nv s = .ok s' → s'.rest.length < s.rest.length := by
    intro nv s' h
    unfold step5 at h
    cases hn : named 4 s with
    | error e => rw [hn] at h; cases h
    | ok p =>
      obtain ⟨x, s1⟩ := p
      rw [hn] at h
      rw [tell_rest h]
      exact named_rest hn (by decide)
  have k2 : ∀ s', step2 s = .ok s' → s'.rest.length < s.rest.length := by
    intro s' h
    unfold step2 at h
    cases hn : named 6 s with
    | error e => rw [hn] at h; cases h
    | ok p =>
      obtain ⟨x, s1⟩ := p
      rw [hn] at h
      simp only at h
      cases ht : tell s1 (x.1, x.2, false) with
      | error e => rw [ht] at h; cases h
      | ok s2 =>
        rw [ht] at h
        injection h with h
        subst h
        show s2.rest.length < _
        rw [tell_rest ht]
        exact named_rest hn (by decide)
  have k3 : ∀ s', step3 limit s = .ok s' → s'.rest.length < s.rest.length := by
    intro s' h
    unfold step3 at h
    cases hn : number 5 s with
    | error e => rw [hn] at h; cases h
    | ok p =>
      obtain ⟨n, s1⟩ := p
      rw [hn] at h
      simp only at h
      by_cases c : s1.out ≠ [] ∨ limit < n
      · rw [if_pos c] at h; cases h
      · rw [if_neg c] at h
        injection h with h
        subst h
        have := number_rest hn (by decide)
        exact this
  split at h
  · exact k1 _ h
  · split at h
    · exact k2 _ h
    · split at h
      · exact k3 _ h
      · split at h
        · exact k5 _ _ h
        · exact k5 _ _ h
theorem run_done {limit f : Nat} {s : DS} (h : s.rest = []) : run limit f s = .ok s := by
  cases f with
  | zero => rfl
  | succ f => unfold run; rw [if_pos h]
theorem run_fuel (limit : Nat) : ∀ (n : Nat) (s : DS) (f : Nat), s.rest.length = n → n ≤ f → run limit f s = run limit n s := by
  intro n
  induction n using Nat.strongRecOn with
  | _ n ih =>
    intro s f hn hf
    by_cases h0 : s.rest = []
    · rw [run_done h0, run_done h0]
    · have hpos : 0 < s.rest.length := List.length_pos_iff.2 h0
      obtain ⟨f', rfl⟩ : ∃ f', f = f' + 1 := ⟨f - 1, by omega⟩
      obtain ⟨n', rfl⟩ : ∃ n', n = n' + 1 := ⟨n - 1, by omega⟩
      unfold run
      rw [if_neg h0, if_neg h0]
      cases hs : step limit s with
      | error e => rfl
      | ok s' =>
        have := step_rest hs
        show run limit f' s' = run limit n' s'
        rw [ih s'.rest.length (by omega) s' f' rfl (by omega), ih s'.rest.length (by omega) s' n' rfl (by omega)]
/-- a step on the way -/
theorem run_step {limit : Nat} {s s' : DS} (h : step limit s = .ok s') (h0 : s.rest ≠ []) : run limit s.rest.length s = run limit s'.rest.length s' := by
  have hr := step_rest h
  obtain ⟨n, hn⟩ : ∃ n, s.rest.length = n + 1 := ⟨s.rest.length - 1, by omega⟩
  rw [hn]
  show (if s.rest = [] then Except.ok s else match step limit s with | .error e => .error (e, s) | .ok s' => run limit n s') = _
  rw [if_neg h0, h]
  exact run_fuel limit s'.rest.length s' n rfl (by omega)
theorem run_fault {limit : Nat} {s : DS} {er : Er} (h : step limit s = .error er) (h0 : s.rest ≠ []) : run limit s.rest.length s = .error (er, s) := by
  have hpos : 0 < s.rest.length := List.length_pos_iff.2 h0
  obtain ⟨n, hn⟩ : ∃ n, s.rest.length = n + 1 := ⟨s.rest.length - 1, by omega⟩
  rw [hn]
  unfold run
  rw [if_neg h0, h]
end Go.Proofs.YtflmgjidnclegaaDoor.Hpk
/-
  The decoder's taken; what Decode defers.
-/
namespace Go.Proofs.YtflmgjidnclegaaDoor.Hpk
open Go.RowKit
theorem assert_fault (v : Value) (W : World) : (Instr.typeAssert (.iface 118 (.agg #[v])) 20 118 true).run Tryd.prog W = .ok (.tuple #[.agg #[v], .bool true]) W := by
  simp [Instr.typeAssert, run_underlying Tryd.underlying118, go_sem, Result.andThen]
set_option maxRecDepth 100000 in
set_option maxHeartbeats 1000000 in
theorem taken_any (D : Nat) (tp : Value) (lim : Int) (gone : Bool) (v : Value) (hie : IsErr v) (w : World) (h : Blk w D 96 #[tp, .int .i64 lim, .bool gone]) :
    Calls Tryd.prog 69 #[.pointer (some ⟨D, 0, none⟩), .iface 118 (.agg #[v])] w fun e w' => e = .returned v ∧ w' = (w.setCell ⟨D, 2, none⟩ (.bool true)).alloc (.cells #[v] 118) := by
  have c2 : w.cell? ⟨D, 2, none⟩ = some (.bool gone) := h.cell 2
  have f2 : w.frozen? ⟨D, 2, none⟩ = false := h.frozen 2
  have hl := h.lt
  obtain ⟨t, u, rfl⟩ := hie
  have hta := assert_fault (.iface t u)
  clear h
  go_enter Tryd.func69, Tryd.ntmps69
  go_wp2
  go_ret
  exact ⟨rfl, rfl⟩
/-- what the deferred closure leaves -/
def Caught (w : World) (b4 b5 D : Nat) (tp : Value) (lim : Int) (v : Value) (w' : World) : Prop :=
  Blk w' D 96 #[tp, .int .i64 lim, .bool true] ∧ Blk w' b4 51 #[.slice none 0 0] ∧ Blk w' b5 35 #[v] ∧ Upd3 w w' (fun i => i = D ∨ i = b4 ∨ i = b5)
set_option maxRecDepth 100000 in
set_option maxHeartbeats 1000000 in
theorem caught (b2 b4 b5 D : Nat) (tp : Value) (lim : Int) (gone : Bool) (v : Value) (hie : IsErr v) (older : List PanicEntry) (w : World) (k2 : w.cell? ⟨b2, 0, none⟩ = some (.pointer (some ⟨D, 0, none⟩))) (h : Blk w D 96 #[tp, .int .i64 lim, .bool gone])
    (k4 : Blk w b4 51 #[.slice none 0 0]) (k5 : Blk w b5 35 #[.nilIface]) :
    CallsD Tryd.prog 68 #[.pointer (some ⟨b2, 0, none⟩), .pointer (some ⟨b4, 0, none⟩), .pointer (some ⟨b5, 0, none⟩)] (.panicking ({ v := .iface 118 (.agg #[v]), recovered := false } :: older)) w fun e u' w' =>
      e = .returned (.tuple #[]) ∧ u' = .panicking ({ v := .iface 118 (.agg #[v]), recovered := true } :: older) ∧ Caught w b4 b5 D tp lim v w' := by
  have TK := Lib.hid (taken_any D tp lim gone v hie w h)
  have n4 : b4 ≠ D := k4.ne_ h (by decide)
  have n5 : b5 ≠ D := k5.ne_ h (by decide)
  have n45 : b4 ≠ b5 := k4.ne_ k5 (by decide)
  obtain ⟨t, u, rfl⟩ := hie
  refine callsD_of_wpS Tryd.func68 rfl fun c₀ cs hu => ?_
  apply wpS_seq
  apply wpS_region
  simp [wpOpsS, go_sem, recoverD, hu, Tryd.ntmps68, Exit.thenS]
  have H4 := Lib.hid k4
  have H5 := Lib.hid k5
  have HD := Lib.hid h
  clear k4 k5 h
  refine wpS_of_wp ?_
  go_wp2_with fail
  refine TK.out.mono ?_
  rintro e w1 ⟨rfl, hw1⟩
  have kd : Blk w1 D 96 #[tp, .int .i64 lim, .bool true] := by rw [hw1]; exact (HD.out.set_ 2 (.bool true)).alloc _
  have k4 : Blk w1 b4 51 #[.slice none 0 0] := by rw [hw1]; exact (H4.out.far (p := ⟨D, 2, none⟩) n4 (.bool true)).alloc _
  have k5 : Blk w1 b5 35 #[.nilIface] := by rw [hw1]; exact (H5.out.far (p := ⟨D, 2, none⟩) n5 (.bool true)).alloc _
  have hU : Upd3 w w1 (fun i => i = D ∨ i = b4 ∨ i = b5) := by rw [hw1]; exact (((Upd3.refl w (fun i => i = D ∨ i = b4 ∨ i = b5)).setCell (p := ⟨D, 2, none⟩) (Or.inl (Or.inl rfl)) (.bool true))).alloc _
  have a4 : w1.cell? ⟨b4, 0, none⟩ = some (.slice none 0 0) := k4.cell 0
  have f4 : w1.frozen? ⟨b4, 0, none⟩ = false := k4.frozen 0
  have a5 : w1.cell? ⟨b5, 0, none⟩ = some .nilIface := k5.cell 0
  have f5 : w1.frozen? ⟨b5, 0, none⟩ = false := k5.frozen 0
  have HC := Lib.hid (show Caught w b4 b5 D tp lim (.iface t u) ((w1.setCell ⟨b4, 0, none⟩ (.slice none 0 0)).setCell ⟨b5, 0, none⟩ (.iface t u)) from
    ⟨(kd.far (p := ⟨b4, 0, none⟩) (Ne.symm n4) _).far (p := ⟨b5, 0, none⟩) (Ne.symm n5) _, (k4.set_ 0 _).far (p := ⟨b5, 0, none⟩) n45 _, (k5.far (p := ⟨b4, 0, none⟩) (Ne.symm n45) _).set_ 0 _, (hU.setCell (p := ⟨b4, 0, none⟩) (Or.inl (Or.inr (Or.inl rfl))) _).setCell (p := ⟨b5, 0, none⟩) (Or.inl (Or.inr (Or.inr rfl))) _⟩)
  clear hw1 kd k4 k5 hU H4 H5 HD TK
  go_wp2_with fail
  simp [bodyPostS, results, Tryd.results68]
  exact HC.out
set_option maxRecDepth 100000 in
theorem idle (b2 b4 b5 : Nat) (w : World) :
    CallsD Tryd.prog 68 #[.pointer (some ⟨b2, 0, none⟩), .pointer (some ⟨b4, 0, none⟩), .pointer (some ⟨b5, 0, none⟩)] .returning w fun e u' w' => e = .returned (.tuple #[]) ∧ u' = .returning ∧ w' = w := by
  refine callsD_of_wpS Tryd.func68 rfl fun c₀ cs hu => ?_
  apply wpS_seq
  apply wpS_region
  simp [wpOpsS, go_sem, recoverD, hu, Tryd.ntmps68, Exit.thenS]
  refine wpS_of_wp ?_
  go_wp2_with fail
  cases c₀
  simp_all [bodyPostS, results, Tryd.results68]
end Go.Proofs.YtflmgjidnclegaaDoor.Hpk
/-
  What Decode hands back, out of its two cells.
-/
namespace Go.Proofs.YtflmgjidnclegaaDoor.Hpk
open Go.RowKit
theorem dec_results {tmps : Array Value} {w : World} {b4 b5 : Nat} {x y : Value} (h4 : tmps.getD 4 undef = .pointer (some ⟨b4, 0, none⟩)) (h5 : tmps.getD 5 undef = .pointer (some ⟨b5, 0, none⟩))
    (k4 : Blk w b4 51 #[x]) (k5 : Blk w b5 35 #[y]) : (results Tryd.f41 tmps).run Tryd.prog w = .ok (.tuple #[x, y]) w := by
  have c4 : w.cell? ⟨b4, 0, none⟩ = some x := k4.cell 0
  have c5 : w.cell? ⟨b5, 0, none⟩ = some y := k5.cell 0
  have e : (Tryd.f41).results = #[.cell 4 51, .cell 5 35] := rfl
  rw [Array.getD_eq_getD_getElem?] at h4 h5
  simp only [results, e]
  simp [Sem.run_bind, Result.andThen, h4, h5, asAddr, loadVar, isAgg, run_underlying Tryd.underlying51, run_underlying Tryd.underlying35, go_sem, c4, c5]
end Go.Proofs.YtflmgjidnclegaaDoor.Hpk
