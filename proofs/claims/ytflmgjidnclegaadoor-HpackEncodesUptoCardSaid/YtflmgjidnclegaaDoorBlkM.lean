/-
  A block that is read: what it holds in memory; give, number, text.
-/
import Derived.Test.YtflmgjidnclegaaDoorGetM
import Derived.Test.YtflmgjidnclegaaDoorTabM
import Derived.Laws.Pointers
import Derived.WalkLawsBesides
import Derived.Test.YtflmgjidnclegaaDoorStatM
import Derived.Test.YtflmgjidnclegaaDoorBaseM
import Derived.Deep.AppendLies
import Derived.Deep.RegionHeld3
import Derived.Deep.RegionLaw
namespace Go.Proofs.YtflmgjidnclegaaDoor.Hpk
open Go.RowKit
open Huff (BytesAt)
open Tab (Hn hncs Tbl)
/-- a fault that is given up with -/
def Pan (v : Value) : Ending := .panicked [{ v := .iface 118 (.agg #[v]), recovered := false }]
set_option maxRecDepth 100000 in
theorem give_nil (w : World) : Calls Tryd.prog 84 #[.nilIface] w fun e w' => e = .returned (.tuple #[]) ∧ w = w' := by
  go_enter Tryd.func84, Tryd.ntmps84
  go_wp2
  go_end0
  exact ⟨rfl, rfl⟩
set_option maxRecDepth 100000 in
theorem give_err (v : Value) (hv : IsErr v) (w : World) : Calls Tryd.prog 84 #[v] w fun e w' => e = .panicked [{ v := .iface 118 (.agg #[v]), recovered := false }] ∧ w = w' := by
  obtain ⟨t, u, rfl⟩ := hv
  go_enter Tryd.func84, Tryd.ntmps84
  go_wp2
  exact ⟨rfl, rfl, rfl⟩
/-- what stays while a block is read: where the decoder and its table lie, the errors, the block's bytes -/
structure BEnv (W0 : World) (D g r lim bb : Nat) (ev : Er → Value) (M : Int) : Prop where
  gl : 8 ≤ g ∧ 8 ≤ r ∧ 8 ≤ D
  lt : g < W0.heap.size ∧ r < W0.heap.size ∧ D < W0.heap.size
  dg : D ≠ g
  dr : D ≠ r
  er : Errs W0 ev
  mx : W0.cell? ⟨6, 0, none⟩ = some (.int .i64 M)
  ab : bb < W0.heap.size ∧ bb ≠ g ∧ bb ≠ r ∧ bb ≠ D
  lm : lim ≤ 4096
/-- a block that is read, in memory -/
structure BSt (W0 w : World) (K D g r lim bb : Nat) (s : DS) (A : Option Addr) (cap : Nat) (ov : Value) : Prop where
  hK : W0.heap.size ≤ K
  kk : Blk w K 103 #[.pointer (some ⟨D, 0, none⟩), .slice A s.rest.length cap, ov, .int .i64 (s.size : Int)]
  kd : Blk w D 96 #[.pointer (some ⟨g, 0, none⟩), .int .i64 (lim : Int), .bool false]
  kt : ∃ o, Tbl w g r o s.Q s.m
  bx : BytesAt w A s.rest
  bc : s.rest.length ≤ cap ∧ cap ≤ 9223372036854775807
  bn : ∀ ad, A = some ad → ad.block = bb
  ow : w.ownsRow W0.heap.size 23 3 ov s.out.length (hncs s.out)
  sz : s.size ≤ 16384
  up : Upd3 W0 w (fun i => i = g ∨ i = r)
section
variable {W0 w w' : World} {K D g r lim bb : Nat} {s : DS} {A : Option Addr} {cap : Nat} {ov : Value} {ev : Er → Value} {M : Int}
theorem BSt.errs (h : BSt W0 w K D g r lim bb s A cap ov) (E : BEnv W0 D g r lim bb ev M) : Errs w ev := fun er => by
  have hg := E.gl
  have h7 : gOf er ≤ 7 := by cases er <;> decide
  obtain ⟨h1, h2, h3⟩ := E.er er
  exact ⟨h.up.cell h1 (by rintro (e | e) <;> omega), Nat.lt_of_lt_of_le h2 h.up.size, h3⟩
theorem BSt.max (h : BSt W0 w K D g r lim bb s A cap ov) (E : BEnv W0 D g r lim bb ev M) : w.cell? ⟨6, 0, none⟩ = some (.int .i64 M) := by
  have hg := E.gl
  have h7 : 6 ≤ 7 := by decide
  exact h.up.cell E.mx (by rintro (e | e) <;> omega)
theorem BSt.ext (h : BSt W0 w K D g r lim bb s A cap ov) (hb : Below w.heap.size w w') : BSt W0 w' K D g r lim bb s A cap ov := by
  obtain ⟨o, ht⟩ := h.kt
  exact ⟨h.hK, h.kk.below hb h.kk.lt, h.kd.below hb h.kd.lt, ⟨o, ht.below hb⟩, h.bx.below hb, h.bc, h.bn, (Upd3.of_below hb (fun _ => False)).own h.ow (fun _ _ h => h), h.sz, h.up.trans (Upd3.of_below hb (fun _ => False)) (fun _ h => h.elim)⟩
/-- the block's own cells have been written -/
theorem BSt.cell (h : BSt W0 w K D g r lim bb s A cap ov) (E : BEnv W0 D g r lim bb ev M) (i : Nat) (u : Value) (s' : DS) (A' : Option Addr) (cap' : Nat)
    (hc : (#[.pointer (some ⟨D, 0, none⟩), .slice A s.rest.length cap, ov, .int .i64 (s.size : Int)] : Array Value).setIfInBounds i u = #[.pointer (some ⟨D, 0, none⟩), .slice A' s'.rest.length cap', ov, .int .i64 (s'.size : Int)])
    (hQ : s'.Q = s.Q ∧ s'.m = s.m ∧ s'.out = s.out) (hx : BytesAt w A' s'.rest) (hbc : s'.rest.length ≤ cap' ∧ cap' ≤ 9223372036854775807) (hbn : ∀ ad, A' = some ad → ad.block = bb) (hsz : s'.size ≤ 16384) :
    BSt W0 (w.setCell ⟨K, i, none⟩ u) K D g r lim bb s' A' cap' ov := by
  obtain ⟨o, ht⟩ := h.kt
  obtain ⟨e1, e2, e3⟩ := hQ
  have hlt := E.lt
  have hab := E.ab
  have hK := h.hK
  have U : Upd3 w (w.setCell ⟨K, i, none⟩ u) (fun i => i = K) := (Upd3.refl w (fun i => i = K)).setCell (p := ⟨K, i, none⟩) (Or.inl rfl) u
  refine ⟨hK, by rw [← hc]; exact h.kk.set_ i u, U.blk h.kd (by show ¬ D = K; omega), ⟨o, by rw [e1, e2]; exact ht.upd U (by show ¬ g = K; omega) (by show ¬ r = K; omega)⟩, ?_, hbc, hbn, by rw [e3]; exact U.own h.ow (fun b hb e => own_blk_ne h.ow h.kk (by decide) (by rw [← e]; exact hb)), hsz, h.up.trans U (fun i hi => Or.inr (by subst hi; exact hK))⟩
  intro j hj
  obtain ⟨b, off, e, hb, hcc⟩ := hx j hj
  refine ⟨b, off, e, by simpa using hb, ?_⟩
  have hbb : b = bb := hbn _ e
  exact U.cell hcc (by show ¬ b = K; omega)
end

def NumEnd (W0 w : World) (K D g r lim bb : Nat) (ev : Er → Value) (s : DS) (A : Option Addr) (cap : Nat) (ov : Value) (R : Except Er (Nat × DS)) (e : Ending) (w' : World) : Prop :=
  match R with
  | .ok (n, s') => ∃ A' cap', e = .returned (.int .i64 (n : Int)) ∧ BSt W0 w' K D g r lim bb s' A' cap' ov ∧ Upd3 w w' (fun i => i = K)
  | .error er => e = Pan (ev er) ∧ BSt W0 w' K D g r lim bb s A cap ov
def TextEnd (W0 w : World) (K D g r lim bb : Nat) (ev : Er → Value) (s : DS) (A : Option Addr) (cap : Nat) (ov : Value) (R : Except Er (ByteArray × DS)) (e : Ending) (w' : World) : Prop :=
  match R with
  | .ok (t, s') => ∃ A' cap', e = .returned (.string t) ∧ BSt W0 w' K D g r lim bb s' A' cap' ov ∧ Upd3 w w' (fun i => i = K)
  | .error er => e = Pan (ev er) ∧ BSt W0 w' K D g r lim bb s A cap ov
theorem getText_bound {xs : List UInt8} {t : ByteArray} {k : Nat} (h : getText xs = .ok (t, k)) : 1 ≤ k ∧ k ≤ xs.length := by
  unfold getText at h
  cases hg : getInt 7 xs with
  | error e => rw [hg] at h; cases h
  | ok p =>
    obtain ⟨n, i⟩ := p
    obtain ⟨h1, h2, _⟩ := getInt_bound hg (by decide)
    rw [hg] at h
    simp only at h
    by_cases c1 : 16384 < n
    · rw [if_pos c1] at h; cases h
    · rw [if_neg c1] at h
      by_cases c2 : xs.length < i + n
      · rw [if_pos c2] at h; cases h
      · rw [if_neg c2] at h
        by_cases c3 : 128 ≤ (xs.getD 0 0).toNat
        · rw [if_pos c3] at h
          cases hd : Huff.dec ((xs.drop i).take n) with
          | none => rw [hd] at h; cases h
          | some z =>
            rw [hd] at h
            injection h with h
            injection h with _ h
            omega
        · rw [if_neg c3] at h
          injection h with h
          injection h with _ h
          omega
theorem rest_at {W0 w : World} {K D g r lim bb : Nat} {s : DS} {A : Option Addr} {cap : Nat} {ov : Value} (h : BSt W0 w K D g r lim bb s A cap ov) (hl : 0 < s.rest.length) : ∃ off, A = some ⟨bb, off, none⟩ := by
  obtain ⟨b, off, e, _⟩ := h.bx 0 hl
  have := h.bn _ e
  exact ⟨off, by rw [e]; show some (Addr.mk b off none) = _; rw [show b = bb from this]⟩

set_option maxRecDepth 100000 in
set_option maxHeartbeats 4000000 in
theorem blk_number {W0 w : World} {K D g r lim bb : Nat} {ev : Er → Value} {M : Int} {s : DS} {A : Option Addr} {cap : Nat} {ov : Value} (E : BEnv W0 D g r lim bb ev M) (S : BSt W0 w K D g r lim bb s A cap ov) (bits : Nat) (hb : bits = 4 ∨ bits = 5 ∨ bits = 6 ∨ bits = 7) :
    Calls Tryd.prog 80 #[.pointer (some ⟨K, 0, none⟩), .int .i64 (bits : Int)] w (NumEnd W0 w K D g r lim bb ev s A cap ov (number bits s)) := by
  have c1 : w.cell? ⟨K, 1, none⟩ = some (.slice A s.rest.length cap) := S.kk.cell 1
  have hbc := S.bc
  have IN := Lib.hid (int_any w s.rest A cap ev (S.errs E) S.bx (by omega) bits hb)
  have HS := Lib.hid S
  have HE := Lib.hid E
  clear S E
  go_enter Tryd.func80, Tryd.ntmps80
  go_wp2_with fail
  refine IN.out.mono ?_
  rintro e w1 ⟨rfl, hb1⟩
  have HS1 := Lib.hid (HS.out.ext hb1)
  have HUP := Lib.hid (Upd3.of_below hb1 (fun i => i = K))
  clear IN hb1 HS c1
  cases hgi : getInt bits s.rest with
  | error er =>
    have HR := Lib.hid (show number bits s = .error er by unfold number; rw [hgi])
    have hER := (HS1.out.errs HE.out er).2.2
    rw [show intV ev (.error er) = .tuple #[.int .i64 0, .int .i64 0, ev er] from rfl]
    have GE := Lib.hid (give_err (ev er) hER w1)
    clear hgi
    go_wp2_with fail
    refine GE.out.mono ?_
    rintro e w2 ⟨rfl, rfl⟩
    go_wp2_with fail
    rw [HR.out]
    exact ⟨rfl, rfl, HS1.out⟩
  | ok p =>
    obtain ⟨n, i⟩ := p
    obtain ⟨hi1, hil, hn31⟩ := getInt_bound hgi (by omega)
    have HR := Lib.hid (show number bits s = .ok (n, { s with rest := s.rest.drop i }) by unfold number; rw [hgi])
    rw [show intV ev (.ok (n, i)) = .tuple #[.int .i64 (n : Int), .int .i64 (i : Int), .nilIface] from rfl]
    clear hgi
    obtain ⟨off, rfl⟩ := rest_at HS1.out (by omega)
    by_cases hci : cap = i
    · have hbx := HS1.out.bx
      have hbc := HS1.out.bc
      go_wp2_with fail
      refine (give_nil w1).mono ?_
      rintro e w2 ⟨rfl, rfl⟩
      have q1 : w1.cell? ⟨K, 1, none⟩ = some (.slice (some ⟨bb, off, none⟩) s.rest.length cap) := HS1.out.kk.cell 1
      have f1 : w1.frozen? ⟨K, 1, none⟩ = false := HS1.out.kk.frozen 1
      have hKl := HS1.out.kk.lt
      have hS2 := HS1.out.cell HE.out 1 (.slice (some ⟨bb, off, none⟩) (s.rest.length - i) (0)) { s with rest := s.rest.drop i } (some ⟨bb, off, none⟩) (0) (by simp [List.length_drop]) ⟨rfl, rfl, rfl⟩ (by intro j hj; rw [List.length_drop] at hj; omega) (by show (s.rest.drop i).length ≤ _ ∧ _; rw [List.length_drop]; omega) (fun ad e => by injection e with e; rw [← e]) HS1.out.sz
      have HS2 := Lib.hid hS2
      clear hS2 hbx
      go_wp2_with fail
      go_ret
      rw [HR.out]
      exact ⟨_, _, rfl, HS2.out, HUP.out.setCell (p := ⟨K, 1, none⟩) (Or.inl rfl) _⟩
    · have hbx := HS1.out.bx
      have hbc := HS1.out.bc
      go_wp2_with fail
      refine (give_nil w1).mono ?_
      rintro e w2 ⟨rfl, rfl⟩
      have q1 : w1.cell? ⟨K, 1, none⟩ = some (.slice (some ⟨bb, off, none⟩) s.rest.length cap) := HS1.out.kk.cell 1
      have f1 : w1.frozen? ⟨K, 1, none⟩ = false := HS1.out.kk.frozen 1
      have hKl := HS1.out.kk.lt
      have hS2 := HS1.out.cell HE.out 1 (.slice (some ⟨bb, off + i, none⟩) (s.rest.length - i) (cap - i)) { s with rest := s.rest.drop i } (some ⟨bb, off + i, none⟩) (cap - i) (by simp [List.length_drop]) ⟨rfl, rfl, rfl⟩ (BytesAt_drop hbx i) (by show (s.rest.drop i).length ≤ _ ∧ _; rw [List.length_drop]; omega) (fun ad e => by injection e with e; rw [← e]) HS1.out.sz
      have HS2 := Lib.hid hS2
      clear hS2 hbx
      go_wp2_with fail
      go_ret
      rw [HR.out]
      exact ⟨_, _, rfl, HS2.out, HUP.out.setCell (p := ⟨K, 1, none⟩) (Or.inl rfl) _⟩

set_option maxRecDepth 100000 in
set_option maxHeartbeats 4000000 in
theorem blk_text {W0 w : World} {K D g r lim bb : Nat} {ev : Er → Value} {M : Int} {s : DS} {A : Option Addr} {cap : Nat} {ov : Value} (E : BEnv W0 D g r lim bb ev M) (S : BSt W0 w K D g r lim bb s A cap ov) :
    Calls Tryd.prog 92 #[.pointer (some ⟨K, 0, none⟩)] w (TextEnd W0 w K D g r lim bb ev s A cap ov (text s)) := by
  have c1 : w.cell? ⟨K, 1, none⟩ = some (.slice A s.rest.length cap) := S.kk.cell 1
  have hbc := S.bc
  have IN := Lib.hid (text_any w s.rest A cap ev (S.errs E) S.bx hbc.1 hbc.2)
  have HS := Lib.hid S
  have HE := Lib.hid E
  clear S E
  go_enter Tryd.func92, Tryd.ntmps92
  go_wp2_with fail
  refine IN.out.mono ?_
  rintro e w1 ⟨rfl, hb1⟩
  have HS1 := Lib.hid (HS.out.ext hb1)
  have HUP := Lib.hid (Upd3.of_below hb1 (fun i => i = K))
  clear IN hb1 HS c1
  cases hgi : getText s.rest with
  | error er =>
    have HR := Lib.hid (show text s = .error er by unfold text; rw [hgi])
    have hER := (HS1.out.errs HE.out er).2.2
    rw [show textV ev (.error er) = .tuple #[.string ⟨#[]⟩, .int .i64 0, ev er] from rfl]
    have GE := Lib.hid (give_err (ev er) hER w1)
    clear hgi
    go_wp2_with fail
    refine GE.out.mono ?_
    rintro e w2 ⟨rfl, rfl⟩
    go_wp2_with fail
    rw [HR.out]
    exact ⟨rfl, rfl, HS1.out⟩
  | ok p =>
    obtain ⟨n, i⟩ := p
    obtain ⟨hi1, hil⟩ := getText_bound hgi
    have HR := Lib.hid (show text s = .ok (n, { s with rest := s.rest.drop i }) by unfold text; rw [hgi])
    rw [show textV ev (.ok (n, i)) = .tuple #[.string n, .int .i64 (i : Int), .nilIface] from rfl]
    clear hgi
    obtain ⟨off, rfl⟩ := rest_at HS1.out (by omega)
    by_cases hci : cap = i
    · have hbx := HS1.out.bx
      have hbc := HS1.out.bc
      go_wp2_with fail
      refine (give_nil w1).mono ?_
      rintro e w2 ⟨rfl, rfl⟩
      have q1 : w1.cell? ⟨K, 1, none⟩ = some (.slice (some ⟨bb, off, none⟩) s.rest.length cap) := HS1.out.kk.cell 1
      have f1 : w1.frozen? ⟨K, 1, none⟩ = false := HS1.out.kk.frozen 1
      have hKl := HS1.out.kk.lt
      have hS2 := HS1.out.cell HE.out 1 (.slice (some ⟨bb, off, none⟩) (s.rest.length - i) (0)) { s with rest := s.rest.drop i } (some ⟨bb, off, none⟩) (0) (by simp [List.length_drop]) ⟨rfl, rfl, rfl⟩ (by intro j hj; rw [List.length_drop] at hj; omega) (by show (s.rest.drop i).length ≤ _ ∧ _; rw [List.length_drop]; omega) (fun ad e => by injection e with e; rw [← e]) HS1.out.sz
      have HS2 := Lib.hid hS2
      clear hS2 hbx
      go_wp2_with fail
      go_ret
      rw [HR.out]
      exact ⟨_, _, rfl, HS2.out, HUP.out.setCell (p := ⟨K, 1, none⟩) (Or.inl rfl) _⟩
    · have hbx := HS1.out.bx
      have hbc := HS1.out.bc
      go_wp2_with fail
      refine (give_nil w1).mono ?_
      rintro e w2 ⟨rfl, rfl⟩
      have q1 : w1.cell? ⟨K, 1, none⟩ = some (.slice (some ⟨bb, off, none⟩) s.rest.length cap) := HS1.out.kk.cell 1
      have f1 : w1.frozen? ⟨K, 1, none⟩ = false := HS1.out.kk.frozen 1
      have hKl := HS1.out.kk.lt
      have hS2 := HS1.out.cell HE.out 1 (.slice (some ⟨bb, off + i, none⟩) (s.rest.length - i) (cap - i)) { s with rest := s.rest.drop i } (some ⟨bb, off + i, none⟩) (cap - i) (by simp [List.length_drop]) ⟨rfl, rfl, rfl⟩ (BytesAt_drop hbx i) (by show (s.rest.drop i).length ≤ _ ∧ _; rw [List.length_drop]; omega) (fun ad e => by injection e with e; rw [← e]) HS1.out.sz
      have HS2 := Lib.hid hS2
      clear hS2 hbx
      go_wp2_with fail
      go_ret
      rw [HR.out]
      exact ⟨_, _, rfl, HS2.out, HUP.out.setCell (p := ⟨K, 1, none⟩) (Or.inl rfl) _⟩
end Go.Proofs.YtflmgjidnclegaaDoor.Hpk
/-
  A block that is read: header, tell.
-/
namespace Go.Proofs.YtflmgjidnclegaaDoor.Hpk
open Go.RowKit
open Huff (BytesAt)
open Tab (Hn Hd hsz hncs hncs_append hncs_one Tbl hdR getAt infoHd)
/-- the decoder and its table, wherever the block stands -/
structure BTab (W0 w : World) (D g r lim : Nat) (Q : List Hd) (m : Nat) : Prop where
  kd : Blk w D 96 #[.pointer (some ⟨g, 0, none⟩), .int .i64 (lim : Int), .bool false]
  kt : ∃ o, Tbl w g r o Q m
  up : Upd3 W0 w (fun i => i = g ∨ i = r)
section
variable {W0 w w' : World} {K D g r lim bb : Nat} {s : DS} {A : Option Addr} {cap : Nat} {ov : Value} {ev : Er → Value} {M : Int}
theorem BSt.tab (h : BSt W0 w K D g r lim bb s A cap ov) : BTab W0 w D g r lim s.Q s.m := ⟨h.kd, h.kt, h.up⟩
end
section
variable {W0 w w' : World} {K D g r lim bb : Nat} {s : DS} {A : Option Addr} {cap : Nat} {ov ov' : Value} {ev : Er → Value} {M : Int}
theorem BSt.tabset (h : BSt W0 w K D g r lim bb s A cap ov) (E : BEnv W0 D g r lim bb ev M) (i : Nat) (u : Value) : BTab W0 (w.setCell ⟨K, i, none⟩ u) D g r lim s.Q s.m := by
  obtain ⟨o, ht⟩ := h.kt
  have hlt := E.lt
  have hK := h.hK
  have U : Upd3 w (w.setCell ⟨K, i, none⟩ u) (fun i => i = K) := (Upd3.refl w (fun i => i = K)).setCell (p := ⟨K, i, none⟩) (Or.inl rfl) u
  exact ⟨U.blk h.kd (by show ¬ D = K; omega), ⟨o, ht.upd U (by show ¬ g = K; omega) (by show ¬ r = K; omega)⟩, h.up.trans U (fun i hi => Or.inr (by subst hi; exact hK))⟩
/-- a header has been told -/
theorem BSt.told (h : BSt W0 w K D g r lim bb s A cap ov) (E : BEnv W0 D g r lim bb ev M) (x : Hn) (hg : w.grownBy w' ov.ownBlock) (ho : w'.ownsRow W0.heap.size 23 3 ov' (s.out.length + 1) (hncs s.out ++ hncs [x])) :
    BSt W0 (w'.setCell ⟨K, 2, none⟩ ov') K D g r lim bb { s with out := s.out ++ [x] } A cap ov' := by
  obtain ⟨o, ht⟩ := h.kt
  have hlt := E.lt
  have hab := E.ab
  have hK := h.hK
  have U : Upd3 w (w'.setCell ⟨K, 2, none⟩ ov') (fun i => ov.ownBlock = some i ∨ i = K) := ((Upd3.refl w (fun i => ov.ownBlock = some i ∨ i = K)).grown hg (fun b e => Or.inl (Or.inl e))).setCell (p := ⟨K, 2, none⟩) (Or.inl (Or.inr rfl)) ov'
  have hge : ∀ b, ov.ownBlock = some b → W0.heap.size ≤ b := fun b e => (h.ow.lt b e).1
  have nf : ∀ j, j < W0.heap.size → ¬ (ov.ownBlock = some j ∨ j = K) := fun j hj e => by
    rcases e with e | e
    · have := hge j e; omega
    · omega
  refine ⟨hK, ?_, U.blk h.kd (nf D hlt.2.2), ⟨o, ht.upd U (nf g hlt.1) (nf r hlt.2.1)⟩, ?_, h.bc, h.bn, ?_, h.sz, h.up.trans U (fun i hi => Or.inr (by rcases hi with e | e; exact hge i e; subst e; exact hK))⟩
  · exact (h.kk.grown hg (fun e => own_blk_ne h.ow h.kk (by decide) e.symm)).set_ 2 ov'
  · intro j hj
    obtain ⟨b, off, e, hb, hcc⟩ := h.bx j hj
    have hbb : b = bb := h.bn _ e
    exact ⟨b, off, e, Nat.lt_of_lt_of_le hb U.size, U.cell hcc (nf b (by omega))⟩
  · have h2 := (ho.kept (only_setCell (p := ⟨K, 2, none⟩) (World.grownBy.refl w' (some K)) (Or.inl rfl) ov') (Or.inr (own_blk_ne ho (h.kk.grown hg (fun e => own_blk_ne h.ow h.kk (by decide) e.symm)) (by decide))))
    show (w'.setCell ⟨K, 2, none⟩ ov').ownsRow _ _ _ _ (s.out ++ [x]).length (hncs (s.out ++ [x]))
    rw [hncs_append, List.length_append]
    exact h2
end
/-- what a function that answers a header hands back -/
theorem hdr_ret1 {f : Func} {p : Tmp} {w' : World} {a : Act} {b : Nat} {x y z : Value} {R : Ending → World → Prop} (hf : f.results = #[.cell p 23]) (hd : a.defers = []) (hp : a.tmps.getD p undef = .pointer (some ⟨b, 0, none⟩))
    (hb : Blk w' b 23 #[x, y, z]) (h : R (.returned (.agg #[x, y, z])) w') : bodyPost Tryd.prog f R .ret a w' :=
  bodyPost_ret (results_cell_row (P := Tryd.prog) hf _ _ b 23 _ (0, 0) _ hp hb Tryd.underlying23 rfl (by kernel_rfl)) hd h
def HeadEnd (W0 w : World) (K D g r lim bb : Nat) (ev : Er → Value) (s : DS) (A : Option Addr) (cap : Nat) (ov : Value) (R : Except Er Hd) (e : Ending) (w' : World) : Prop :=
  match R with
  | .ok h => e = .returned (.agg #[.string h.1, .string h.2, .bool false]) ∧ BSt W0 w' K D g r lim bb s A cap ov ∧ Below w.heap.size w w'
  | .error er => e = Pan (ev er) ∧ BTab W0 w' D g r lim s.Q s.m
set_option maxRecDepth 100000 in
set_option maxHeartbeats 4000000 in
theorem blk_header {W0 w : World} {K D g r lim bb : Nat} {ev : Er → Value} {M : Int} {s : DS} {A : Option Addr} {cap : Nat} {ov : Value} (E : BEnv W0 D g r lim bb ev M) (S : BSt W0 w K D g r lim bb s A cap ov) (i : Nat) :
    Calls Tryd.prog 79 #[.pointer (some ⟨K, 0, none⟩), .int .i64 (i : Int)] w (HeadEnd W0 w K D g r lim bb ev s A cap ov (header s i)) := by
  have hB0 : Below w.heap.size w (w.alloc (.cells #[.string ⟨#[]⟩, .string ⟨#[]⟩, .bool false] 23)) := (Below.refl _ _).alloc (Nat.le_refl _) _
  have S0 := S.ext hB0
  have kr := Blk.new w 23 #[.string ⟨#[]⟩, .string ⟨#[]⟩, .bool false]
  have c0 : (w.alloc (.cells #[.string ⟨#[]⟩, .string ⟨#[]⟩, .bool false] 23)).cell? ⟨K, 0, none⟩ = some (.pointer (some ⟨D, 0, none⟩)) := S0.kk.cell 0
  have d0 : (w.alloc (.cells #[.string ⟨#[]⟩, .string ⟨#[]⟩, .bool false] 23)).cell? ⟨D, 0, none⟩ = some (.pointer (some ⟨g, 0, none⟩)) := S0.kd.cell 0
  obtain ⟨o, ht⟩ := S0.kt
  have GT := Lib.hid (Tab.get_any ht (i : Int) M (S0.max E))
  have HS := Lib.hid S
  have HS0 := Lib.hid S0
  have HE := Lib.hid E
  have HB0 := Lib.hid hB0
  have HKR := Lib.hid kr
  clear S S0 E hB0 ht kr
  go_enter Tryd.func79, Tryd.ntmps79
  generalize hw1 : w.alloc (.cells #[.string ⟨#[]⟩, .string ⟨#[]⟩, .bool false] 23) = w1 at *
  go_wp2_with fail
  refine GT.out.mono ?_
  rintro e w2 ⟨rfl, hb2⟩
  have HB2 := Lib.hid (HB0.out.trans (hb2.mono HB0.out.size))
  have hK2 := HKR.out.below hb2 HKR.out.lt
  have HK2 := Lib.hid hK2
  clear GT hw1 c0 d0 HB0 HKR HS0
  cases hga : getAt s.Q (i : Int) with
  | none =>
    rw [show hdR (none : Option Hd) = .tuple #[.agg #[.string ⟨#[]⟩, .string ⟨#[]⟩, .bool false], .bool false] from rfl]
    have HR := Lib.hid (show header s i = .error .index by unfold header; rw [hga])
    have S2 := HS.out.ext HB2.out
    have ei : w2.cell? ⟨5, 0, none⟩ = some (ev .index) := (S2.errs HE.out .index).1
    have eg : 5 < w2.heap.size := (S2.errs HE.out .index).2.1
    have hER := (S2.errs HE.out .index).2.2
    have HB3 := Lib.hid (HB2.out.alloc HB2.out.size (.cells #[.string ⟨#[]⟩, .string ⟨#[]⟩, .bool false] 23))
    have GE := Lib.hid (give_err (ev .index) hER (w2.alloc (.cells #[.string ⟨#[]⟩, .string ⟨#[]⟩, .bool false] 23)))
    clear hga S2 hb2 hK2
    go_wp2_with fail
    refine GE.out.mono ?_
    rintro e w3 ⟨rfl, rfl⟩
    go_wp2_with fail
    rw [HR.out]
    exact ⟨rfl, rfl, (HS.out.ext HB3.out).tab⟩
  | some h =>
    obtain ⟨n, v⟩ := h
    rw [show hdR (some (n, v)) = .tuple #[.agg #[.string n, .string v, .bool false], .bool true] from rfl]
    have HR := Lib.hid (show header s i = .ok (n, v) by unfold header; rw [hga])
    have a0 : w2.cell? ⟨w.heap.size, 0, none⟩ = some (.string ⟨#[]⟩) := hK2.cell 0
    have a1 : w2.cell? ⟨w.heap.size, 1, none⟩ = some (.string ⟨#[]⟩) := hK2.cell 1
    have a2 : w2.cell? ⟨w.heap.size, 2, none⟩ = some (.bool false) := hK2.cell 2
    have f0 : w2.frozen? ⟨w.heap.size, 0, none⟩ = false := hK2.frozen 0
    have f1 : w2.frozen? ⟨w.heap.size, 1, none⟩ = false := hK2.frozen 1
    have f2 : w2.frozen? ⟨w.heap.size, 2, none⟩ = false := hK2.frozen 2
    have hlt := hK2.lt
    have hb5 := ((HB2.out.setCell (p := ⟨w.heap.size, 0, none⟩) (Nat.le_refl _) (.string n)).setCell (p := ⟨w.heap.size, 1, none⟩) (Nat.le_refl _) (.string v)).setCell (p := ⟨w.heap.size, 2, none⟩) (Nat.le_refl _) (.bool false)
    have HB5 := Lib.hid hb5
    clear hga hb2 hb5
    go_wp2_with fail
    refine hdr_ret1 rfl rfl rfl ((((HK2.out.set_ 0 (.string n)).set_ 1 (.string v)).set_ 2 (.bool false)).alloc (.cells #[.string n, .string v, .bool false] 23)) ?_
    rw [HR.out]
    exact ⟨rfl, HS.out.ext (HB5.out.alloc HB5.out.size _), HB5.out.alloc HB5.out.size _⟩
def TellEnd (W0 w : World) (K D g r lim bb : Nat) (ev : Er → Value) (s : DS) (A : Option Addr) (cap : Nat) (ov : Value) (R : Except Er DS) (e : Ending) (w' : World) : Prop :=
  match R with
  | .ok s' => ∃ ov', e = .returned (.tuple #[]) ∧ BSt W0 w' K D g r lim bb s' A cap ov' ∧ Upd3 w w' (fun i => i = K ∨ ov.ownBlock = some i)
  | .error er => e = Pan (ev er) ∧ BTab W0 w' D g r lim s.Q s.m
set_option maxRecDepth 100000 in
set_option maxHeartbeats 4000000 in
theorem blk_tell {W0 w : World} {K D g r lim bb : Nat} {ev : Er → Value} {M : Int} {s : DS} {A : Option Addr} {cap : Nat} {ov : Value} (E : BEnv W0 D g r lim bb ev M) (S : BSt W0 w K D g r lim bb s A cap ov) (n v : ByteArray) (nv : Bool) (hb : hsz (n, v) ≤ 1099511627776) (hol : s.out.length ≤ 100000) :
    Calls Tryd.prog 78 #[.pointer (some ⟨K, 0, none⟩), .agg #[.string n, .string v, .bool nv]] w (TellEnd W0 w K D g r lim bb ev s A cap ov (tell s (n, v, nv))) := by
  have hB0 : Below w.heap.size w (w.alloc (.cells #[.string n, .string v, .bool nv] 23)) := (Below.refl _ _).alloc (Nat.le_refl _) _
  have S0 := S.ext hB0
  have kh := Blk.new w 23 #[.string n, .string v, .bool nv]
  have hsx := hb
  obtain ⟨sx, hsx0⟩ : ∃ sx, hsz (n, v) = sx := ⟨_, rfl⟩
  rw [hsx0] at hsx
  have HSF : Hid (∀ W : World, Calls Tryd.prog 17 #[.agg #[.string n, .string v, .bool nv]] W fun e W' => e = .returned (.int .i64 (sx : Int)) ∧ Below W.heap.size W W') := fun W => Tab.size_any n v nv sx hsx0 (by omega) W
  have HX := Lib.hid hsx0
  have hsz0 := S.sz
  have HE := Lib.hid E
  have hKw := S.kk.lt
  have HOVL : Hid (∀ b, ov.ownBlock = some b → b < w.heap.size) := fun b e => (S.ow.lt b e).2
  clear S E hsx0 hb
  go_enter Tryd.func78, Tryd.ntmps78
  go_wp2_with fail
  generalize w.alloc (.cells #[.string n, .string v, .bool nv] 23) = w1 at *
  have c3 : w1.cell? ⟨K, 3, none⟩ = some (.int .i64 (s.size : Int)) := S0.kk.cell 3
  have k0 : w1.cell? ⟨w.heap.size, 0, none⟩ = some (.string n) := kh.cell 0
  have k1 : w1.cell? ⟨w.heap.size, 1, none⟩ = some (.string v) := kh.cell 1
  have k2 : w1.cell? ⟨w.heap.size, 2, none⟩ = some (.bool nv) := kh.cell 2
  have HS1 := Lib.hid S0
  have HKH := Lib.hid kh
  have HU1 := Lib.hid (Upd3.of_below hB0 (fun i => i = K ∨ ov.ownBlock = some i))
  clear S0 kh hB0
  refine wp_region_in_tail 9 (Since w1) (Since.drew0 w1) (by kernel_rfl) (by kernel_rfl) ?_
  simp only [List.take_succ_cons, List.take_zero, List.drop_succ_cons, List.drop_zero]
  repeat (first
    | go_big_quiet_skip
    | (go_big_quiet_want; go_big_quiet_op; go_big_quiet_on)
    | (go_big_quiet_want; apply in_val; (· intro W hW; have d0 := hW.cell c3; have d1 := hW.cell k0; have d2 := hW.cell k1; have d3 := hW.cell k2; go_simp; first | done | rfl); simp only [Act.put, List.setIfInBounds_toArray, List.set_cons_zero, List.set_cons_succ]; go_big_quiet_on)
    | (go_big_quiet_want; apply in_q; (· intro W hW; go_simp; (go_at_call 17; with_reducible exact hW.call (HSF.out W))); simp only [Act.put, List.setIfInBounds_toArray, List.set_cons_zero, List.set_cons_succ]; go_big_quiet_on))
  refine wpQuiet_nil ?_
  intro w2 hW2
  have HU2 := Lib.hid (HU1.out.trans (Upd3.of_below hW2 (fun _ => False)) (fun _ h => h.elim))
  have hS2 := HS1.out.ext hW2
  have hH2 := HKH.out.below hW2 HKH.out.lt
  have f3 : w2.frozen? ⟨K, 3, none⟩ = false := hS2.kk.frozen 3
  have b3 : w2.cell? ⟨K, 3, none⟩ = some (.int .i64 (s.size : Int)) := hS2.kk.cell 3
  have hKl := hS2.kk.lt
  have HS2 := Lib.hid hS2
  have HH2 := Lib.hid hH2
  clear hW2 HS1 HKH c3 k0 k1 k2 hS2 hH2 HSF
  by_cases hbig : 16384 < s.size + sx
  · have HR := Lib.hid (show tell s (n, v, nv) = .error .list by unfold tell; simp only [HX.out]; rw [if_pos hbig])
    have hd : decide ((16384 : Int) < (s.size : Int) + (sx : Int)) = true := decide_eq_true (by omega)
    have hER := HS2.out.errs HE.out .list
    have er0 : (w2.setCell ⟨K, 3, none⟩ (.int .i64 ((s.size : Int) + (sx : Int)))).cell? ⟨4, 0, none⟩ = some (ev .list) := by
      have h := hER.1
      have hk : 4 ≠ K := by have := HS2.out.hK; have := (HE.out.er .list).2.1; have e : gOf .list = 4 := rfl; omega
      rw [← h]
      exact World.cell?_of_block (Below.heap_setCell _ _ _ _ hk)
    have GE := Lib.hid (give_err (ev .list) hER.2.2 (w2.setCell ⟨K, 3, none⟩ (.int .i64 ((s.size : Int) + (sx : Int)))))
    have hBT := HS2.out.tabset HE.out 3 (.int .i64 ((s.size : Int) + (sx : Int)))
    have HBT := Lib.hid hBT
    clear hBT hER
    go_wp2_with fail
    refine GE.out.mono ?_
    rintro e w3 ⟨rfl, rfl⟩
    go_wp2_with fail
    rw [HR.out]
    exact ⟨rfl, rfl, HBT.out⟩
  · have hd : decide ((16384 : Int) < (s.size : Int) + (sx : Int)) = false := decide_eq_false (by omega)
    have HR := Lib.hid (show tell s (n, v, nv) = .ok { s with size := s.size + sx, out := s.out ++ [(n, v, nv)] } by unfold tell; simp only [HX.out]; rw [if_neg hbig])
    have hS3 := HS2.out.cell HE.out 3 (.int .i64 ((s.size : Int) + (sx : Int))) { s with size := s.size + sx } A cap (by simp) ⟨rfl, rfl, rfl⟩ HS2.out.bx HS2.out.bc HS2.out.bn (by show s.size + sx ≤ 16384; omega)
    have hH3 := HH2.out.far (p := ⟨K, 3, none⟩) (by show w.heap.size ≠ K; omega) (.int .i64 ((s.size : Int) + (sx : Int)))
    have HS3 := Lib.hid hS3
    have HH3 := Lib.hid hH3
    have HU3 := Lib.hid (HU2.out.setCell (p := ⟨K, 3, none⟩) (Or.inl (Or.inl rfl)) (.int .i64 ((s.size : Int) + (sx : Int))))
    clear hS3 hH3 HS2 HH2 HU2
    go_wp2_with fail
    clear f3 b3
    generalize w2.setCell ⟨K, 3, none⟩ (.int .i64 ((s.size : Int) + (sx : Int))) = w3 at *
    have c2 : w3.cell? ⟨K, 2, none⟩ = some ov := HS3.out.kk.cell 2
    have k0 : w3.cell? ⟨w.heap.size, 0, none⟩ = some (.string n) := HH3.out.cell 0
    have k1 : w3.cell? ⟨w.heap.size, 1, none⟩ = some (.string v) := HH3.out.cell 1
    have k2 : w3.cell? ⟨w.heap.size, 2, none⟩ = some (.bool nv) := HH3.out.cell 2
    have hS5 := HS3.out.ext ((Below.refl _ _).alloc (Nat.le_refl _) (.cells #[.string n, .string v, .bool nv] 23))
    have hH5 := HH3.out.alloc (.cells #[.string n, .string v, .bool nv] 23)
    have a2 : (w3.alloc (.cells #[.string n, .string v, .bool nv] 23)).cell? ⟨K, 2, none⟩ = some ov := hS5.kk.cell 2
    have j0 : (w3.alloc (.cells #[.string n, .string v, .bool nv] 23)).cell? ⟨w.heap.size, 0, none⟩ = some (.string n) := hH5.cell 0
    have j1 : (w3.alloc (.cells #[.string n, .string v, .bool nv] 23)).cell? ⟨w.heap.size, 1, none⟩ = some (.string v) := hH5.cell 1
    have j2 : (w3.alloc (.cells #[.string n, .string v, .bool nv] 23)).cell? ⟨w.heap.size, 2, none⟩ = some (.bool nv) := hH5.cell 2
    have hone := hncs_one [(n, v, nv)]
    have hbs : W0.heap.size ≤ (w3.alloc (.cells #[.string n, .string v, .bool nv] 23)).heap.size := hS5.up.size
    obtain ⟨i, hi, hi0, hi1, hi2⟩ := info_parts (P := Tryd.prog) (e := 23) (z := .agg #[.string ⟨#[]⟩, .string ⟨#[]⟩, .bool false]) (size := 3) (bytes := 40) (by kernel_rfl)
    have HI := Lib.hid hi
    have HS5 := Lib.hid hS5
    have HH5 := Lib.hid hH5
    have HON := Lib.hid hone
    have HBS := Lib.hid hbs
    clear hi hS5 hH5 hone hbs
    go_region_law
      (first | (refine step_append_lies _ rfl _ _ 51 rfl W0.heap.size 23 i (.agg #[.string ⟨#[]⟩, .string ⟨#[]⟩, .bool false]) 3 40 Tryd.underlying51 HI.out hi0 hi1 hi2 rfl (by decide) _ s.out.length (hncs s.out) rfl HS5.out.ow ⟨w3.heap.size, 0, none⟩ 1 1 (hncs [(n, v, nv)]) rfl rfl (World.news_of_block (Blk.new w3 23 #[.string n, .string v, .bool nv])) HON.out (by decide) (by unfold maxLen; omega) (by omega) HBS.out _ rfl ?_; intro gr cp w6 ho6 hg6 hat6 hlt6; have hg7 : (w3.alloc (.cells #[.string n, .string v, .bool nv] 23)).grownBy w6 ov.ownBlock := ⟨hg6.os, hg6.tape, hg6.output, hg6.size, hg6.block⟩; have HS7 := Lib.hid (HS5.out.told HE.out (n, v, nv) hg7 ho6); have HU7 := Lib.hid (((HU3.out.alloc (.cells #[.string n, .string v, .bool nv] 23)).grown hg7 (fun b e => Or.inl (Or.inr e))).setCell (p := ⟨K, 2, none⟩) (Or.inl (Or.inl rfl)) (.slice (some ⟨gr, 0, none⟩) (s.out.length + 1) cp)); have hk6 := HS5.out.kk.grown hg7 (fun e => own_blk_ne HS5.out.ow HS5.out.kk (by decide) e.symm); have hh6 := HH5.out.grown hg7 (fun e => by have := HOVL.out _ e.symm; omega); have f2 : w6.frozen? ⟨K, 2, none⟩ = false := hk6.frozen 2; have b2 : w6.cell? ⟨K, 2, none⟩ = some ov := hk6.cell 2; have m0 : w6.cell? ⟨w.heap.size, 0, none⟩ = some (.string n) := hh6.cell 0; have m1 : w6.cell? ⟨w.heap.size, 1, none⟩ = some (.string v) := hh6.cell 1; have m2 : w6.cell? ⟨w.heap.size, 2, none⟩ = some (.bool nv) := hh6.cell 2; have hk6l := hk6.lt; clear ho6 hg6 hg7 hat6 hk6 hh6))
    all_goals
      go_wp2_with fail
      go_end0
      rw [HR.out]
      exact ⟨_, rfl, HS7.out, HU7.out⟩
end Go.Proofs.YtflmgjidnclegaaDoor.Hpk
/-
  A block that is read: named.
-/
namespace Go.Proofs.YtflmgjidnclegaaDoor.Hpk
open Go.RowKit
open Huff (BytesAt)
open Tab (Hn Hd hsz hncs Tbl)
section
variable {W0 w w' : World} {K D g r lim bb : Nat} {s : DS} {A : Option Addr} {cap : Nat} {ov : Value} {ev : Er → Value} {M : Int}
/-- a cell of another new block has been written -/
theorem BSt.other (h : BSt W0 w K D g r lim bb s A cap ov) (E : BEnv W0 D g r lim bb ev M) {p : Addr} (hp : W0.heap.size ≤ p.block) (hk : p.block ≠ K) (ho : ov.ownBlock ≠ some p.block) (u : Value) : BSt W0 (w.setCell p u) K D g r lim bb s A cap ov := by
  obtain ⟨o, ht⟩ := h.kt
  have hlt := E.lt
  have hab := E.ab
  have U : Upd3 w (w.setCell p u) (fun i => i = p.block) := (Upd3.refl w (fun i => i = p.block)).setCell (p := p) (Or.inl rfl) u
  refine ⟨h.hK, U.blk h.kk (Ne.symm hk), U.blk h.kd (by show ¬ D = p.block; omega), ⟨o, ht.upd U (by show ¬ g = p.block; omega) (by show ¬ r = p.block; omega)⟩, ?_, h.bc, h.bn, U.own h.ow (fun b hb e => ho (by rw [← e]; exact hb)), h.sz, h.up.trans U (fun i hi => Or.inr (by subst hi; exact hp))⟩
  intro j hj
  obtain ⟨b, off, e, hb, hcc⟩ := h.bx j hj
  have hbb : b = bb := h.bn _ e
  exact ⟨b, off, e, by simpa using hb, U.cell hcc (by show ¬ b = p.block; omega)⟩
end
theorem number_keep {bits : Nat} {s s' : DS} {n : Nat} (h : number bits s = .ok (n, s')) : s'.Q = s.Q ∧ s'.m = s.m ∧ s'.out = s.out := by
  unfold number at h
  cases hg : getInt bits s.rest with
  | error e => rw [hg] at h; cases h
  | ok p =>
    obtain ⟨a, b⟩ := p
    rw [hg] at h
    injection h with h
    injection h with _ h
    subst h
    exact ⟨rfl, rfl, rfl⟩
theorem text_keep {s s' : DS} {t : ByteArray} (h : text s = .ok (t, s')) : s'.Q = s.Q ∧ s'.m = s.m ∧ s'.out = s.out := by
  unfold text at h
  cases hg : getText s.rest with
  | error e => rw [hg] at h; cases h
  | ok p =>
    obtain ⟨a, b⟩ := p
    rw [hg] at h
    injection h with h
    injection h with _ h
    subst h
    exact ⟨rfl, rfl, rfl⟩
theorem field_name (a b c : Value) (w : World) : (Instr.field 23 (.agg #[a, b, c]) 0).run Tryd.prog w = .ok a w := by
  simp [Instr.field, run_underlying Tryd.underlying23, go_sem, asAgg]
def NamedEnd (W0 w : World) (K D g r lim bb : Nat) (ev : Er → Value) (s : DS) (ov : Value) (R : Except Er (Hd × DS)) (e : Ending) (w' : World) : Prop :=
  match R with
  | .ok (h, s') => ∃ A' cap', e = .returned (.agg #[.string h.1, .string h.2, .bool false]) ∧ BSt W0 w' K D g r lim bb s' A' cap' ov ∧ Upd3 w w' (fun i => i = K)
  | .error er => e = Pan (ev er) ∧ BTab W0 w' D g r lim s.Q s.m
set_option maxRecDepth 100000 in
set_option maxHeartbeats 8000000 in
theorem blk_named {W0 w : World} {K D g r lim bb : Nat} {ev : Er → Value} {M : Int} {s : DS} {A : Option Addr} {cap : Nat} {ov : Value} (E : BEnv W0 D g r lim bb ev M) (S : BSt W0 w K D g r lim bb s A cap ov) (bits : Nat) (hb : bits = 4 ∨ bits = 5 ∨ bits = 6 ∨ bits = 7) :
    Calls Tryd.prog 82 #[.pointer (some ⟨K, 0, none⟩), .int .i64 (bits : Int)] w (NamedEnd W0 w K D g r lim bb ev s ov (named bits s)) := by
  have hB0 : Below w.heap.size w ((w.alloc (.cells #[.string ⟨#[]⟩, .string ⟨#[]⟩, .bool false] 23)).alloc (.cells #[.string ⟨#[]⟩, .string ⟨#[]⟩, .bool false] 23)) := ((Below.refl _ _).alloc (Nat.le_refl _) _).alloc (by simp) _
  have S0 := S.ext hB0
  have k4 := (Blk.new w 23 #[.string ⟨#[]⟩, .string ⟨#[]⟩, .bool false]).alloc (.cells #[.string ⟨#[]⟩, .string ⟨#[]⟩, .bool false] 23)
  have k5 := Blk.new (w.alloc (.cells #[.string ⟨#[]⟩, .string ⟨#[]⟩, .bool false] 23)) 23 #[.string ⟨#[]⟩, .string ⟨#[]⟩, .bool false]
  rw [show (w.alloc (.cells #[.string ⟨#[]⟩, .string ⟨#[]⟩, .bool false] 23)).heap.size = w.heap.size + 1 by simp] at k5
  have NB := Lib.hid (blk_number E S0 bits hb)
  have hKw := S.kk.lt
  have hWw := S.up.size
  have HOV : Hid (∀ b, ov.ownBlock = some b → b < w.heap.size) := fun b e => (S.ow.lt b e).2
  have HE := Lib.hid E
  have HU0 := Lib.hid (Upd3.of_below hB0 (fun i => i = K))
  have H4 := Lib.hid k4
  have H5 := Lib.hid k5
  have hfn := field_name
  clear E S S0 hB0 k4 k5
  go_enter Tryd.func82, Tryd.ntmps82
  go_wp2_with fail
  generalize (w.alloc (.cells #[.string ⟨#[]⟩, .string ⟨#[]⟩, .bool false] 23)).alloc (.cells #[.string ⟨#[]⟩, .string ⟨#[]⟩, .bool false] 23) = w0 at *
  refine NB.out.mono ?_
  intro e w1 hN
  clear NB
  cases hn : number bits s with
  | error er =>
    rw [hn] at hN
    obtain ⟨he, hS⟩ := hN
    unfold Pan at he
    subst he
    have HR := Lib.hid (show named bits s = .error er by unfold named; rw [hn])
    have HS := Lib.hid hS
    clear hn hS
    go_wp2_with fail
    rw [HR.out]
    exact ⟨rfl, rfl, HS.out.tab⟩
  | ok p =>
    obtain ⟨i, s1⟩ := p
    rw [hn] at hN
    obtain ⟨A1, c1, rfl, hS1, hU1⟩ := hN
    have k41 := hU1.blk H4.out (by show ¬ w.heap.size = K; omega)
    have k51 := hU1.blk H5.out (by show ¬ w.heap.size + 1 = K; omega)
    have hkp := number_keep hn
    have HN := Lib.hid hn
    have HS1 := Lib.hid hS1
    have H41 := Lib.hid k41
    have H51 := Lib.hid k51
    have HU1 := Lib.hid (HU0.out.trans hU1 (fun i hi => Or.inl hi))
    have HKP := Lib.hid hkp
    clear hn hS1 hU1 k41 k51 hkp HU0 H4 H5
    by_cases h0 : 0 < i
    · have HH := Lib.hid (blk_header HE.out HS1.out i)
      go_wp2_with fail
      refine HH.out.mono ?_
      intro e w2 hH
      clear HH
      cases hh : header s1 i with
      | error er =>
        rw [hh] at hH
        obtain ⟨he, hS⟩ := hH
        unfold Pan at he
        subst he
        have HR := Lib.hid (show named bits s = .error er by unfold named; rw [HN.out]; simp only []; rw [show nameAt s1 i = .error er by unfold nameAt; rw [if_pos h0, hh]])
        have HS := Lib.hid hS
        clear hh hS
        go_wp2_with fail
        rw [HR.out]
        exact ⟨rfl, rfl, by have := HS.out; rw [HKP.out.1, HKP.out.2.1] at this; exact this⟩
      | ok h =>
        obtain ⟨nm, hv⟩ := h
        rw [hh] at hH
        obtain ⟨rfl, hS2, hb2⟩ := hH
        have HP := Lib.hid (show nameAt s1 i = .ok (nm, s1) by unfold nameAt; rw [if_pos h0, hh])
        have HQ := Lib.hid (show s1.Q = s.Q ∧ s1.m = s.m from ⟨HKP.out.1, HKP.out.2.1⟩)
        have k42 := H41.out.below hb2 H41.out.lt
        have k52 := H51.out.below hb2 H51.out.lt
        have hU2 := HU1.out.trans (Upd3.of_below hb2 (fun _ => False)) (fun _ h => h.elim)
        clear hh hb2
        have q0 : w2.cell? ⟨w.heap.size + 1, 0, none⟩ = some (.string ⟨#[]⟩) := k52.cell 0
        have f0 : w2.frozen? ⟨w.heap.size + 1, 0, none⟩ = false := k52.frozen 0
        have l52 := k52.lt
        have hoB : ov.ownBlock ≠ some (w.heap.size + 1) := fun e => by have := HOV.out _ e; omega
        have HSn := Lib.hid (hS2.other HE.out (p := ⟨w.heap.size + 1, 0, none⟩) (by show _ ≤ w.heap.size + 1; omega) (by show w.heap.size + 1 ≠ K; omega) hoB (.string nm))
        have H4n := Lib.hid (k42.far (p := ⟨w.heap.size + 1, 0, none⟩) (by show w.heap.size ≠ w.heap.size + 1; omega) (.string nm))
        have H5n := Lib.hid (k52.set_ 0 (.string nm))
        have HUn := Lib.hid (hU2.setCell (p := ⟨w.heap.size + 1, 0, none⟩) (Or.inr (by show _ ≤ w.heap.size + 1; omega)) (.string nm))
        clear hS2 k42 k52 hU2 HS1 H41 H51 HU1 hoB
        go_wp2_with fail
        have TX := Lib.hid (blk_text HE.out HSn.out)
        go_wp2_with fail
        refine TX.out.mono ?_
        intro e w5 hT
        clear TX
        cases ht : text s1 with
        | error er =>
          rw [ht] at hT
          obtain ⟨he, hS⟩ := hT
          unfold Pan at he
          subst he
          have HR := Lib.hid (show named bits s = .error er by unfold named; rw [HN.out]; simp only []; rw [HP.out]; simp only []; rw [ht])
          have HS := Lib.hid hS
          clear ht hS
          go_wp2_with fail
          rw [HR.out]
          exact ⟨rfl, rfl, by have := HS.out.tab; rw [HQ.out.1, HQ.out.2] at this; exact this⟩
        | ok p =>
          obtain ⟨vl, s3⟩ := p
          rw [ht] at hT
          obtain ⟨A3, c3, rfl, hS3, hU3⟩ := hT
          have HR := Lib.hid (show named bits s = .ok ((nm, vl), s3) by unfold named; rw [HN.out]; simp only []; rw [HP.out]; simp only []; rw [ht])
          have k43 := hU3.blk H4n.out (by show ¬ w.heap.size = K; omega)
          have k53 := hU3.blk H5n.out (by show ¬ w.heap.size + 1 = K; omega)
          have q1 : w5.cell? ⟨w.heap.size + 1, 1, none⟩ = some (.string ⟨#[]⟩) := k53.cell 1
          have q0 : w5.cell? ⟨w.heap.size + 1, 0, none⟩ = some (.string nm) := k53.cell 0
          have q2 : w5.cell? ⟨w.heap.size + 1, 2, none⟩ = some (.bool false) := k53.cell 2
          have f1 : w5.frozen? ⟨w.heap.size + 1, 1, none⟩ = false := k53.frozen 1
          have g0 : w5.cell? ⟨w.heap.size, 0, none⟩ = some (.string ⟨#[]⟩) := k43.cell 0
          have g1 : w5.cell? ⟨w.heap.size, 1, none⟩ = some (.string ⟨#[]⟩) := k43.cell 1
          have g2 : w5.cell? ⟨w.heap.size, 2, none⟩ = some (.bool false) := k43.cell 2
          have e0 : w5.frozen? ⟨w.heap.size, 0, none⟩ = false := k43.frozen 0
          have e1 : w5.frozen? ⟨w.heap.size, 1, none⟩ = false := k43.frozen 1
          have e2 : w5.frozen? ⟨w.heap.size, 2, none⟩ = false := k43.frozen 2
          have l5 := k53.lt
          have l4 := k43.lt
          have hoA : ov.ownBlock ≠ some w.heap.size := fun e => by have := HOV.out _ e; omega
          have hoB : ov.ownBlock ≠ some (w.heap.size + 1) := fun e => by have := HOV.out _ e; omega
          have HS6 := Lib.hid ((((hS3.other HE.out (p := ⟨w.heap.size + 1, 1, none⟩) (by show _ ≤ w.heap.size + 1; omega) (by show w.heap.size + 1 ≠ K; omega) hoB (.string vl)).other HE.out (p := ⟨w.heap.size, 0, none⟩) hWw (by show w.heap.size ≠ K; omega) hoA (.string nm)).other HE.out (p := ⟨w.heap.size, 1, none⟩) hWw (by show w.heap.size ≠ K; omega) hoA (.string vl)).other HE.out (p := ⟨w.heap.size, 2, none⟩) hWw (by show w.heap.size ≠ K; omega) hoA (.bool false))
          have HU6 := Lib.hid (((((HUn.out.trans hU3 (fun i hi => Or.inl hi)).setCell (p := ⟨w.heap.size + 1, 1, none⟩) (Or.inr (by show _ ≤ w.heap.size + 1; omega)) (.string vl)).setCell (p := ⟨w.heap.size, 0, none⟩) (Or.inr (Nat.le_refl _)) (.string nm)).setCell (p := ⟨w.heap.size, 1, none⟩) (Or.inr (Nat.le_refl _)) (.string vl)).setCell (p := ⟨w.heap.size, 2, none⟩) (Or.inr (Nat.le_refl _)) (.bool false))
          have H46 := Lib.hid ((((k43.far (p := ⟨w.heap.size + 1, 1, none⟩) (by show w.heap.size ≠ w.heap.size + 1; omega) (.string vl)).set_ 0 (.string nm)).set_ 1 (.string vl)).set_ 2 (.bool false))
          clear ht hS3 hU3 k43 k53 HSn H4n H5n HUn
          go_wp2_with fail
          refine hdr_ret1 rfl rfl rfl H46.out ?_
          rw [HR.out]
          exact ⟨_, _, rfl, HS6.out, HU6.out⟩
    · have h0' : i = 0 := by omega
      have TX1 := Lib.hid (blk_text HE.out HS1.out)
      go_wp2_with fail
      refine TX1.out.mono ?_
      intro e w2 hH
      clear TX1
      cases hh : text s1 with
      | error er =>
        rw [hh] at hH
        obtain ⟨he, hS⟩ := hH
        unfold Pan at he
        subst he
        have HR := Lib.hid (show named bits s = .error er by unfold named; rw [HN.out]; simp only []; rw [show nameAt s1 i = .error er by unfold nameAt; rw [if_neg h0, hh]])
        have HS := Lib.hid hS
        clear hh hS
        go_wp2_with fail
        rw [HR.out]
        exact ⟨rfl, rfl, by have := HS.out.tab; rw [HKP.out.1, HKP.out.2.1] at this; exact this⟩
      | ok p =>
        obtain ⟨nm, s2⟩ := p
        rw [hh] at hH
        obtain ⟨A2, c2, rfl, hS2, hU2x⟩ := hH
        have hk2 := text_keep hh
        have HP := Lib.hid (show nameAt s1 i = .ok (nm, s2) by unfold nameAt; rw [if_neg h0, hh])
        have HQ := Lib.hid (show s2.Q = s.Q ∧ s2.m = s.m from ⟨hk2.1.trans HKP.out.1, hk2.2.1.trans HKP.out.2.1⟩)
        have k42 := hU2x.blk H41.out (by show ¬ w.heap.size = K; omega)
        have k52 := hU2x.blk H51.out (by show ¬ w.heap.size + 1 = K; omega)
        have hU2 := HU1.out.trans hU2x (fun i hi => Or.inl hi)
        clear hh hU2x hk2
        have q0 : w2.cell? ⟨w.heap.size + 1, 0, none⟩ = some (.string ⟨#[]⟩) := k52.cell 0
        have f0 : w2.frozen? ⟨w.heap.size + 1, 0, none⟩ = false := k52.frozen 0
        have l52 := k52.lt
        have hoB : ov.ownBlock ≠ some (w.heap.size + 1) := fun e => by have := HOV.out _ e; omega
        have HSn := Lib.hid (hS2.other HE.out (p := ⟨w.heap.size + 1, 0, none⟩) (by show _ ≤ w.heap.size + 1; omega) (by show w.heap.size + 1 ≠ K; omega) hoB (.string nm))
        have H4n := Lib.hid (k42.far (p := ⟨w.heap.size + 1, 0, none⟩) (by show w.heap.size ≠ w.heap.size + 1; omega) (.string nm))
        have H5n := Lib.hid (k52.set_ 0 (.string nm))
        have HUn := Lib.hid (hU2.setCell (p := ⟨w.heap.size + 1, 0, none⟩) (Or.inr (by show _ ≤ w.heap.size + 1; omega)) (.string nm))
        clear hS2 k42 k52 hU2 HS1 H41 H51 HU1 hoB
        go_wp2_with fail
        have TX := Lib.hid (blk_text HE.out HSn.out)
        go_wp2_with fail
        refine TX.out.mono ?_
        intro e w5 hT
        clear TX
        cases ht : text s2 with
        | error er =>
          rw [ht] at hT
          obtain ⟨he, hS⟩ := hT
          unfold Pan at he
          subst he
          have HR := Lib.hid (show named bits s = .error er by unfold named; rw [HN.out]; simp only []; rw [HP.out]; simp only []; rw [ht])
          have HS := Lib.hid hS
          clear ht hS
          go_wp2_with fail
          rw [HR.out]
          exact ⟨rfl, rfl, by have := HS.out.tab; rw [HQ.out.1, HQ.out.2] at this; exact this⟩
        | ok p =>
          obtain ⟨vl, s3⟩ := p
          rw [ht] at hT
          obtain ⟨A3, c3, rfl, hS3, hU3⟩ := hT
          have HR := Lib.hid (show named bits s = .ok ((nm, vl), s3) by unfold named; rw [HN.out]; simp only []; rw [HP.out]; simp only []; rw [ht])
          have k43 := hU3.blk H4n.out (by show ¬ w.heap.size = K; omega)
          have k53 := hU3.blk H5n.out (by show ¬ w.heap.size + 1 = K; omega)
          have q1 : w5.cell? ⟨w.heap.size + 1, 1, none⟩ = some (.string ⟨#[]⟩) := k53.cell 1
          have q0 : w5.cell? ⟨w.heap.size + 1, 0, none⟩ = some (.string nm) := k53.cell 0
          have q2 : w5.cell? ⟨w.heap.size + 1, 2, none⟩ = some (.bool false) := k53.cell 2
          have f1 : w5.frozen? ⟨w.heap.size + 1, 1, none⟩ = false := k53.frozen 1
          have g0 : w5.cell? ⟨w.heap.size, 0, none⟩ = some (.string ⟨#[]⟩) := k43.cell 0
          have g1 : w5.cell? ⟨w.heap.size, 1, none⟩ = some (.string ⟨#[]⟩) := k43.cell 1
          have g2 : w5.cell? ⟨w.heap.size, 2, none⟩ = some (.bool false) := k43.cell 2
          have e0 : w5.frozen? ⟨w.heap.size, 0, none⟩ = false := k43.frozen 0
          have e1 : w5.frozen? ⟨w.heap.size, 1, none⟩ = false := k43.frozen 1
          have e2 : w5.frozen? ⟨w.heap.size, 2, none⟩ = false := k43.frozen 2
          have l5 := k53.lt
          have l4 := k43.lt
          have hoA : ov.ownBlock ≠ some w.heap.size := fun e => by have := HOV.out _ e; omega
          have hoB : ov.ownBlock ≠ some (w.heap.size + 1) := fun e => by have := HOV.out _ e; omega
          have HS6 := Lib.hid ((((hS3.other HE.out (p := ⟨w.heap.size + 1, 1, none⟩) (by show _ ≤ w.heap.size + 1; omega) (by show w.heap.size + 1 ≠ K; omega) hoB (.string vl)).other HE.out (p := ⟨w.heap.size, 0, none⟩) hWw (by show w.heap.size ≠ K; omega) hoA (.string nm)).other HE.out (p := ⟨w.heap.size, 1, none⟩) hWw (by show w.heap.size ≠ K; omega) hoA (.string vl)).other HE.out (p := ⟨w.heap.size, 2, none⟩) hWw (by show w.heap.size ≠ K; omega) hoA (.bool false))
          have HU6 := Lib.hid (((((HUn.out.trans hU3 (fun i hi => Or.inl hi)).setCell (p := ⟨w.heap.size + 1, 1, none⟩) (Or.inr (by show _ ≤ w.heap.size + 1; omega)) (.string vl)).setCell (p := ⟨w.heap.size, 0, none⟩) (Or.inr (Nat.le_refl _)) (.string nm)).setCell (p := ⟨w.heap.size, 1, none⟩) (Or.inr (Nat.le_refl _)) (.string vl)).setCell (p := ⟨w.heap.size, 2, none⟩) (Or.inr (Nat.le_refl _)) (.bool false))
          have H46 := Lib.hid ((((k43.far (p := ⟨w.heap.size + 1, 1, none⟩) (by show w.heap.size ≠ w.heap.size + 1; omega) (.string vl)).set_ 0 (.string nm)).set_ 1 (.string vl)).set_ 2 (.bool false))
          clear ht hS3 hU3 k43 k53 HSn H4n H5n HUn
          go_wp2_with fail
          refine hdr_ret1 rfl rfl rfl H46.out ?_
          rw [HR.out]
          exact ⟨_, _, rfl, HS6.out, HU6.out⟩
end Go.Proofs.YtflmgjidnclegaaDoor.Hpk
/-
  Bounds in plain words: a text that is read is short, a header of an index too; what has been told is no more than its size.
-/
namespace Go.Proofs.YtflmgjidnclegaaDoor.Hpk
open Huff (dec decGo findSym find_some)
open Tab (Hd hsz tot stat getAt Hn)
/-- each symbol takes at least one bit -/
theorem decGo_len (xs : List UInt8) : ∀ (r code bits : Nat) (out z : List UInt8), decGo xs r code bits out = some z → z.length ≤ out.length + r
  | 0, code, bits, out, z, h => by
    unfold decGo at h
    by_cases hc : 8 ≤ bits ∨ code ≠ 2 ^ bits - 1
    · rw [if_pos hc] at h; cases h
    · rw [if_neg hc] at h
      injection h with h
      subst h
      omega
  | r + 1, code, bits, out, z, h => by
    unfold decGo at h
    cases hf : findSym (code * 2 + Huff.bitAt xs (8 * xs.length - (r + 1))) (bits + 1) with
    | some s =>
      rw [hf] at h
      simp only at h
      by_cases hs : s = 256
      · rw [if_pos hs] at h; cases h
      · rw [if_neg hs] at h
        have := decGo_len xs r 0 0 _ z h
        rw [List.length_append, List.length_singleton] at this
        omega
    | none =>
      rw [hf] at h
      simp only at h
      by_cases hb : bits + 1 < 30
      · rw [if_pos hb] at h
        have := decGo_len xs r _ _ out z h
        omega
      · rw [if_neg hb] at h; cases h
theorem dec_len {xs z : List UInt8} (h : dec xs = some z) : z.length ≤ 8 * xs.length := by
  have := decGo_len xs (8 * xs.length) 0 0 [] z h
  simpa using this
theorem getText_size {xs : List UInt8} {t : ByteArray} {k : Nat} (h : getText xs = .ok (t, k)) : t.size ≤ 131072 := by
  unfold getText at h
  cases hg : getInt 7 xs with
  | error e => rw [hg] at h; cases h
  | ok p =>
    obtain ⟨n, i⟩ := p
    rw [hg] at h
    simp only at h
    by_cases c1 : 16384 < n
    · rw [if_pos c1] at h; cases h
    · rw [if_neg c1] at h
      have hl : ((xs.drop i).take n).length ≤ 16384 := by rw [List.length_take]; omega
      by_cases c2 : xs.length < i + n
      · rw [if_pos c2] at h; cases h
      · rw [if_neg c2] at h
        by_cases c3 : 128 ≤ (xs.getD 0 0).toNat
        · rw [if_pos c3] at h
          cases hd : dec ((xs.drop i).take n) with
          | none => rw [hd] at h; cases h
          | some z =>
            rw [hd] at h
            injection h with h
            injection h with h _
            subst h
            have := dec_len hd
            show z.toArray.size ≤ _
            rw [List.size_toArray]
            omega
        · rw [if_neg c3] at h
          injection h with h
          injection h with h _
          subst h
          show ((xs.drop i).take n).toArray.size ≤ _
          rw [List.size_toArray]
          omega
theorem text_size {s s' : DS} {t : ByteArray} (h : text s = .ok (t, s')) : t.size ≤ 131072 := by
  unfold text at h
  cases hg : getText s.rest with
  | error e => rw [hg] at h; cases h
  | ok p =>
    obtain ⟨a, b⟩ := p
    rw [hg] at h
    injection h with h
    injection h with h _
    subst h
    exact getText_size hg
theorem stat_small : (stat.all fun h => decide (hsz h ≤ 200)) = true := by kernel_rfl
theorem tot_mem : ∀ {Q : List Hd} {h : Hd}, h ∈ Q → hsz h ≤ tot Q
  | [], _, hm => by cases hm
  | q :: Q, h, hm => by
    rw [tot]
    rcases List.mem_cons.1 hm with e | e
    · subst e; omega
    · have := tot_mem e; omega
theorem header_size {s : DS} {i : Nat} {h : Hd} (hh : header s i = .ok h) (hq : tot s.Q ≤ 4096) : hsz h ≤ 4096 := by
  unfold header at hh
  cases hg : getAt s.Q (i : Int) with
  | none => rw [hg] at hh; cases hh
  | some x =>
    rw [hg] at hh
    injection hh with hh
    subst hh
    unfold getAt at hg
    split at hg
    · have hm := List.mem_of_getElem? hg
      rcases List.mem_append.1 hm with e | e
      · have := of_decide_eq_true (List.all_eq_true.1 stat_small _ e); omega
      · have := tot_mem (List.mem_reverse.1 e); omega
    · cases hg
theorem named_size {bits : Nat} {s s' : DS} {h : Hd} (hn : named bits s = .ok (h, s')) (hq : tot s.Q ≤ 4096) : hsz h ≤ 1048576 := by
  unfold named at hn
  cases h1 : number bits s with
  | error e => rw [h1] at hn; cases hn
  | ok p =>
    obtain ⟨i, s1⟩ := p
    rw [h1] at hn
    simp only at hn
    have hk := number_keep h1
    cases h2 : nameAt s1 i with
    | error e => rw [h2] at hn; cases hn
    | ok p =>
      obtain ⟨nm, s2⟩ := p
      rw [h2] at hn
      simp only at hn
      have hnm : nm.size ≤ 131072 := by
        unfold nameAt at h2
        by_cases c : 0 < i
        · rw [if_pos c] at h2
          cases h3 : header s1 i with
          | error e => rw [h3] at h2; cases h2
          | ok x =>
            rw [h3] at h2
            injection h2 with h2
            injection h2 with h2 _
            subst h2
            have := header_size h3 (by rw [hk.1]; exact hq)
            unfold hsz at this
            omega
        · rw [if_neg c] at h2
          exact text_size h2
      cases h4 : text s2 with
      | error e => rw [h4] at hn; cases hn
      | ok p =>
        obtain ⟨vl, s3⟩ := p
        rw [h4] at hn
        simp only at hn
        injection hn with hn
        injection hn with hn _
        subst hn
        have := text_size h4
        show nm.size + vl.size + 32 ≤ _
        omega
theorem number_keep4 {bits : Nat} {s s' : DS} {n : Nat} (h : number bits s = .ok (n, s')) : s'.Q = s.Q ∧ s'.m = s.m ∧ s'.out = s.out ∧ s'.size = s.size := by
  unfold number at h
  cases hg : getInt bits s.rest with
  | error e => rw [hg] at h; cases h
  | ok p =>
    obtain ⟨a, b⟩ := p
    rw [hg] at h
    injection h with h
    injection h with _ h
    subst h
    exact ⟨rfl, rfl, rfl, rfl⟩
theorem text_keep4 {s s' : DS} {t : ByteArray} (h : text s = .ok (t, s')) : s'.Q = s.Q ∧ s'.m = s.m ∧ s'.out = s.out ∧ s'.size = s.size := by
  unfold text at h
  cases hg : getText s.rest with
  | error e => rw [hg] at h; cases h
  | ok p =>
    obtain ⟨a, b⟩ := p
    rw [hg] at h
    injection h with h
    injection h with _ h
    subst h
    exact ⟨rfl, rfl, rfl, rfl⟩
theorem named_keep {bits : Nat} {s s' : DS} {h : Hd} (hn : named bits s = .ok (h, s')) : s'.Q = s.Q ∧ s'.m = s.m ∧ s'.out = s.out ∧ s'.size = s.size := by
  unfold named at hn
  cases h1 : number bits s with
  | error e => rw [h1] at hn; cases hn
  | ok p =>
    obtain ⟨i, s1⟩ := p
    rw [h1] at hn
    simp only at hn
    have k1 : s1.Q = s.Q ∧ s1.m = s.m ∧ s1.out = s.out ∧ s1.size = s.size := number_keep4 h1
    cases h2 : nameAt s1 i with
    | error e => rw [h2] at hn; cases hn
    | ok p =>
      obtain ⟨nm, s2⟩ := p
      rw [h2] at hn
      simp only at hn
      have k2 : s2.Q = s1.Q ∧ s2.m = s1.m ∧ s2.out = s1.out ∧ s2.size = s1.size := by
        unfold nameAt at h2
        by_cases c : 0 < i
        · rw [if_pos c] at h2
          cases h3 : header s1 i with
          | error e => rw [h3] at h2; cases h2
          | ok x =>
            rw [h3] at h2
            injection h2 with h2
            injection h2 with _ h2
            subst h2
            exact ⟨rfl, rfl, rfl, rfl⟩
        · rw [if_neg c] at h2
          exact text_keep4 h2
      cases h4 : text s2 with
      | error e => rw [h4] at hn; cases hn
      | ok p =>
        obtain ⟨vl, s3⟩ := p
        rw [h4] at hn
        simp only at hn
        injection hn with hn
        injection hn with _ hn
        subst hn
        have k3 := text_keep4 h4
        exact ⟨k3.1.trans (k2.1.trans k1.1), k3.2.1.trans (k2.2.1.trans k1.2.1), k3.2.2.1.trans (k2.2.2.1.trans k1.2.2.1), k3.2.2.2.trans (k2.2.2.2.trans k1.2.2.2)⟩
end Go.Proofs.YtflmgjidnclegaaDoor.Hpk
