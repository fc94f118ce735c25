/-
  told, whatever a call with no throttle is told; near.
-/
import Derived.Test.YtnmcjdiihebagaaDoorHdgTold
namespace Go.Proofs.YtnmcjdiihebagaaDoor.Hdg
open Go.RowKit
open Pol (intsV IntsAt codeOk)
theorem ToldPost.before {w w0 w' : World} {B g : Nat} {T D : Int} {fv rv : Value} {s : HS} {m : Int} {e : Ending} {cs : Array Value} {run : List Int} (h : HMid w w0 B g rv.ownBlock cs rv run) (k : ToldPost w0 B g T D fv rv s m e w') : ToldPost w B g T D fv rv s m e w' := by
  obtain ⟨s', E, rv', v, he, ht, ho, hM⟩ := k
  exact ⟨s', E, rv', v, he, ht, own_base ho h.up.size, h.trans hM⟩
/-- something that a call is told -/
structure Do5 where
  kind : Int
  try_ : Int
  code : Int
  push : Int
  now : Int
set_option maxRecDepth 100000 in
set_option maxHeartbeats 4000000 in
theorem told_any (B g : Nat) (T D : Int) (A : Option Addr) (nf cf : Nat) (fine : List Int) (s : HS) (rv : Value) (d : Do5) (w : World) (h : Blk w g 91 (s.cells g T D (.slice A nf cf) rv))
    (hr : w.ownsRow B 3 1 rv s.run.length (intsV s.run)) (hB : B ≤ w.heap.size) (hl : s.run.length ≤ 400) (hst : 0 ≤ s.started ∧ s.started ≤ 5) (hT : T ≤ 5) (hnx : s.nx = true → s.started < T) (hD : 0 ≤ D ∧ D ≤ 1000000) (hnow : 0 ≤ s.now ∧ s.now ≤ 1125899906842624) (hn : d.now ≤ 1125899906842624) (hp : d.push ≤ 1125899906842624)
    (hfl : fine.length = nf) (hf6 : nf ≤ 1000000) (hfx : IntsAt w A fine) (hfd : ∀ ad, A = some ad → ad.block ≠ g ∧ rv.ownBlock ≠ some ad.block) :
    Calls Tryd.prog 30 #[.pointer (some ⟨g, 0, none⟩), .agg #[.int .i64 d.kind, .int .i64 d.try_, .int .i64 d.code, .int .i64 d.push, .int .i64 d.now]] w (ToldPost w B g T D (.slice A nf cf) rv s (max s.now d.now)) := by
  obtain ⟨kd, tr, cd, ps, nw⟩ := d
  obtain ⟨now, started, nx, due, run, ans, done, code⟩ := s
  have h' : Blk w g 91 (hcC T D (.slice A nf cf) (.pointer none) now started (nxV g nx) due rv ans done code) := h
  have hM0 := (HMid.start h' hr hB).alloc (.cells #[.int .i64 kd, .int .i64 tr, .int .i64 cd, .int .i64 ps, .int .i64 nw] 69)
  have hx0 := hfx.below ((Below.refl _ _).alloc (Nat.le_refl _) (.cells #[.int .i64 kd, .int .i64 tr, .int .i64 cd, .int .i64 ps, .int .i64 nw] 69))
  have HM0 := Lib.hid hM0
  have HX0 := Lib.hid hx0
  have HFD := Lib.hid hfd
  have hdn : True := trivial
  have kd0 := Blk.new w 69 #[.int .i64 kd, .int .i64 tr, .int .i64 cd, .int .i64 ps, .int .i64 nw]
  clear h h' hr hfx hfd hM0 hx0
  change run.length ≤ 400 at hl
  change 0 ≤ started ∧ started ≤ 5 at hst
  change nx = true → started < T at hnx
  change 0 ≤ now ∧ now ≤ 1125899906842624 at hnow
  change nw ≤ 1125899906842624 at hn
  change ps ≤ 1125899906842624 at hp
  show Calls _ _ #[.pointer (some ⟨g, 0, none⟩), .agg #[.int .i64 kd, .int .i64 tr, .int .i64 cd, .int .i64 ps, .int .i64 nw]] w (ToldPost w B g T D (.slice A nf cf) rv ⟨now, started, nx, due, run, ans, done, code⟩ (max now nw))
  generalize hw0 : w.alloc (.cells #[.int .i64 kd, .int .i64 tr, .int .i64 cd, .int .i64 ps, .int .i64 nw] 69) = w0 at *
  have d0 : w0.cell? ⟨w.heap.size, 0, none⟩ = some (.int .i64 kd) := kd0.cell 0
  have d1 : w0.cell? ⟨w.heap.size, 1, none⟩ = some (.int .i64 tr) := kd0.cell 1
  have d2 : w0.cell? ⟨w.heap.size, 2, none⟩ = some (.int .i64 cd) := kd0.cell 2
  have d3 : w0.cell? ⟨w.heap.size, 3, none⟩ = some (.int .i64 ps) := kd0.cell 3
  have d4 : w0.cell? ⟨w.heap.size, 4, none⟩ = some (.int .i64 nw) := kd0.cell 4
  by_cases k1 : kd = 1
  · have TK : Calls Tryd.prog 24 #[.pointer (some ⟨g, 0, none⟩), .int .i64 nw] w0 (ToldPost w0 B g T D (.slice A nf cf) rv ⟨now, started, nx, due, run, ans, done, code⟩ (max now nw)) := by
      refine (tick_any B g T D (.slice A nf cf) now started nx due rv run ans done code nw w0 HM0.out.kg HM0.out.kr HM0.out.hB (by omega) hst hT hnx hD (by omega) (by omega)).mono ?_
      rintro e w' ⟨j, rv', v, rfl, hS, ho, hM⟩
      exact ⟨_, _, rv', v, rfl, .ticks j hS, by rw [newEvs_length]; exact ho, hM⟩
    have HTK := Lib.hid TK
    clear TK kd0 hst hT hnx hD hnow hn hp hfl hf6 hdn hl
    subst k1
    go_enter Tryd.func30, Tryd.ntmps30
    go_wp2_with fail
    refine HTK.out.mono ?_
    intro e w' hpst
    obtain ⟨s', E, rv', v, rfl, rest⟩ := ToldPost.before HM0.out hpst
    have HR := Lib.hid rest
    clear rest hpst HTK
    go_wp2_with fail
    go_ret
    exact ⟨s', E, rv', v, rfl, HR.out⟩
  by_cases k2 : kd = 2
  · have TK : Calls Tryd.prog 25 #[.pointer (some ⟨g, 0, none⟩), .int .i64 tr, .int .i64 cd, .int .i64 ps, .int .i64 nw] w0 (ToldPost w0 B g T D (.slice A nf cf) rv ⟨now, started, nx, due, run, ans, done, code⟩ (max now nw)) := by
      by_cases hq : done = true ∨ ¬ tr ∈ run
      · exact failed_quiet B g T D (.slice A nf cf) now started nx due rv run ans done code tr cd ps nw w0 HM0.out.kg HM0.out.kr HM0.out.hB (by omega) hq
      · have hdf : done = false := by cases done <;> simp_all
        have hmem : tr ∈ run := Classical.byContradiction fun h => hq (Or.inr h)
        subst hdf
        by_cases he : ans = tr ∨ ¬ cd ∈ fine
        · refine (failed_ends B g T D A nf cf fine (.pointer none) now started (nxV g nx) due rv run ans code tr cd ps nw w0 HM0.out.kg HM0.out.kr HM0.out.hB (by omega) hmem hfl hf6 HX0.out HFD.out he).mono ?_
          rintro e w' ⟨k, rv', v, rfl, hk, hkx, ho, hM⟩
          exact ⟨_, _, rv', v, rfl, .ends tr cd due _ rfl (Or.inr ⟨k, hk, rfl, hkx⟩), ho, hM⟩
        · have he1 : ans ≠ tr := fun h => he (Or.inl h)
          have he2 : cd ∈ fine := Classical.byContradiction fun h => he (Or.inr h)
          exact failed_more B g T D A nf cf fine now started nx due rv run ans code tr cd ps nw w0 HM0.out.kg HM0.out.kr HM0.out.hB hl hmem hst hT hnx hD hnow hn hp hfl hf6 HX0.out HFD.out he2 he1
    have HTK := Lib.hid TK
    clear TK kd0 hst hT hnx hD hnow hn hp hfl hf6 hdn hl
    subst k2
    go_enter Tryd.func30, Tryd.ntmps30
    go_wp2_with fail
    refine HTK.out.mono ?_
    intro e w' hpst
    obtain ⟨s', E, rv', v, rfl, rest⟩ := ToldPost.before HM0.out hpst
    have HR := Lib.hid rest
    clear rest hpst HTK
    go_wp2_with fail
    go_ret
    exact ⟨s', E, rv', v, rfl, HR.out⟩
  by_cases k3 : kd = 3
  · have TK : Calls Tryd.prog 35 #[.pointer (some ⟨g, 0, none⟩), .int .i64 tr, .int .i64 nw] w0 (ToldPost w0 B g T D (.slice A nf cf) rv ⟨now, started, nx, due, run, ans, done, code⟩ (max now nw)) := by
      by_cases hq : done = true ∨ 0 ≤ ans ∨ ¬ tr ∈ run
      · exact answered_quiet B g T D (.slice A nf cf) now started nx due rv run ans done code tr nw w0 HM0.out.kg HM0.out.kr HM0.out.hB (by omega) hq
      · have hdf : done = false := by cases done <;> simp_all
        have hmem : tr ∈ run := Classical.byContradiction fun h => hq (Or.inr (Or.inr h))
        have ha : ans < 0 := by have : ¬ 0 ≤ ans := fun h => hq (Or.inr (Or.inl h)); omega
        subst hdf
        refine (answered_yes B g T D (.slice A nf cf) (.pointer none) now started (nxV g nx) due rv run ans code tr nw w0 HM0.out.kg HM0.out.kr HM0.out.hB (by omega) hmem ha).mono ?_
        rintro e w' ⟨rv', v, rfl, ho, hM⟩
        exact ⟨_, _, rv', v, rfl, .answered tr rfl hmem, ho, hM⟩
    have HTK := Lib.hid TK
    clear TK kd0 hst hT hnx hD hnow hn hp hfl hf6 hdn hl
    subst k3
    go_enter Tryd.func30, Tryd.ntmps30
    go_wp2_with fail
    refine HTK.out.mono ?_
    intro e w' hpst
    obtain ⟨s', E, rv', v, rfl, rest⟩ := ToldPost.before HM0.out hpst
    have HR := Lib.hid rest
    clear rest hpst HTK
    go_wp2_with fail
    go_ret
    exact ⟨s', E, rv', v, rfl, HR.out⟩
  by_cases k4 : kd = 4
  · have TK : Calls Tryd.prog 46 #[.pointer (some ⟨g, 0, none⟩), .int .i64 tr, .int .i64 cd, .int .i64 nw] w0 (ToldPost w0 B g T D (.slice A nf cf) rv ⟨now, started, nx, due, run, ans, done, code⟩ (max now nw)) := by
      exact ended_any B g T D (.slice A nf cf) now started nx due rv run ans done code tr cd nw w0 HM0.out.kg HM0.out.kr HM0.out.hB (by omega)
    have HTK := Lib.hid TK
    clear TK kd0 hst hT hnx hD hnow hn hp hfl hf6 hdn hl
    subst k4
    go_enter Tryd.func30, Tryd.ntmps30
    go_wp2_with fail
    refine HTK.out.mono ?_
    intro e w' hpst
    obtain ⟨s', E, rv', v, rfl, rest⟩ := ToldPost.before HM0.out hpst
    have HR := Lib.hid rest
    clear rest hpst HTK
    go_wp2_with fail
    go_ret
    exact ⟨s', E, rv', v, rfl, HR.out⟩
  have TK : Calls Tryd.prog 47 #[.pointer (some ⟨g, 0, none⟩), .int .i64 cd, .int .i64 nw] w0 (ToldPost w0 B g T D (.slice A nf cf) rv ⟨now, started, nx, due, run, ans, done, code⟩ (max now nw)) := by
    exact stop_any B g T D (.slice A nf cf) now started nx due rv run ans done code cd nw w0 HM0.out.kg HM0.out.kr HM0.out.hB (by omega)
  have HTK := Lib.hid TK
  clear TK kd0 hst hT hnx hD hnow hn hp hfl hf6 hdn hl
  have b1 : (kd == 1) = false := beq_eq_false_iff_ne.2 k1
  have b2 : (kd == 2) = false := beq_eq_false_iff_ne.2 k2
  have b3 : (kd == 3) = false := beq_eq_false_iff_ne.2 k3
  have b4 : (kd == 4) = false := beq_eq_false_iff_ne.2 k4
  go_enter Tryd.func30, Tryd.ntmps30
  go_wp2_with fail
  refine HTK.out.mono ?_
  intro e w' hpst
  obtain ⟨s', E, rv', v, rfl, rest⟩ := ToldPost.before HM0.out hpst
  have HR := Lib.hid rest
  clear rest hpst HTK
  go_wp2_with fail
  go_ret
  exact ⟨s', E, rv', v, rfl, HR.out⟩

/-- what the call is to be told lies below the heap's end -/
def DosAt (w : World) (B : Option Addr) (m : Nat) (f : Nat → Do5) : Prop :=
  ∀ i, i < m → ∃ b off, B = some ⟨b, off, none⟩ ∧ b < w.heap.size ∧ w.cell? ⟨b, off + i * 5, none⟩ = some (.int .i64 (f i).kind) ∧ w.cell? ⟨b, off + i * 5 + 1, none⟩ = some (.int .i64 (f i).try_) ∧
    w.cell? ⟨b, off + i * 5 + 2, none⟩ = some (.int .i64 (f i).code) ∧ w.cell? ⟨b, off + i * 5 + 3, none⟩ = some (.int .i64 (f i).push) ∧ w.cell? ⟨b, off + i * 5 + 4, none⟩ = some (.int .i64 (f i).now)
theorem DosAt.below {w w' : World} {B : Option Addr} {m : Nat} {f : Nat → Do5} (h : DosAt w B m f) (hb : Below w.heap.size w w') : DosAt w' B m f := by
  intro i hi
  obtain ⟨b, off, e, hlt, h0, h1, h2, h3, h4⟩ := h i hi
  have hk : ∀ o, w'.cell? ⟨b, o, none⟩ = w.cell? ⟨b, o, none⟩ := fun o => hb.cell (p := ⟨b, o, none⟩) hlt
  exact ⟨b, off, e, Nat.lt_of_lt_of_le hlt hb.size, (hk _).trans h0, (hk _).trans h1, (hk _).trans h2, (hk _).trans h3, (hk _).trans h4⟩
def nearOk (m : Nat) (f : Nat → Do5) : Prop := m ≤ 100 ∧ ∀ i, i < m → (f i).now ≤ 1125899906842624 ∧ (f i).push ≤ 1125899906842624
def NearPost (m : Nat) (f : Nat → Do5) (w : World) (e : Ending) (w' : World) : Prop := ∃ b, e = .returned (.bool b) ∧ (b = true → nearOk m f) ∧ w = w'
set_option maxRecDepth 100000 in
set_option maxHeartbeats 4000000 in
theorem near_any (B : Option Addr) (m mc : Nat) (f : Nat → Do5) (hm : m ≤ 9223372036854775807) (w : World) (hd : DosAt w B m f) :
    Calls Tryd.prog 28 #[.slice B m mc] w (NearPost m f w) := by
  have HD := Lib.hid hd
  clear hd
  go_enter Tryd.func28, Tryd.ntmps28
  go_wp2_with fail
  go_loop [3] (fun i => ∃ k : Nat, k ≤ m ∧ i = .int .i64 (k : Int) ∧ ∀ j, j < k → (f j).now ≤ 1125899906842624 ∧ (f j).push ≤ 1125899906842624) (fun i => m - (intOf i).toNat)
  case atStart => exact ⟨0, Nat.zero_le _, rfl, fun j hj => absurd hj (by omega)⟩
  case round =>
    obtain ⟨k, hk, rfl, hall⟩ := hrel
    by_cases hlt : k < m
    · obtain ⟨b, off, rfl, hb, c0, c1, c2, c3, c4⟩ := HD.out k hlt
      have hnext : (f k).now ≤ 1125899906842624 → (f k).push ≤ 1125899906842624 → ∀ j, j < k + 1 → (f j).now ≤ 1125899906842624 ∧ (f j).push ≤ 1125899906842624 := fun h1 h2 j hj => by
        rcases Nat.lt_or_ge j k with h3 | h3
        · exact hall j h3
        · rw [show j = k by omega]; exact ⟨h1, h2⟩
      obtain ⟨nw, hnw⟩ : ∃ x, (f k).now = x := ⟨_, rfl⟩
      obtain ⟨ps, hps⟩ : ∃ x, (f k).push = x := ⟨_, rfl⟩
      rw [hnw] at c4 hnext
      rw [hps] at c3 hnext
      have HN := Lib.hid hnext
      clear hnext hnw hps hall c0 c1 c2
      by_cases h1 : 1125899906842624 < nw
      · have hd1 : decide (1125899906842624 < nw) = true := decide_eq_true h1
        go_wp2_with fail
        go_ret
        exact ⟨_, rfl, (fun h => by cases h), rfl⟩
      · have hd1 : decide (1125899906842624 < nw) = false := decide_eq_false h1
        by_cases h2 : 1125899906842624 < ps
        · have hd2 : decide (1125899906842624 < ps) = true := decide_eq_true h2
          go_wp2_with fail
          go_ret
          exact ⟨_, rfl, (fun h => by cases h), rfl⟩
        · have hd2 : decide (1125899906842624 < ps) = false := decide_eq_false h2
          have H := Lib.hid (HN.out (by omega) (by omega))
          clear HN
          go_wp2_with fail
          go_round
          case rel => exact ⟨k + 1, by omega, by go_num, H.out⟩
          case measure => simp [intOf]; omega
    · have hkm : k = m := by omega
      have H := Lib.hid hall
      have HK := Lib.hid hkm
      clear hall hkm
      go_wp2_with fail
      go_ret
      refine ⟨_, rfl, fun h => ?_, rfl⟩
      have hm := of_decide_eq_true h
      exact ⟨by omega, fun i hi => H.out i (by have := HK.out; omega)⟩
end Go.Proofs.YtnmcjdiihebagaaDoor.Hdg
