/-
  The walk of the law PolicyBound: it answers true.
-/
import Derived.Test.YtnmcjdiihebagaaDoorPolMore
import Derived.StillTailTactics
import Derived.Deep.RegionHeld3
namespace Go.Proofs.YtnmcjdiihebagaaDoor.Pol
open Go.RowKit
/-- the things that the call is told lie below the heap's end -/
def DosAt (w : World) (B : Option Addr) (m : Nat) : Prop :=
  ∀ i, i < m → ∃ b off kd cd ps dr rf, B = some ⟨b, off, none⟩ ∧ b < w.heap.size ∧ w.cell? ⟨b, off + i * 5, none⟩ = some (.int .i64 kd) ∧ w.cell? ⟨b, off + i * 5 + 1, none⟩ = some (.int .i64 cd) ∧
    w.cell? ⟨b, off + i * 5 + 2, none⟩ = some (.int .i64 ps) ∧ w.cell? ⟨b, off + i * 5 + 3, none⟩ = some (.int .i64 dr) ∧ w.cell? ⟨b, off + i * 5 + 4, none⟩ = some (.bool rf)
theorem DosAt.below {w w' : World} {B : Option Addr} {m : Nat} (h : DosAt w B m) (hb : Below w.heap.size w w') : DosAt w' B m := by
  intro i hi
  obtain ⟨b, off, kd, cd, ps, dr, rf, e, hlt, h0, h1, h2, h3, h4⟩ := h i hi
  have hk : ∀ o, w'.cell? ⟨b, o, none⟩ = w.cell? ⟨b, o, none⟩ := fun o => hb.cell (p := ⟨b, o, none⟩) hlt
  exact ⟨b, off, kd, cd, ps, dr, rf, e, Nat.lt_of_lt_of_le hlt hb.size, (hk _).trans h0, (hk _).trans h1, (hk _).trans h2, (hk _).trans h3, (hk _).trans h4⟩
/-- what holds at the head of a round -/
structure BInv (w0 : World) (h g : Nat) (T F M X : Int) (l0 : Value) (A : Option Addr) (n c : Nat) (xs : List Int) (wr : World) (k : Nat) (yes : Int) (no : Bool) (tries waits : Int) (r co d : Bool) : Prop where
  kp : Blk wr h 24 #[.int .i64 T, .int .i64 F, .int .i64 M, .int .i64 X, l0]
  kg : Blk wr g 74 (callC T F M X (.slice A n c) (.pointer none) tries waits r co d)
  hx : IntsAt wr A xs
  hb : Below w0.heap.size w0 wr
  hy : yes = tries - 1 + (if r then 1 else 0)
  ht : 1 ≤ tries ∧ tries ≤ T
  hw : 0 ≤ waits ∧ waits ≤ k
  hno : no = (co || d)
section
variable {w0 : World} {h g : Nat} {T F M X : Int} {l0 : Value} {A : Option Addr} {n c : Nat} {xs : List Int} {wr w' : World} {k : Nat} {yes : Int} {no : Bool} {tries waits : Int} {r co d : Bool}
theorem BInv.commit (I : BInv w0 h g T F M X l0 A n c xs wr k yes no tries waits r co d) (hg : w0.heap.size ≤ g) (hh : h ≠ g) (hA : ∀ ad, A = some ad → ad.block ≠ g) (U : Upd wr w' g (callC T F M X (.slice A n c) (.pointer none) tries waits r true d)) :
    BInv w0 h g T F M X l0 A n c xs w' (k + 1) yes true tries waits r true d :=
  ⟨I.kp.grown U.2 (fun x => hh (by injection x)), U.1, I.hx.upd U hA, Upd.to_below I.hb hg U, I.hy, I.ht, ⟨I.hw.1, by have := I.hw.2; omega⟩, rfl⟩
theorem BInv.fail (I : BInv w0 h g T F M X l0 A n c xs wr k yes no tries waits r co d) (hg : w0.heap.size ≤ g) (hh : h ≠ g) (hA : ∀ ad, A = some ad → ad.block ≠ g) {again : Bool} {ms tries' waits' : Int} {r' d' : Bool}
    (R : FailRel T tries waits r co d again ms tries' waits' r' d') (U : Upd wr w' g (callC T F M X (.slice A n c) (.pointer none) tries' waits' r' co d')) :
    BInv w0 h g T F M X l0 A n c xs w' (k + 1) (if again then yes + 1 else yes) (no || !again) tries' waits' r' co d' := by
  have hy := I.hy
  have ht := I.ht
  have hw := I.hw
  refine ⟨I.kp.grown U.2 (fun x => hh (by injection x)), U.1, I.hx.upd U hA, Upd.to_below I.hb hg U, ?_, ?_, ?_, ?_⟩
  · cases again with
    | false => obtain ⟨_, _, e1, _, e2⟩ := R.no rfl; rw [e1, e2]; exact hy
    | true =>
      obtain ⟨_, _, _, _, h | h⟩ := R.yes rfl
      · obtain ⟨e1, _, e2, e3⟩ := h
        subst e2
        rw [e1, e3, if_pos rfl, hy]
        simp
      · obtain ⟨_, e1, _, _, e2⟩ := h
        rw [e1, e2, if_pos rfl, hy]
        omega
  · cases again with
    | false => obtain ⟨_, _, e1, _, _⟩ := R.no rfl; rw [e1]; exact ht
    | true =>
      obtain ⟨_, _, _, _, h | h⟩ := R.yes rfl
      · rw [h.1]; exact ht
      · obtain ⟨e0, e1, _⟩ := h; omega
  · cases again with
    | false => obtain ⟨_, _, _, e1, _⟩ := R.no rfl; rw [e1]; omega
    | true =>
      obtain ⟨_, _, _, _, h | h⟩ := R.yes rfl
      · rw [h.2.1]; omega
      · obtain ⟨_, _, e1, e2, _⟩ := h; omega
  · rw [I.hno]
    cases again with
    | false => obtain ⟨_, e1, _⟩ := R.no rfl; rw [e1]; simp
    | true => obtain ⟨e1, e2, e3, _⟩ := R.yes rfl; rw [e1, e2, e3]; rfl
theorem BInv.drew (I : BInv w0 h g T F M X l0 A n c xs wr k yes no tries waits r co d) : BInv w0 h g T F M X l0 A n c xs wr.drew k yes no tries waits r co d :=
  ⟨I.kp.drew, I.kg.drew, I.hx.drew, I.hb.drew, I.hy, I.ht, I.hw, I.hno⟩
theorem BInv.drewN (I : BInv w0 h g T F M X l0 A n c xs wr k yes no tries waits r co d) (q : Nat) : BInv w0 h g T F M X l0 A n c xs (wr.drewN q) k yes no tries waits r co d :=
  ⟨I.kp.drewN q, I.kg.drewN q, I.hx, below_drewN I.hb q, I.hy, I.ht, I.hw, I.hno⟩
theorem BInv.yes_le (I : BInv w0 h g T F M X l0 A n c xs wr k yes no tries waits r co d) : yes ≤ T := by
  rw [I.hy]
  have := I.ht
  split <;> omega
theorem BInv.yes_ge (I : BInv w0 h g T F M X l0 A n c xs wr k yes no tries waits r co d) : 0 ≤ yes := by
  rw [I.hy]
  have := I.ht
  split <;> omega
end
set_option maxRecDepth 100000 in
set_option maxHeartbeats 4000000 in
theorem lbound_any (T F M X : Int) (xs : List Int) (A : Option Addr) (n c : Nat) (B : Option Addr) (m mc : Nat) (hn : xs.length = n) (hcap : n ≤ 9223372036854775807) (hm : m ≤ 9223372036854775807) (h0 : A = none → c = 0) (v : Value) (hie : IsErr v) (w : World) (hx : IntsAt w A xs) (hd : DosAt w B m) (hv : w.cell? ⟨0, 0, none⟩ = some v) (hg : 0 < w.heap.size) :
    Calls Tryd.prog 4 #[.agg #[.int .i64 T, .int .i64 F, .int .i64 M, .int .i64 X, .slice A n c], .slice B m mc] w fun e w' => e = .returned (.bool true) ∧ Below w.heap.size w w' := by
  have hB0 : Below w.heap.size w (w.alloc (.cells #[.int .i64 T, .int .i64 F, .int .i64 M, .int .i64 X, .slice A n c] 24)) := (Below.refl _ _).alloc (Nat.le_refl _) _
  have kb0 := Blk.new w 24 #[.int .i64 T, .int .i64 F, .int .i64 M, .int .i64 X, .slice A n c]
  go_enter Tryd.func4, Tryd.ntmps4
  go_wp2_with fail
  generalize w.alloc (.cells #[.int .i64 T, .int .i64 F, .int .i64 M, .int .i64 X, .slice A n c] 24) = w0 at *
  refine (first_any v w0 ((hB0.cell hg).trans hv) (Nat.lt_of_lt_of_le hg hB0.size)).mono ?_
  rintro e w1 ⟨rfl, hb1⟩
  have hB1 : Below w.heap.size w w1 := hB0.trans (hb1.mono hB0.size)
  have kb1 := kb0.below hb1 kb0.lt
  have o0 : w1.cell? ⟨w.heap.size, 0, none⟩ = some (.int .i64 T) := kb1.cell 0
  have o1 : w1.cell? ⟨w.heap.size, 1, none⟩ = some (.int .i64 F) := kb1.cell 1
  have o2 : w1.cell? ⟨w.heap.size, 2, none⟩ = some (.int .i64 M) := kb1.cell 2
  have o3 : w1.cell? ⟨w.heap.size, 3, none⟩ = some (.int .i64 X) := kb1.cell 3
  have o4 : w1.cell? ⟨w.heap.size, 4, none⟩ = some (.slice A n c) := kb1.cell 4
  have HB1 := Lib.hid hB1
  have HK1 := Lib.hid kb1
  clear hb1 kb0 hB0 hB1 kb1
  by_cases h100 : 100 < m
  · go_wp2_with fail
    go_ret
    exact ⟨rfl, HB1.out⟩
  by_cases h50 : 50 < n
  · go_wp2_with fail
    go_ret
    exact ⟨rfl, HB1.out⟩
  go_wp2_with fail
  refine (made_any T F M X A n c w1).mono ?_
  rintro e w2 ⟨rfl, hb2⟩
  have hB2 : Below w.heap.size w w2 := HB1.out.trans (hb2.mono HB1.out.size)
  have kb2 := HK1.out.below hb2 HK1.out.lt
  have HB2 := Lib.hid hB2
  have HK2 := Lib.hid kb2
  clear o0 o1 o2 o3 o4 hb2 HB1 HK1 hB2 kb2
  cases hok : polOk T F M X xs with
  | false =>
    have N := newcall_no T F M X xs A n c hn (by omega) none v hie w2 (hx.below HB2.out) hok ((HB2.out.cell hg).trans hv) (Nat.lt_of_lt_of_le hg HB2.out.size)
    have HN := Lib.hid N
    obtain ⟨t, u, rfl⟩ := hie
    clear N
    go_wp2_with fail
    refine HN.out.mono ?_
    rintro e w3 ⟨rfl, hb3⟩
    go_wp2_with fail
    go_ret
    exact ⟨rfl, HB2.out.trans (hb3.mono HB2.out.size)⟩
  | true =>
    obtain ⟨t1, t2, f1, f2, m1, m2, x1, x2⟩ := nums_bounds hok
    obtain ⟨F, rfl⟩ : ∃ f : Nat, F = (f : Int) := ⟨F.toNat, by omega⟩
    obtain ⟨M, rfl⟩ : ∃ f : Nat, M = (f : Int) := ⟨M.toNat, by omega⟩
    obtain ⟨X, rfl⟩ : ∃ f : Nat, X = (f : Int) := ⟨X.toNat, by omega⟩
    obtain ⟨T, rfl⟩ : ∃ f : Nat, T = (f : Int) := ⟨T.toNat, by omega⟩
    have N := newcall_ok T F M X xs A n c hn (by omega) h0 none v w2 (hx.below HB2.out) hok ((HB2.out.cell hg).trans hv) (Nat.lt_of_lt_of_le hg HB2.out.size)
    have HN := Lib.hid N
    have HD := Lib.hid hd
    clear N hok hx hv hd
    go_wp2_with fail
    refine HN.out.mono ?_
    rintro e w3 ⟨g, A', c', rfl, hgg, kg, hx3, hA', hb3⟩
    have hgw : w.heap.size < g := Nat.lt_of_lt_of_le HK2.out.lt hgg
    have hI : BInv w w.heap.size g T F M X (.slice A n c) A' n c' xs w3 0 0 false 1 0 false false false := ⟨HK2.out.below hb3 HK2.out.lt, kg, hx3, HB2.out.trans (hb3.mono HB2.out.size), rfl, ⟨by omega, by omega⟩, ⟨by omega, by omega⟩, rfl⟩
    have hAg : ∀ ad, A' = some ad → ad.block ≠ g := fun ad e => (hA' ad e).2
    have HI := Lib.hid hI
    have HA := Lib.hid hAg
    clear hI hAg kg hx3 hA' hb3 HN HB2 HK2 hgg
    go_wp2_with fail
    go_loopw [8, 9, 10] (fun y nn i wr => ∃ (k : Nat) (yes : Int) (no : Bool) (tries waits : Int) (r co d : Bool), k ≤ m ∧ i = .int .i64 (k : Int) ∧ y = .int .i64 yes ∧ nn = .bool no ∧ BInv w w.heap.size g T F M X (.slice A n c) A' n c' xs wr k yes no tries waits r co d) (fun _ _ i _ => m - (intOf i).toNat)
    case atStart => exact ⟨0, 0, false, 1, 0, false, false, false, Nat.zero_le _, rfl, rfl, rfl, HI.out⟩
    case round =>
      obtain ⟨k, yes, no, tries, waits, r, co, d, hk, rfl, rfl, rfl, I⟩ := hrel
      clear HI
      have hyl := I.yes_le
      have hyg := I.yes_ge
      have htr := I.ht
      have hwt := I.hw
      by_cases hlt : k < m
      · obtain ⟨b, off, kd, cd, ps, dr, rf, rfl, hbl, e0, e1, e2, e3, e4⟩ := HD.out k hlt
        have tr := fun o => I.hb.cell (p := ⟨b, o, none⟩) hbl
        have c0 := (tr _).trans e0
        have c1 := (tr _).trans e1
        have c2 := (tr _).trans e2
        have c3 := (tr _).trans e3
        have c4 := (tr _).trans e4
        clear tr e0 e1 e2 e3 e4
        have p0 : wr.cell? ⟨w.heap.size, 0, none⟩ = some (.int .i64 T) := I.kp.cell 0
        have HI := Lib.hid I
        clear I
        by_cases h2 : kd = 2
        · subst h2
          go_wp2_with fail
          refine (commit_any g _ _ _ _ _ _ _ _ _ _ _ _ HI.out.kg).mono ?_
          rintro e w5 ⟨rfl, U⟩
          have J := Lib.hid (HI.out.commit (by omega) (by omega) HA.out U)
          clear U HI
          go_wp2_with fail
          go_roundw
          case rel => exact ⟨k + 1, yes, true, tries, waits, r, true, d, by omega, by go_num, rfl, rfl, J.out⟩
          case measure => simp [intOf]; omega
        · have hk2 : (kd == 2) = false := beq_eq_false_iff_ne.2 h2
          go_wp2_with fail
          have FA := failed_all g T F M X xs A' n c' tries waits r co d cd ps dr rf wr.drew (by omega) (by omega) (by omega) (by omega) (by omega) hn (by omega) HI.out.hx.drew HI.out.kg.drew
          have HF := Lib.hid FA
          have hkeep : ∀ W : World, wr.drew.grownBy W (some g) → ∀ o, W.cell? ⟨b, o, none⟩ = wr.cell? ⟨b, o, none⟩ := fun W hgr o => World.cell?_of_block (w := wr) (hgr.block b (show b < wr.heap.size from Nat.lt_of_lt_of_le hbl HI.out.hb.size) (fun e => by injection e with e; omega))
          have HKP := Lib.hid hkeep
          clear FA hkeep
          go_region_held3 (fun W : World => W.cell? ⟨b, off + k * 5 + 1, none⟩ = some (.int .i64 cd) ∧ W.cell? ⟨b, off + k * 5 + 2, none⟩ = some (.int .i64 ps) ∧ W.cell? ⟨b, off + k * 5 + 3, none⟩ = some (.int .i64 dr) ∧ W.cell? ⟨b, off + k * 5 + 4, none⟩ = some (.bool rf))
            (first | exact ⟨c1, c2, c3, c4⟩ | exact ⟨(HKP.out _ U.2 _).trans c1, (HKP.out _ U.2 _).trans c2, (HKP.out _ U.2 _).trans c3, (HKP.out _ U.2 _).trans c4⟩)
            (first | (go_at_call 15; refine Calls.mono HF.out ?_; rintro e w' ⟨again, ms, tries', waits', r', d', rfl, R, U⟩))
          have J := Lib.hid (HI.out.drew.fail (by omega) (by omega) HA.out R U)
          have hno := HI.out.hno
          have p1 : w'.cell? ⟨w.heap.size, 0, none⟩ = some (.int .i64 T) := J.out.kp.cell 0
          have jt := J.out.ht
          have jl := J.out.yes_le
          have hR := Lib.hid R
          clear HI HF HKP U R c0 c1 c2 c3 c4 p0 htr hwt
          have d2 : decide (tries' < 1) = false := decide_eq_false (by omega)
          have d3 : decide ((T : Int) < tries') = false := decide_eq_false (by omega)
          cases again with
          | true =>
            obtain ⟨rfl, rfl, rfl, hms, -⟩ := hR.out.yes rfl
            have hn0 : no = false := hno
            subst hn0
            simp only [if_true] at jl
            have d1 : decide (ms < 0) = false := decide_eq_false (by omega)
            have d4 : decide ((T : Int) < yes + 1) = false := decide_eq_false (by omega)
            clear hno hR
            go_wp2_with fail
            go_quiet ((go_at_call 16; exact quiet_left (tries_any g _ _ _ _ _ _ _ _ _ _ _ _ (J.out.kg.drewN _))))
            clear p1
            go_wp2_with fail
            go_roundw
            case rel => exact ⟨k + 1, _, _, tries', waits', r', _, _, by omega, by go_num, rfl, rfl, J.out.drewN _⟩
            case measure => simp [intOf]; omega
          | false =>
            obtain ⟨rfl, rfl, -⟩ := hR.out.no rfl
            simp only [Bool.false_eq_true, if_false] at jl
            have d4 : decide ((T : Int) < yes) = false := decide_eq_false (by omega)
            clear hno hR
            cases no with
            | true =>
              go_wp2_with fail
              go_quiet ((go_at_call 16; exact quiet_left (tries_any g _ _ _ _ _ _ _ _ _ _ _ _ (J.out.kg.drewN _))))
              clear p1
              go_wp2_with fail
              go_roundw
              case rel => exact ⟨k + 1, _, _, tries', waits', r', _, _, by omega, by go_num, rfl, rfl, J.out.drewN _⟩
              case measure => simp [intOf]; omega
            | false =>
              go_wp2_with fail
              go_quiet ((go_at_call 16; exact quiet_left (tries_any g _ _ _ _ _ _ _ _ _ _ _ _ (J.out.kg.drewN _))))
              clear p1
              go_wp2_with fail
              go_roundw
              case rel => exact ⟨k + 1, _, _, tries', waits', r', _, _, by omega, by go_num, rfl, rfl, J.out.drewN _⟩
              case measure => simp [intOf]; omega
      · go_wp2
        go_ret
        exact ⟨rfl, I.hb⟩
end Go.Proofs.YtnmcjdiihebagaaDoor.Pol
