/-
  The walk of the law HedgeOnce: it answers true.
-/
import Derived.Test.YtnmcjdiihebagaaDoorHdgNew2
import Derived.BigQuiet
namespace Go.Proofs.YtnmcjdiihebagaaDoor.Hdg
open Go.RowKit
open Pol (intsV IntsAt codeOk)
def boolsV (ov : List Bool) : Array Value := (ov.map Value.bool).toArray
theorem boolsV_get (ov : List Bool) (i : Nat) (h : i < ov.length) : (boolsV ov)[i]? = some (.bool (ov.getD i false)) := by
  unfold boolsV
  simp [List.getD, List.getElem?_eq_getElem h]
theorem boolsV_set (ov : List Bool) (i : Nat) : (boolsV ov).setIfInBounds i (.bool true) = boolsV (ov.set i true) := by
  unfold boolsV
  rw [List.setIfInBounds_toArray, List.map_set]
def over0 : Array Value := boolsV (List.replicate 8 false)
theorem made_over0 : madeCells (Value.bool false).cells 8 = over0 := by kernel_rfl
/-- where the walk stands -/
structure OW (w0 W : World) (g go : Nat) (T D : Int) (l0 : Value) (A : Option Addr) (xs : List Int) (cs : Array Value) (rv : Value) (run : List Int) (ov : List Bool) : Prop where
  kg : Blk W g 91 cs
  kr : W.ownsRow w0.heap.size 3 1 rv run.length (intsV run)
  ko : Blk W go 4 (boolsV ov)
  kp : Blk W w0.heap.size 63 #[.int .i64 T, .int .i64 D, l0]
  hx : IntsAt W A xs
  hA : ∀ ad, A = some ad → ad.block < W.heap.size ∧ ad.block ≠ g ∧ rv.ownBlock ≠ some ad.block ∧ ad.block ≠ go
  hb : Below w0.heap.size w0 W
  gB : w0.heap.size < g
  oB : w0.heap.size < go
section
variable {w0 W W' : World} {g go : Nat} {T D : Int} {l0 : Value} {A : Option Addr} {xs : List Int} {cs cs' : Array Value} {rv rv' : Value} {run run' : List Int} {ov : List Bool}
theorem OW.ext (h : OW w0 W g go T D l0 A xs cs rv run ov) (hb : Below W.heap.size W W') : OW w0 W' g go T D l0 A xs cs rv run ov :=
  ⟨h.kg.below hb h.kg.lt, (Upd3.of_below hb (fun _ => False)).own h.kr (fun _ _ h => h), h.ko.below hb h.ko.lt, h.kp.below hb h.kp.lt, h.hx.below hb, fun ad e => ⟨Nat.lt_of_lt_of_le (h.hA ad e).1 hb.size, (h.hA ad e).2⟩, h.hb.trans (hb.mono h.hb.size), h.gB, h.oB⟩
theorem OW.told (h : OW w0 W g go T D l0 A xs cs rv run ov) (k : HMid W W' w0.heap.size g rv.ownBlock cs' rv' run') : OW w0 W' g go T D l0 A xs cs' rv' run' ov := by
  have hA := h.hA
  refine ⟨k.kg, k.kr, k.up.blk h.ko ?_, k.up.blk h.kp ?_, hmid_own k h.hx (fun ad e => ⟨(hA ad e).2.1, (hA ad e).2.2.1⟩), fun ad e => ⟨Nat.lt_of_lt_of_le (hA ad e).1 k.up.size, (hA ad e).2.1, fun hf => ?_, (hA ad e).2.2.2⟩, h.hb.trans (k.up.below (B := w0.heap.size) ?_ h.hb.size), h.gB, h.oB⟩
  · rintro (e | e)
    · exact Blk.ne_ h.ko h.kg (by decide) e
    · exact own_blk_ne h.kr h.ko (by decide) e
  · rintro (e | e)
    · exact Blk.ne_ h.kp h.kg (by decide) e
    · exact own_blk_ne h.kr h.kp (by decide) e
  · rcases k.fresh _ hf with h3 | h3
    · exact (hA ad e).2.2.1 h3
    · have := (hA ad e).1; omega
  · intro i hi
    rcases hi with e | e
    · have := h.gB; omega
    · exact (h.kr.lt i e).1
theorem OW.over (h : OW w0 W g go T D l0 A xs cs rv run ov) (i : Nat) : OW w0 (W.setCell ⟨go, i, none⟩ (.bool true)) g go T D l0 A xs cs rv run (ov.set i true) :=
  ⟨h.kg.far (Blk.ne_ h.kg h.ko (by decide)) _, h.kr.kept (only_setCell (World.grownBy.refl W (some go)) (Or.inl rfl) _) (Or.inr (own_blk_ne h.kr h.ko (by decide))), by rw [← boolsV_set]; exact h.ko.set_ i _, h.kp.far (by have := h.oB; show w0.heap.size ≠ go; omega) _,
    h.hx.setCell (p := ⟨go, i, none⟩) (fun ad e => (h.hA ad e).2.2.2) _, fun ad e => ⟨by simpa using (h.hA ad e).1, (h.hA ad e).2⟩, h.hb.setCell (p := ⟨go, i, none⟩) (by have := h.oB; show w0.heap.size ≤ go; omega) _, h.gB, h.oB⟩
end
theorem evs_at2 {w : World} {base : Nat} {t : TypeId} {A : Option Addr} {n c : Nat} {E : List Ev} (h : w.ownsRow base t 4 (.slice A n c) n (evV E)) (hn : E.length = n) : EvsAt w A E := by
  subst hn
  obtain ⟨A', c', e, hE⟩ := evs_of_own h
  injection e with e1 _ _
  subst e1
  exact hE
def l0S : LS := ⟨0, List.replicate 8 false, false, 0⟩
theorem ok_first (T : Int) (hT : 1 ≤ T) : OkEvs T l0S [⟨1, 0, 0, 0⟩] := ⟨⟨rfl, Int.le_refl _, Or.inl ⟨rfl, rfl, by show (0 : Int) < T; omega⟩⟩, trivial⟩
theorem oi_first (T D code : Int) (hT : 1 ≤ T) : OI T ⟨0, 1, decide (1 < T), D, [0], -1, false, code⟩ (l0S.run [⟨1, 0, 0, 0⟩]) := by
  have e : l0S.run [⟨1, 0, 0, 0⟩] = ⟨1, List.replicate 8 false, false, 0⟩ := by rw [LS.run_one]; rfl
  rw [e]
  refine ⟨rfl, ⟨⟨by show (0 : Int) ≤ 1; omega, hT⟩, rfl⟩, fun h => of_decide_eq_true h, by simp, ?_, ?_, rfl, Int.le_refl _, (fun h => by cases h), (fun _ => Or.inl (by simp)), by simp, Int.le_refl _⟩
  · intro x hx
    have : x = 0 := by simpa using hx
    subst this
    exact ⟨Int.le_refl _, by show (0 : Int) < 1; omega, rfl⟩
  · intro i _
    show (List.replicate 8 false).getD i false = false
    show ((List.replicate 8 false)[i]?).getD false = false
    rw [List.getElem?_replicate]
    split <;> rfl
set_option maxRecDepth 100000 in
set_option maxHeartbeats 16000000 in
theorem lonce_any (T D : Int) (xs : List Int) (A : Option Addr) (n c : Nat) (B : Option Addr) (m mc : Nat) (f : Nat → Do5) (hn : xs.length = n) (hcap : n ≤ 9223372036854775807) (hm : m ≤ 9223372036854775807) (h0 : A = none → c = 0) (v : Value) (hie : IsErr v) (w : World) (hx : IntsAt w A xs) (hd : DosAt w B m f) (hv : w.cell? ⟨0, 0, none⟩ = some v) (hg : 0 < w.heap.size) :
    Calls Tryd.prog 8 #[.agg #[.int .i64 T, .int .i64 D, .slice A n c], .slice B m mc] w fun e w' => e = .returned (.bool true) ∧ Below w.heap.size w w' := by
  have hB0 : Below w.heap.size w (w.alloc (.cells #[.int .i64 T, .int .i64 D, .slice A n c] 63)) := (Below.refl _ _).alloc (Nat.le_refl _) _
  have kb0 := Blk.new w 63 #[.int .i64 T, .int .i64 D, .slice A n c]
  have hmk : ∀ W : World, (Instr.makeSlice 43 (.int .i64 8) (.int .i64 8)).run Tryd.prog W = .ok (.slice (some ⟨W.heap.size, 0, none⟩) 8 8) (W.alloc (.cells over0 4)) := by
    obtain ⟨i, hi, hi0, hi1, hi2⟩ := info_parts (P := Tryd.prog) (e := 4) (z := .bool false) (size := 1) (bytes := 1) (by kernel_rfl)
    intro W
    have := run_make_rowN (P := Tryd.prog) 43 4 i (.bool false) Tryd.underlying43 hi hi0 .i64 .i64 8 8 (Nat.le_refl _) (by rw [hi2]; omega) (by omega) W
    rw [hi1, Nat.mul_one, made_over0] at this
    exact this
  go_enter Tryd.func8, Tryd.ntmps8
  go_wp2_with fail
  generalize w.alloc (.cells #[.int .i64 T, .int .i64 D, .slice A n c] 63) = w0 at *
  refine (hfirst_any v w0 ((hB0.cell hg).trans hv) (Nat.lt_of_lt_of_le hg hB0.size)).mono ?_
  rintro e w1 ⟨rfl, hb1⟩
  have hB1 : Below w.heap.size w w1 := hB0.trans (hb1.mono hB0.size)
  have kb1 := kb0.below hb1 kb0.lt
  have o0 : w1.cell? ⟨w.heap.size, 0, none⟩ = some (.int .i64 T) := kb1.cell 0
  have o1 : w1.cell? ⟨w.heap.size, 1, none⟩ = some (.int .i64 D) := kb1.cell 1
  have o2 : w1.cell? ⟨w.heap.size, 2, none⟩ = some (.slice A n c) := kb1.cell 2
  have HB1 := Lib.hid hB1
  have HK1 := Lib.hid kb1
  have HD := Lib.hid hd
  have NR := Lib.hid (near_any B m mc f hm w1 (hd.below hB1))
  clear hb1 kb0 hB0 hB1 kb1 hd
  go_wp2_with fail
  refine NR.out.mono ?_
  rintro e w1' ⟨nb, rfl, hnb, rfl⟩
  clear NR
  cases nb with
  | false =>
    go_wp2_with fail
    go_ret
    exact ⟨rfl, HB1.out⟩
  | true =>
  have hnr := hnb rfl
  have HNR := Lib.hid hnr
  have hm100 := hnr.1
  clear hnb hnr
  by_cases h50 : 50 < n
  · go_wp2_with fail
    go_ret
    exact ⟨rfl, HB1.out⟩
  go_wp2_with fail
  refine (hmade_any T D A n c w1).mono ?_
  rintro e w2 ⟨rfl, hb2⟩
  have hB2 : Below w.heap.size w w2 := HB1.out.trans (hb2.mono HB1.out.size)
  have kb2 := HK1.out.below hb2 HK1.out.lt
  have HB2 := Lib.hid hB2
  have HK2 := Lib.hid kb2
  clear o0 o1 o2 hb2 HB1 HK1 hB2 kb2
  cases hok : hOk T D xs with
  | false =>
    have N := hnew_no T D xs A n c hn (by omega) none v hie w2 (hx.below HB2.out) hok ((HB2.out.cell hg).trans hv) (Nat.lt_of_lt_of_le hg HB2.out.size)
    have HN := Lib.hid N
    obtain ⟨t, u, rfl⟩ := hie
    clear N
    go_wp2_with fail
    refine HN.out.mono ?_
    rintro e w3 ⟨rfl, hb3⟩
    go_wp2_with fail
    go_ret
    exact ⟨rfl, HB2.out.trans (hb3.mono HB2.out.size)⟩
  | true =>
  have hnum : hnums T D := by
    unfold hOk at hok
    rw [Bool.and_eq_true] at hok
    exact of_decide_eq_true hok.1
  obtain ⟨t1, t2, q1, q2⟩ := hnum
  have N := hnew_ok2 T D xs A n c hn (by omega) h0 none v w2 (hx.below HB2.out) hok ((HB2.out.cell hg).trans hv) (Nat.lt_of_lt_of_le hg HB2.out.size)
  have HN := Lib.hid N
  clear N hok hx hv
  go_wp2_with fail
  refine HN.out.mono ?_
  rintro e w3 ⟨g, A', c', rv, b, rfl, hgg, hx3, hA', kg, kr, he3, hb3⟩
  have hgw : w.heap.size < g := Nat.lt_of_lt_of_le HK2.out.lt hgg
  have hM3 := HMid.start kg (own_base kr HB2.out.size) (Nat.le_trans HB2.out.size hb3.size)
  have kp3 := HK2.out.below hb3 HK2.out.lt
  have hB3 := HB2.out.trans (hb3.mono HB2.out.size)
  have hs3 : w2.heap.size ≤ w3.heap.size := hb3.size
  have HE3 := Lib.hid (own_base he3 HB2.out.size)
  have HA3 := Lib.hid hA'
  have HX3 := Lib.hid hx3
  have HM3 := Lib.hid hM3
  have HK3 := Lib.hid kp3
  have HB3 := Lib.hid hB3
  clear hx3 hA' kg kr he3 hb3 HN hM3 kp3 hB3 HK2 HB2 hgg
  go_wp2_with fail
  have kov : Blk (w3.alloc (.cells over0 4)) w3.heap.size 4 over0 := Blk.new _ _ _
  have O0 : OW w (w3.alloc (.cells over0 4)) g w3.heap.size T D (.slice A n c) A' xs ((⟨0, 1, decide (1 < T), D, [0], -1, false, 0⟩ : HS).cells g T D (.slice A' n c') rv) rv [0] l0S.ov := by
    have hba : Below w3.heap.size w3 (w3.alloc (.cells over0 4)) := (Below.refl _ _).alloc (Nat.le_refl _) _
    exact ⟨HM3.out.kg.alloc _, HM3.out.kr.alloc _, kov, HK3.out.alloc _, HX3.out.below hba, fun ad e => ⟨by have := (HA3.out ad e).2.2.2; simp; omega, (HA3.out ad e).2.1, (HA3.out ad e).2.2.1, by have := (HA3.out ad e).2.2.2; omega⟩, HB3.out.trans (hba.mono HB3.out.size), hgw, by have := HM3.out.kg.lt; omega⟩
  have HO0 := Lib.hid O0
  have HE0 := Lib.hid (HE3.out.alloc (.cells over0 4))
  clear O0 kov HE3 HA3 HX3 HM3 HK3 HB3
  generalize w3.alloc (.cells over0 4) = w4 at *
  generalize w3.heap.size = go at *
  go_loopw [7, 9, 11, 12, 13] (fun a st en at_ i wr => ∃ (s : HS) (l : LS) (rv : Value), st = .int .i64 l.st ∧ en = .bool l.en ∧ at_ = .int .i64 l.at_ ∧ OW w wr g go T D (.slice A n c) A' xs (s.cells g T D (.slice A' n c') rv) rv s.run l.ov ∧ s.now ≤ 1125899906842624 ∧
      ((i = .int .i64 (-1) ∧ l = l0S ∧ s = (⟨0, 1, decide (1 < T), D, [0], -1, false, 0⟩ : HS) ∧ a = .slice (some ⟨b, 0, none⟩) 1 1 ∧ wr.ownsRow w.heap.size 56 4 (.slice (some ⟨b, 0, none⟩) 1 1) 1 (evV [⟨1, 0, 0, 0⟩])) ∨ (∃ k : Nat, k ≤ m ∧ i = .int .i64 (k : Int) ∧ OI T s l))) (fun _ _ _ _ i _ => m + 1 - (intOf i + 1).toNat)
  case atStart => exact ⟨(⟨0, 1, decide (1 < T), D, [0], -1, false, 0⟩ : HS), l0S, rv, rfl, rfl, rfl, HO0.out, by show (0 : Int) ≤ 1125899906842624; omega, Or.inl ⟨rfl, rfl, rfl, rfl, HE0.out⟩⟩
  case round =>
    obtain ⟨s, l, rv, rfl, rfl, rfl, O, hnw, hcase⟩ := hrel
    clear HO0 HE0
    obtain ⟨wo, rfl⟩ : ∃ wo : World, wo = wr := ⟨_, rfl⟩
    rcases hcase with ⟨rfl, hl, hs, rfl, he⟩ | ⟨k, hk, rfl, hoi⟩
    · obtain ⟨E, hEe⟩ : ∃ E : List Ev, E = [⟨1, 0, 0, 0⟩] := ⟨_, rfl⟩
      obtain ⟨ne, hne⟩ : ∃ ne : Nat, ne = 1 := ⟨_, rfl⟩
      obtain ⟨AE, hAE⟩ : ∃ AE : Option Addr, AE = some ⟨b, 0, none⟩ := ⟨_, rfl⟩
      obtain ⟨cE, hcE⟩ : ∃ cE : Nat, cE = 1 := ⟨_, rfl⟩
      have hsl : Value.slice (some ⟨b, 0, none⟩) 1 1 = Value.slice AE ne cE := by rw [hAE, hne, hcE]
      have HO5 := Lib.hid (show wo.ownsRow w.heap.size 56 4 (.slice AE ne cE) ne (evV E) by rw [hEe, hAE, hne, hcE]; exact he)
      have HOK := Lib.hid (show OkEvs T l E by rw [hl, hEe]; exact ok_first T t1)
      have HOI := Lib.hid (show OI T s (l.run E) by rw [hs, hl, hEe]; exact oi_first T D 0 t1)
      have HLB := Lib.hid (show LB T l by rw [hl]; exact ⟨⟨by show (0 : Int) ≤ 0; omega, by show (0 : Int) ≤ T; omega⟩, rfl⟩)
      have HEN := Lib.hid (show E.length = ne by rw [hEe, hne]; rfl)
      have hne20 : ne ≤ 20 := by omega
      have dm : decide ((-1 : Int) < (m : Int)) = true := decide_eq_true (by omega)
      obtain ⟨s2, hs2⟩ : ∃ z : HS, z = s := ⟨_, rfl⟩
      obtain ⟨rv2, hrv2⟩ : ∃ z : Value, z = rv := ⟨_, rfl⟩
      rw [← hs2, ← hrv2] at O
      rw [← hs2] at HOI hnw
      have O5 := Lib.hid O
      have HNW := Lib.hid hnw
      rw [hsl]
      clear O hnw hs2 hrv2 hl hs he hEe hne hAE hcE hsl
      go_wp2_with fail
      go_loopw [9, 11, 12, 14] (fun st en at_ kk wr => ∃ p : Nat, p ≤ ne ∧ kk = .int .i64 (p : Int) ∧ st = .int .i64 (l.run (E.take p)).st ∧ en = .bool (l.run (E.take p)).en ∧ at_ = .int .i64 (l.run (E.take p)).at_ ∧ OW w wr g go T D (.slice A n c) A' xs (s2.cells g T D (.slice A' n c') rv2) rv2 s2.run (l.run (E.take p)).ov ∧ wr.ownsRow w.heap.size 56 4 (.slice AE ne cE) ne (evV E)) (fun _ _ _ kk _ => ne - (intOf kk).toNat)
      case atStart => exact ⟨0, Nat.zero_le _, rfl, rfl, rfl, rfl, O5.out, HO5.out⟩
      case round =>
        obtain ⟨p, hp, rfl, rfl, rfl, rfl, O, ho⟩ := hrel
        clear O5 HO5
        obtain ⟨wi, rfl⟩ : ∃ wi : World, wi = wr := ⟨_, rfl⟩
        by_cases hlt2 : p < ne
        · obtain ⟨b6, off6, x, rfl, hb6, hxe, c0, c1, c2, c3⟩ := (evs_at2 ho HEN.out) p (by rw [HEN.out]; exact hlt2)
          obtain ⟨hok, hstp⟩ := OkEvs.at_ p x HOK.out hxe
          have lb := OkEvs.lb p HOK.out HLB.out
          obtain ⟨lp, hlp⟩ : ∃ z, l.run (E.take p) = z := ⟨_, rfl⟩
          rw [hlp] at O hok hstp lb
          rw [hlp]
          obtain ⟨st, ov, en, at_⟩ := lp
          obtain ⟨xk, xt, xc, xa⟩ := x
          obtain ⟨he, hat, hk⟩ := hok
          have lst := lb.st
          have lov := lb.ov
          simp only at he hat hk c0 c1 c2 c3 lst lov
          subst he
          have da : decide (xa < at_) = false := decide_eq_false (by omega)
          have k0 : wi.cell? ⟨w.heap.size, 0, none⟩ = some (.int .i64 T) := O.kp.cell 0
          have hgl := O.ko.lt
          have hpl := O.kp.lt
          have O2 := Lib.hid (O.ext ((Below.refl _ _).alloc (Nat.le_refl _) (.cells #[.int .i64 xk, .int .i64 xt, .int .i64 xc, .int .i64 xa] 56)))
          have HO2 := Lib.hid (ho.alloc (.cells #[.int .i64 xk, .int .i64 xt, .int .i64 xc, .int .i64 xa] 56))
          have HST := Lib.hid hstp
          have HKO := Lib.hid O.ko
          have HOr := Lib.hid O
          have HOe := Lib.hid ho
          clear hxe hlp hat hstp lb O ho
          rcases hk with ⟨rfl, rfl, hk1⟩ | ⟨rfl, hk0, hk1, hov⟩ | ⟨rfl, hk0, hk1, hov⟩
          · as_aux_lemma =>
              have dT : decide (T ≤ xt) = false := decide_eq_false (by omega)
              have hs1 : l.run (E.take (p + 1)) = ⟨xt + 1, ov, false, xa⟩ := by rw [HST.out]; simp [LS.step]
              have HS1 := Lib.hid hs1
              clear hs1
              clear HST HKO HOr HOe
              go_wp2_with fail
              go_roundw
              case rel => exact ⟨p + 1, by omega, by go_num, by rw [HS1.out], by rw [HS1.out], by rw [HS1.out], by rw [HS1.out]; exact O2.out, HO2.out⟩
              case measure => simp [intOf] <;> omega
          · as_aux_lemma =>
              obtain ⟨tn, rfl⟩ : ∃ tn : Nat, xt = (tn : Int) := ⟨xt.toNat, by omega⟩
              rw [Int.toNat_natCast] at hov
              have htn : tn < 8 := by omega
              have dS : decide (st ≤ (tn : Int)) = false := decide_eq_false (by omega)
              have d0 : decide ((tn : Int) < 0) = false := decide_eq_false (by omega)
              have v0 : wi.cell? ⟨go, tn, none⟩ = some (.bool false) := by rw [HKO.out.cell tn, boolsV_get ov tn (by omega), hov]
              have f0 : wi.frozen? ⟨go, tn, none⟩ = false := HKO.out.frozen tn
              have hs1 : l.run (E.take (p + 1)) = ⟨st, ov.set tn true, false, xa⟩ := by rw [HST.out]; simp [LS.step]
              have HS1 := Lib.hid hs1
              clear hs1
              have O3 := Lib.hid ((HOr.out.over tn).ext ((Below.refl _ _).alloc (Nat.le_refl _) (.cells #[.int .i64 2, .int .i64 (tn : Int), .int .i64 xc, .int .i64 xa] 56)))
              have HO3 := Lib.hid ((HOe.out.kept (only_setCell (p := ⟨go, tn, none⟩) (World.grownBy.refl wi (some go)) (Or.inl rfl) (.bool true)) (Or.inr (own_blk_ne HOe.out HOr.out.ko (by decide)))).alloc (.cells #[.int .i64 2, .int .i64 (tn : Int), .int .i64 xc, .int .i64 xa] 56))
              clear HST HKO hov O2 HO2 HOr HOe
              go_wp2_with fail
              go_roundw
              case rel => exact ⟨p + 1, by omega, by go_num, by rw [HS1.out], by rw [HS1.out], by rw [HS1.out], by rw [HS1.out]; exact O3.out, HO3.out⟩
              case measure => simp [intOf] <;> omega
          · as_aux_lemma =>
              have dM : decide (xt < -1) = false := decide_eq_false (by omega)
              have dS : decide (st ≤ xt) = false := decide_eq_false (by omega)
              have hs1 : l.run (E.take (p + 1)) = ⟨st, ov, true, xa⟩ := by rw [HST.out]; simp [LS.step]
              have HS1 := Lib.hid hs1
              clear hs1
              by_cases h00 : 0 ≤ xt
              · have hov := hov h00
                obtain ⟨tn, rfl⟩ : ∃ tn : Nat, xt = (tn : Int) := ⟨xt.toNat, by omega⟩
                rw [Int.toNat_natCast] at hov
                have htn : tn < 8 := by omega
                have v0 : wi.cell? ⟨go, tn, none⟩ = some (.bool false) := by rw [HKO.out.cell tn, boolsV_get ov tn (by omega), hov]
                have d0 : decide (0 ≤ (tn : Int)) = true := decide_eq_true h00
                clear HST HKO hov h00 HOr HOe
                go_wp2_with fail
                go_roundw
                case rel => exact ⟨p + 1, by omega, by go_num, by rw [HS1.out], by rw [HS1.out], by rw [HS1.out], by rw [HS1.out]; exact O2.out, HO2.out⟩
                case measure => simp [intOf] <;> omega
              · have d0 : decide (0 ≤ xt) = false := decide_eq_false h00
                clear HST HKO hov h00 HOr HOe
                go_wp2_with fail
                go_roundw
                case rel => exact ⟨p + 1, by omega, by go_num, by rw [HS1.out], by rw [HS1.out], by rw [HS1.out], by rw [HS1.out]; exact O2.out, HO2.out⟩
                case measure => simp [intOf] <;> omega
        · have hpe : E.take p = E := List.take_of_length_le (by rw [HEN.out]; omega)
          rw [hpe] at O
          rw [hpe]
          obtain ⟨l2, hl2⟩ : ∃ z, l.run E = z := ⟨_, rfl⟩
          have hoi := HOI.out
          rw [hl2] at O hoi
          rw [hl2]
          have hrl := hoi.rl
          have hlst := hoi.lb.st
          have hls := hoi.st
          obtain ⟨st2, ov2, en2, at2⟩ := l2
          have RN := Lib.hid (running_any w.heap.size g _ _ _ _ _ _ _ _ rv2 s2.run _ _ _ wi O.kg O.kr (by simp only at hlst hls; omega))
          have HO := Lib.hid O
          have HOI2 := Lib.hid hoi
          clear O ho hoi hpe hl2 HOK HLB HEN HOI
          simp only at hlst hls
          have HLS := Lib.hid hls
          clear hls
          go_wp2_with fail
          refine RN.out.mono ?_
          rintro e w7 ⟨v7, rfl, ho7, hb7⟩
          obtain ⟨A7, c7, rfl, hx7⟩ := Pol.own_ints rfl ho7
          have O7 := Lib.hid (HO.out.ext hb7)
          have HX7 := Lib.hid hx7
          obtain ⟨rl, hrle⟩ : ∃ r : List Int, s2.run = r := ⟨_, rfl⟩
          rw [hrle] at HX7 hrl
          rw [hrle]
          have hrl5 : rl.length ≤ 5 := by have := HLS.out; omega
          have HRL := Lib.hid hrle
          clear ho7 hb7 hx7 RN HO hrle
          go_wp2_with fail
          go_loopw [17] (fun kk wr => ∃ p q : Nat, p ≤ rl.length ∧ kk = .int .i64 (p : Int) ∧ wr = w7.drewN q) (fun kk _ => rl.length - (intOf kk).toNat)
          case atStart => exact ⟨0, 0, Nat.zero_le _, rfl, rfl⟩
          case round =>
            obtain ⟨p, q, hp, rfl, rfl⟩ := hrel
            by_cases hlt3 : p < rl.length
            · obtain ⟨b7, off7, rfl, hb7, hc⟩ := HX7.out p hlt3
              have hmem : rl.getD p 0 ∈ s2.run := by rw [HRL.out]; simp [List.getD, List.getElem?_eq_getElem hlt3]
              obtain ⟨hx0, hx1, hx2⟩ := HOI2.out.low _ hmem
              have hov8 := HOI2.out.lb.ov
              simp only at hx2 hov8
              have hpw : ∀ p', p = p' + 1 → w7.cell? ⟨b7, off7 + p', none⟩ = some (.int .i64 (rl.getD p' 0)) ∧ rl.getD p' 0 < rl.getD p 0 := by
                intro p' e
                obtain ⟨b8, off8, e8, _, hc8⟩ := HX7.out p' (by omega)
                injection e8 with e8
                injection e8 with e8a e8b _
                subst e8a e8b
                refine ⟨hc8, ?_⟩
                have hinc := HOI2.out.inc
                rw [HRL.out, List.pairwise_iff_getElem] at hinc
                have := hinc p' p (by omega) hlt3 (by omega)
                simpa [List.getD, List.getElem?_eq_getElem hlt3, List.getElem?_eq_getElem (show p' < rl.length by omega)] using this
              obtain ⟨x, hx⟩ : ∃ x, rl.getD p 0 = x := ⟨_, rfl⟩
              rw [hx] at hc hx0 hx1 hx2 hpw
              obtain ⟨xn, rfl⟩ : ∃ xn : Nat, x = (xn : Int) := ⟨x.toNat, by omega⟩
              rw [Int.toNat_natCast] at hx2
              have hxn : xn < 8 := by have := HLS.out; omega
              have v0 : w7.cell? ⟨go, xn, none⟩ = some (.bool false) := by rw [O7.out.ko.cell xn, boolsV_get ov2 xn (by omega), hx2]
              have d0 : decide ((xn : Int) < 0) = false := decide_eq_false (by omega)
              have d1 : decide (st2 ≤ (xn : Int)) = false := decide_eq_false (by have := HLS.out; omega)
              have HPW := Lib.hid hpw
              clear hmem hx0 hx2 hov8 hx hpw
              cases p with
              | zero =>
                as_aux_lemma =>
                  rw [Nat.add_zero] at hc
                  clear HPW
                  go_wp2_with fail
                  go_quiet (fail)
                  go_wp2_with fail
                  go_roundw
                  case rel => exact ⟨1, q + nq, by omega, by go_num, rfl⟩
                  case measure => simp [intOf] <;> omega
              | succ p' =>
                as_aux_lemma =>
                  obtain ⟨hc8, hlt8⟩ := HPW.out p' rfl
                  obtain ⟨y, hy⟩ : ∃ y, rl.getD p' 0 = y := ⟨_, rfl⟩
                  rw [hy] at hc8 hlt8
                  have d2 : decide ((xn : Int) ≤ y) = false := decide_eq_false (by omega)
                  clear hy HPW hlt8
                  have hxi : (xn : Int) < 8 := by omega
                  obtain ⟨p, hpp⟩ : ∃ p : Nat, p' + 1 = p := ⟨_, rfl⟩
                  rw [hpp] at hc hp hlt3 ⊢
                  have hsub : (p : Int) - 1 = (p' : Int) := by omega
                  have hp1 : p' < rl.length := by omega
                  have hwp : IntKind.i64.wrap (p' : Int) = (p' : Int) := IntWalk.i64_in _ (by have := HLS.out; omega)
                  have d3 : decide (0 < (p : Int)) = true := decide_eq_true (by omega)
                  have hp0 : 0 < p := by omega
                  have d5 : decide (0 < p) = true := decide_eq_true hp0
                  have d4 : decide ((p : Int) < (rl.length : Int)) = true := decide_eq_true (by omega)
                  have HL3 := Lib.hid hlt3
                  clear hpp
                  go_wp2_with fail
                  go_quiet (fail)
                  go_wp2_with fail
                  go_roundw
                  case rel => exact ⟨p + 1, q + nq, by have := HL3.out; omega, by go_num, rfl⟩
                  case measure => have := HL3.out; simp [intOf] <;> omega
            · as_aux_lemma =>
                have O8 := Lib.hid (O7.out.ext (below_drewN (Below.refl _ _) q))
                have hen := HOI2.out.en
                have hdn := HOI2.out.dn
                have hal := HOI2.out.al
                rw [HRL.out] at hdn hal
                simp only at hen
                generalize w7.drewN q = w8 at *
                have DN := Lib.hid (done_any g _ _ _ _ _ _ _ _ _ _ _ _ w8 O8.out.kg)
                obtain ⟨nw2, st3, nx2, due2, run2, ans2, dn2, code2⟩ := s2
                simp only at hen hdn hal hrl
                subst hen
                have HDN := Lib.hid hdn
                have HAL := Lib.hid hal
                clear hdn hal O7 HX7 HRL
                go_wp2_with fail
                refine DN.out.mono ?_
                rintro e w9 ⟨rfl, q9, rfl⟩
                have O9 := Lib.hid (O8.out.ext (below_drewN (Below.refl _ _) q9))
                clear DN O8
                generalize w8.drewN q9 = w9 at *
                have NX := Lib.hid (next_any g _ _ _ _ _ _ nx2 _ _ _ _ _ w9 O9.out.kg)
                go_wp2_with fail
                refine NX.out.mono ?_
                rintro e w10 ⟨rfl, rfl⟩
                clear NX
                cases en2 with
                | true =>
                  obtain ⟨hr0, hn0⟩ := HDN.out rfl
                  have hl0 : rl.length = 0 := by rw [hr0]; rfl
                  rw [hl0]
                  subst hn0
                  clear HDN HAL
                  go_wp2_with fail
                  go_roundw
                  case rel => exact ⟨_, _, _, rfl, rfl, rfl, O9.out, by have := HNW.out; exact this, Or.inr ⟨0, by omega, by go_num, HOI2.out⟩⟩
                  case measure => simp [intOf] <;> omega
                | false =>
                  cases nx2 with
                  | true =>
                    by_cases hz : rl.length = 0
                    · have hzb : ((rl.length : Int) == 0) = true := by simp [hz]
                      clear hz
                      go_wp2_with fail
                      go_roundw
                      case rel => exact ⟨_, _, _, rfl, rfl, rfl, O9.out, by have := HNW.out; exact this, Or.inr ⟨0, by omega, by go_num, HOI2.out⟩⟩
                      case measure => simp [intOf] <;> omega
                    · have hzb : ((rl.length : Int) == 0) = false := by simp [hz]
                      clear hz
                      go_wp2_with fail
                      go_roundw
                      case rel => exact ⟨_, _, _, rfl, rfl, rfl, O9.out, by have := HNW.out; exact this, Or.inr ⟨0, by omega, by go_num, HOI2.out⟩⟩
                      case measure => simp [intOf] <;> omega
                  | false =>
                    have hz : rl.length ≠ 0 := by
                      rcases HAL.out rfl with h | h
                      · intro e; exact h (List.eq_nil_of_length_eq_zero e)
                      · cases h
                    have hzb : ((rl.length : Int) == 0) = false := by simp [hz]
                    clear hz
                    go_wp2_with fail
                    go_roundw
                    case rel => exact ⟨_, _, _, rfl, rfl, rfl, O9.out, by have := HNW.out; exact this, Or.inr ⟨0, by omega, by go_num, HOI2.out⟩⟩
                    case measure => simp [intOf] <;> omega
  
    · by_cases hlt : k < m
      · obtain ⟨b0, off, rfl, hb0, e0, e1, e2, e3, e4⟩ := (HD.out.below O.hb) k hlt
        have hbk : b0 < wo.heap.size := hb0
        have hnr := HNR.out.2 k hlt
        have hls := hoi.st
        have hlb := hoi.lb
        have hlbs := hlb.st
        have TA := told_any w.heap.size g T D A' n c' xs s rv (f k) wo O.kg O.kr O.hb.size (by have := hoi.rl; omega) (by omega) t2 hoi.nxs ⟨q1, q2⟩ ⟨hoi.nw, hnw⟩ hnr.1 hnr.2 hn (by omega) O.hx (fun ad e => ⟨(O.hA ad e).2.1, (O.hA ad e).2.2.1⟩)
        have HTA := Lib.hid TA
        have HO := Lib.hid O
        have HOIx := Lib.hid hoi
        obtain ⟨⟨dk, dt, dc, dp, dn⟩, hfk⟩ : ∃ z, f k = z := ⟨_, rfl⟩
        rw [hfk] at e0 e1 e2 e3 e4 hnr HTA
        simp only at e0 e1 e2 e3 e4 hnr
        clear TA O hoi hfk hls hlbs
        go_wp2_with fail
        refine HTA.out.mono ?_
        rintro e w5 ⟨s2, E, rv2, v5, rfl, htold, ho5, hM5⟩
        obtain ⟨hokE, hoi2, hE20⟩ := htold.ok HOIx.out (by omega) t2
        obtain ⟨AE, cE, rfl, _⟩ := evs_of_own ho5
        obtain ⟨ne, hne⟩ : ∃ ne : Nat, E.length = ne := ⟨_, rfl⟩
        rw [hne] at ho5
        rw [hne]
        have hnw2 : s2.now ≤ 1125899906842624 := by
          have hn1 := hnr.1
          cases htold <;> (show max s.now dn ≤ 1125899906842624; omega)
        have HO5 := Lib.hid (own_base ho5 HO.out.hb.size)
        have HOK := Lib.hid hokE
        have HOI := Lib.hid hoi2
        have HLB := Lib.hid hlb
        have HEN := Lib.hid hne
        have hne20 : ne ≤ 20 := by omega
        have O5 := Lib.hid (HO.out.told hM5)
        have HNW := Lib.hid hnw2
        clear htold ho5 hM5 hokE hoi2 hlb hne hE20 HTA HO HOIx e0 e1 e2 e3 e4 hnr hnw hnw2 hb0 hbk
        go_wp2_with fail
        go_loopw [9, 11, 12, 14] (fun st en at_ kk wr => ∃ p : Nat, p ≤ ne ∧ kk = .int .i64 (p : Int) ∧ st = .int .i64 (l.run (E.take p)).st ∧ en = .bool (l.run (E.take p)).en ∧ at_ = .int .i64 (l.run (E.take p)).at_ ∧ OW w wr g go T D (.slice A n c) A' xs (s2.cells g T D (.slice A' n c') rv2) rv2 s2.run (l.run (E.take p)).ov ∧ wr.ownsRow w.heap.size 56 4 (.slice AE ne cE) ne (evV E)) (fun _ _ _ kk _ => ne - (intOf kk).toNat)
        case atStart => exact ⟨0, Nat.zero_le _, rfl, rfl, rfl, rfl, O5.out, HO5.out⟩
        case round =>
          obtain ⟨p, hp, rfl, rfl, rfl, rfl, O, ho⟩ := hrel
          clear O5 HO5
          obtain ⟨wi, rfl⟩ : ∃ wi : World, wi = wr := ⟨_, rfl⟩
          by_cases hlt2 : p < ne
          · obtain ⟨b6, off6, x, rfl, hb6, hxe, c0, c1, c2, c3⟩ := (evs_at2 ho HEN.out) p (by rw [HEN.out]; exact hlt2)
            obtain ⟨hok, hstp⟩ := OkEvs.at_ p x HOK.out hxe
            have lb := OkEvs.lb p HOK.out HLB.out
            obtain ⟨lp, hlp⟩ : ∃ z, l.run (E.take p) = z := ⟨_, rfl⟩
            rw [hlp] at O hok hstp lb
            rw [hlp]
            obtain ⟨st, ov, en, at_⟩ := lp
            obtain ⟨xk, xt, xc, xa⟩ := x
            obtain ⟨he, hat, hk⟩ := hok
            have lst := lb.st
            have lov := lb.ov
            simp only at he hat hk c0 c1 c2 c3 lst lov
            subst he
            have da : decide (xa < at_) = false := decide_eq_false (by omega)
            have k0 : wi.cell? ⟨w.heap.size, 0, none⟩ = some (.int .i64 T) := O.kp.cell 0
            have hgl := O.ko.lt
            have hpl := O.kp.lt
            have O2 := Lib.hid (O.ext ((Below.refl _ _).alloc (Nat.le_refl _) (.cells #[.int .i64 xk, .int .i64 xt, .int .i64 xc, .int .i64 xa] 56)))
            have HO2 := Lib.hid (ho.alloc (.cells #[.int .i64 xk, .int .i64 xt, .int .i64 xc, .int .i64 xa] 56))
            have HST := Lib.hid hstp
            have HKO := Lib.hid O.ko
            have HOr := Lib.hid O
            have HOe := Lib.hid ho
            clear hxe hlp hat hstp lb O ho
            rcases hk with ⟨rfl, rfl, hk1⟩ | ⟨rfl, hk0, hk1, hov⟩ | ⟨rfl, hk0, hk1, hov⟩
            · as_aux_lemma =>
                have dT : decide (T ≤ xt) = false := decide_eq_false (by omega)
                have hs1 : l.run (E.take (p + 1)) = ⟨xt + 1, ov, false, xa⟩ := by rw [HST.out]; simp [LS.step]
                have HS1 := Lib.hid hs1
                clear hs1
                clear HST HKO HOr HOe
                go_wp2_with fail
                go_roundw
                case rel => exact ⟨p + 1, by omega, by go_num, by rw [HS1.out], by rw [HS1.out], by rw [HS1.out], by rw [HS1.out]; exact O2.out, HO2.out⟩
                case measure => simp [intOf] <;> omega
            · as_aux_lemma =>
                obtain ⟨tn, rfl⟩ : ∃ tn : Nat, xt = (tn : Int) := ⟨xt.toNat, by omega⟩
                rw [Int.toNat_natCast] at hov
                have htn : tn < 8 := by omega
                have dS : decide (st ≤ (tn : Int)) = false := decide_eq_false (by omega)
                have d0 : decide ((tn : Int) < 0) = false := decide_eq_false (by omega)
                have v0 : wi.cell? ⟨go, tn, none⟩ = some (.bool false) := by rw [HKO.out.cell tn, boolsV_get ov tn (by omega), hov]
                have f0 : wi.frozen? ⟨go, tn, none⟩ = false := HKO.out.frozen tn
                have hs1 : l.run (E.take (p + 1)) = ⟨st, ov.set tn true, false, xa⟩ := by rw [HST.out]; simp [LS.step]
                have HS1 := Lib.hid hs1
                clear hs1
                have O3 := Lib.hid ((HOr.out.over tn).ext ((Below.refl _ _).alloc (Nat.le_refl _) (.cells #[.int .i64 2, .int .i64 (tn : Int), .int .i64 xc, .int .i64 xa] 56)))
                have HO3 := Lib.hid ((HOe.out.kept (only_setCell (p := ⟨go, tn, none⟩) (World.grownBy.refl wi (some go)) (Or.inl rfl) (.bool true)) (Or.inr (own_blk_ne HOe.out HOr.out.ko (by decide)))).alloc (.cells #[.int .i64 2, .int .i64 (tn : Int), .int .i64 xc, .int .i64 xa] 56))
                clear HST HKO hov O2 HO2 HOr HOe
                go_wp2_with fail
                go_roundw
                case rel => exact ⟨p + 1, by omega, by go_num, by rw [HS1.out], by rw [HS1.out], by rw [HS1.out], by rw [HS1.out]; exact O3.out, HO3.out⟩
                case measure => simp [intOf] <;> omega
            · as_aux_lemma =>
                have dM : decide (xt < -1) = false := decide_eq_false (by omega)
                have dS : decide (st ≤ xt) = false := decide_eq_false (by omega)
                have hs1 : l.run (E.take (p + 1)) = ⟨st, ov, true, xa⟩ := by rw [HST.out]; simp [LS.step]
                have HS1 := Lib.hid hs1
                clear hs1
                by_cases h00 : 0 ≤ xt
                · have hov := hov h00
                  obtain ⟨tn, rfl⟩ : ∃ tn : Nat, xt = (tn : Int) := ⟨xt.toNat, by omega⟩
                  rw [Int.toNat_natCast] at hov
                  have htn : tn < 8 := by omega
                  have v0 : wi.cell? ⟨go, tn, none⟩ = some (.bool false) := by rw [HKO.out.cell tn, boolsV_get ov tn (by omega), hov]
                  have d0 : decide (0 ≤ (tn : Int)) = true := decide_eq_true h00
                  clear HST HKO hov h00 HOr HOe
                  go_wp2_with fail
                  go_roundw
                  case rel => exact ⟨p + 1, by omega, by go_num, by rw [HS1.out], by rw [HS1.out], by rw [HS1.out], by rw [HS1.out]; exact O2.out, HO2.out⟩
                  case measure => simp [intOf] <;> omega
                · have d0 : decide (0 ≤ xt) = false := decide_eq_false h00
                  clear HST HKO hov h00 HOr HOe
                  go_wp2_with fail
                  go_roundw
                  case rel => exact ⟨p + 1, by omega, by go_num, by rw [HS1.out], by rw [HS1.out], by rw [HS1.out], by rw [HS1.out]; exact O2.out, HO2.out⟩
                  case measure => simp [intOf] <;> omega
          · have hpe : E.take p = E := List.take_of_length_le (by rw [HEN.out]; omega)
            rw [hpe] at O
            rw [hpe]
            obtain ⟨l2, hl2⟩ : ∃ z, l.run E = z := ⟨_, rfl⟩
            have hoi := HOI.out
            rw [hl2] at O hoi
            rw [hl2]
            have hrl := hoi.rl
            have hlst := hoi.lb.st
            have hls := hoi.st
            obtain ⟨st2, ov2, en2, at2⟩ := l2
            have RN := Lib.hid (running_any w.heap.size g _ _ _ _ _ _ _ _ rv2 s2.run _ _ _ wi O.kg O.kr (by simp only at hlst hls; omega))
            have HO := Lib.hid O
            have HOI2 := Lib.hid hoi
            clear O ho hoi hpe hl2 HOK HLB HEN HOI
            simp only at hlst hls
            have HLS := Lib.hid hls
            clear hls
            go_wp2_with fail
            refine RN.out.mono ?_
            rintro e w7 ⟨v7, rfl, ho7, hb7⟩
            obtain ⟨A7, c7, rfl, hx7⟩ := Pol.own_ints rfl ho7
            have O7 := Lib.hid (HO.out.ext hb7)
            have HX7 := Lib.hid hx7
            obtain ⟨rl, hrle⟩ : ∃ r : List Int, s2.run = r := ⟨_, rfl⟩
            rw [hrle] at HX7 hrl
            rw [hrle]
            have hrl5 : rl.length ≤ 5 := by have := HLS.out; omega
            have HRL := Lib.hid hrle
            clear ho7 hb7 hx7 RN HO hrle
            go_wp2_with fail
            go_loopw [17] (fun kk wr => ∃ p q : Nat, p ≤ rl.length ∧ kk = .int .i64 (p : Int) ∧ wr = w7.drewN q) (fun kk _ => rl.length - (intOf kk).toNat)
            case atStart => exact ⟨0, 0, Nat.zero_le _, rfl, rfl⟩
            case round =>
              obtain ⟨p, q, hp, rfl, rfl⟩ := hrel
              by_cases hlt3 : p < rl.length
              · obtain ⟨b7, off7, rfl, hb7, hc⟩ := HX7.out p hlt3
                have hmem : rl.getD p 0 ∈ s2.run := by rw [HRL.out]; simp [List.getD, List.getElem?_eq_getElem hlt3]
                obtain ⟨hx0, hx1, hx2⟩ := HOI2.out.low _ hmem
                have hov8 := HOI2.out.lb.ov
                simp only at hx2 hov8
                have hpw : ∀ p', p = p' + 1 → w7.cell? ⟨b7, off7 + p', none⟩ = some (.int .i64 (rl.getD p' 0)) ∧ rl.getD p' 0 < rl.getD p 0 := by
                  intro p' e
                  obtain ⟨b8, off8, e8, _, hc8⟩ := HX7.out p' (by omega)
                  injection e8 with e8
                  injection e8 with e8a e8b _
                  subst e8a e8b
                  refine ⟨hc8, ?_⟩
                  have hinc := HOI2.out.inc
                  rw [HRL.out, List.pairwise_iff_getElem] at hinc
                  have := hinc p' p (by omega) hlt3 (by omega)
                  simpa [List.getD, List.getElem?_eq_getElem hlt3, List.getElem?_eq_getElem (show p' < rl.length by omega)] using this
                obtain ⟨x, hx⟩ : ∃ x, rl.getD p 0 = x := ⟨_, rfl⟩
                rw [hx] at hc hx0 hx1 hx2 hpw
                obtain ⟨xn, rfl⟩ : ∃ xn : Nat, x = (xn : Int) := ⟨x.toNat, by omega⟩
                rw [Int.toNat_natCast] at hx2
                have hxn : xn < 8 := by have := HLS.out; omega
                have v0 : w7.cell? ⟨go, xn, none⟩ = some (.bool false) := by rw [O7.out.ko.cell xn, boolsV_get ov2 xn (by omega), hx2]
                have d0 : decide ((xn : Int) < 0) = false := decide_eq_false (by omega)
                have d1 : decide (st2 ≤ (xn : Int)) = false := decide_eq_false (by have := HLS.out; omega)
                have HPW := Lib.hid hpw
                clear hmem hx0 hx2 hov8 hx hpw
                cases p with
                | zero =>
                  as_aux_lemma =>
                    rw [Nat.add_zero] at hc
                    clear HPW
                    go_wp2_with fail
                    go_quiet (fail)
                    go_wp2_with fail
                    go_roundw
                    case rel => exact ⟨1, q + nq, by omega, by go_num, rfl⟩
                    case measure => simp [intOf] <;> omega
                | succ p' =>
                  as_aux_lemma =>
                    obtain ⟨hc8, hlt8⟩ := HPW.out p' rfl
                    obtain ⟨y, hy⟩ : ∃ y, rl.getD p' 0 = y := ⟨_, rfl⟩
                    rw [hy] at hc8 hlt8
                    have d2 : decide ((xn : Int) ≤ y) = false := decide_eq_false (by omega)
                    clear hy HPW hlt8
                    have hxi : (xn : Int) < 8 := by omega
                    obtain ⟨p, hpp⟩ : ∃ p : Nat, p' + 1 = p := ⟨_, rfl⟩
                    rw [hpp] at hc hp hlt3 ⊢
                    have hsub : (p : Int) - 1 = (p' : Int) := by omega
                    have hp1 : p' < rl.length := by omega
                    have hwp : IntKind.i64.wrap (p' : Int) = (p' : Int) := IntWalk.i64_in _ (by have := HLS.out; omega)
                    have d3 : decide (0 < (p : Int)) = true := decide_eq_true (by omega)
                    have hp0 : 0 < p := by omega
                    have d5 : decide (0 < p) = true := decide_eq_true hp0
                    have d4 : decide ((p : Int) < (rl.length : Int)) = true := decide_eq_true (by omega)
                    have HL3 := Lib.hid hlt3
                    clear hpp
                    go_wp2_with fail
                    go_quiet (fail)
                    go_wp2_with fail
                    go_roundw
                    case rel => exact ⟨p + 1, q + nq, by have := HL3.out; omega, by go_num, rfl⟩
                    case measure => have := HL3.out; simp [intOf] <;> omega
              · as_aux_lemma =>
                  have O8 := Lib.hid (O7.out.ext (below_drewN (Below.refl _ _) q))
                  have hen := HOI2.out.en
                  have hdn := HOI2.out.dn
                  have hal := HOI2.out.al
                  rw [HRL.out] at hdn hal
                  simp only at hen
                  generalize w7.drewN q = w8 at *
                  have DN := Lib.hid (done_any g _ _ _ _ _ _ _ _ _ _ _ _ w8 O8.out.kg)
                  obtain ⟨nw2, st3, nx2, due2, run2, ans2, dn2, code2⟩ := s2
                  simp only at hen hdn hal hrl
                  subst hen
                  have HDN := Lib.hid hdn
                  have HAL := Lib.hid hal
                  clear hdn hal O7 HX7 HRL
                  go_wp2_with fail
                  refine DN.out.mono ?_
                  rintro e w9 ⟨rfl, q9, rfl⟩
                  have O9 := Lib.hid (O8.out.ext (below_drewN (Below.refl _ _) q9))
                  clear DN O8
                  generalize w8.drewN q9 = w9 at *
                  have NX := Lib.hid (next_any g _ _ _ _ _ _ nx2 _ _ _ _ _ w9 O9.out.kg)
                  go_wp2_with fail
                  refine NX.out.mono ?_
                  rintro e w10 ⟨rfl, rfl⟩
                  clear NX
                  cases en2 with
                  | true =>
                    obtain ⟨hr0, hn0⟩ := HDN.out rfl
                    have hl0 : rl.length = 0 := by rw [hr0]; rfl
                    rw [hl0]
                    subst hn0
                    clear HDN HAL
                    go_wp2_with fail
                    go_roundw
                    case rel => exact ⟨_, _, _, rfl, rfl, rfl, O9.out, by have := HNW.out; exact this, Or.inr ⟨k + 1, by omega, by go_num, HOI2.out⟩⟩
                    case measure => simp [intOf] <;> omega
                  | false =>
                    cases nx2 with
                    | true =>
                      by_cases hz : rl.length = 0
                      · have hzb : ((rl.length : Int) == 0) = true := by simp [hz]
                        clear hz
                        go_wp2_with fail
                        go_roundw
                        case rel => exact ⟨_, _, _, rfl, rfl, rfl, O9.out, by have := HNW.out; exact this, Or.inr ⟨k + 1, by omega, by go_num, HOI2.out⟩⟩
                        case measure => simp [intOf] <;> omega
                      · have hzb : ((rl.length : Int) == 0) = false := by simp [hz]
                        clear hz
                        go_wp2_with fail
                        go_roundw
                        case rel => exact ⟨_, _, _, rfl, rfl, rfl, O9.out, by have := HNW.out; exact this, Or.inr ⟨k + 1, by omega, by go_num, HOI2.out⟩⟩
                        case measure => simp [intOf] <;> omega
                    | false =>
                      have hz : rl.length ≠ 0 := by
                        rcases HAL.out rfl with h | h
                        · intro e; exact h (List.eq_nil_of_length_eq_zero e)
                        · cases h
                      have hzb : ((rl.length : Int) == 0) = false := by simp [hz]
                      clear hz
                      go_wp2_with fail
                      go_roundw
                      case rel => exact ⟨_, _, _, rfl, rfl, rfl, O9.out, by have := HNW.out; exact this, Or.inr ⟨k + 1, by omega, by go_num, HOI2.out⟩⟩
                      case measure => simp [intOf] <;> omega
  
      · have HB := Lib.hid O.hb
        clear O
        go_wp2_with fail
        go_ret
        exact ⟨rfl, HB.out⟩
end Go.Proofs.YtnmcjdiihebagaaDoor.Hdg
