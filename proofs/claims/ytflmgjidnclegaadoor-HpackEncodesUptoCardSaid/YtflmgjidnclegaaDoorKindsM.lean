/-
  The five kinds of what stands in a block: each closure reads one.
-/
import Derived.Test.YtflmgjidnclegaaDoorBlkM
import Derived.Test.YtflmgjidnclegaaDoorTabM
namespace Go.Proofs.YtflmgjidnclegaaDoor.Hpk
open Go.RowKit
open Huff (BytesAt)
open Tab (Hn Hd hsz tot hncs Tbl)
def StepEnd (W0 : World) (K D g r lim bb : Nat) (ev : Er → Value) (s : DS) (R : Except Er DS) (e : Ending) (w' : World) : Prop :=
  match R with
  | .ok s' => ∃ A' cap' ov', e = .returned (.tuple #[]) ∧ BSt W0 w' K D g r lim bb s' A' cap' ov'
  | .error er => e = Pan (ev er) ∧ BTab W0 w' D g r lim s.Q s.m
section
variable {W0 w w' : World} {K D g r lim bb : Nat} {s : DS} {A : Option Addr} {cap : Nat} {ov : Value} {ev : Er → Value} {M : Int}
theorem BSt.tot (h : BSt W0 w K D g r lim bb s A cap ov) : Tab.tot s.Q ≤ 4096 := by
  obtain ⟨o, ht⟩ := h.kt
  exact ht.ht
end
/-- an index -/
def step1 (s : DS) : Except Er DS :=
  match number 7 s with
  | .error e => .error e
  | .ok (i, s1) =>
    match header s1 i with
    | .error e => .error e
    | .ok h => tell s1 (h.1, h.2, false)
/-- a header that is told -/
def step5 (nv : Bool) (s : DS) : Except Er DS :=
  match named 4 s with
  | .error e => .error e
  | .ok (h, s1) => tell s1 (h.1, h.2, nv)
set_option maxRecDepth 100000 in
set_option maxHeartbeats 4000000 in
theorem kind1 {W0 w : World} {K D g r lim bb : Nat} {ev : Er → Value} {M : Int} {s : DS} {A : Option Addr} {cap : Nat} {ov : Value} (E : BEnv W0 D g r lim bb ev M) (S : BSt W0 w K D g r lim bb s A cap ov) (hol : s.out.length * 32 ≤ s.size) :
    Calls Tryd.prog 77 #[.pointer (some ⟨K, 0, none⟩)] w (StepEnd W0 K D g r lim bb ev s (step1 s)) := by
  have NB := Lib.hid (blk_number E S 7 (by omega))
  have hsz0 := S.sz
  have htq := S.tot
  have HE := Lib.hid E
  clear E S
  go_enter Tryd.func77, Tryd.ntmps77
  go_wp2_with fail
  refine NB.out.mono ?_
  intro e w1 hN
  clear NB
  cases hn : number 7 s with
  | error er =>
    rw [hn] at hN
    obtain ⟨he, hS⟩ := hN
    unfold Pan at he
    subst he
    have HR := Lib.hid (show step1 s = .error er by unfold step1; rw [hn])
    have HS := Lib.hid hS
    clear hn hS
    go_wp2_with fail
    rw [HR.out]
    exact ⟨rfl, rfl, HS.out.tab⟩
  | ok p =>
    obtain ⟨i, s1⟩ := p
    rw [hn] at hN
    obtain ⟨A1, c1, rfl, hS1, -⟩ := hN
    have hk := number_keep4 hn
    have HH := Lib.hid (blk_header HE.out hS1 i)
    have HN := Lib.hid hn
    have HK := Lib.hid hk
    clear hn hS1 hk
    go_wp2_with fail
    refine HH.out.mono ?_
    intro e w2 hH
    clear HH
    cases hh : header s1 i with
    | error er =>
      rw [hh] at hH
      obtain ⟨he, hS⟩ := hH
      unfold Pan at he
      subst he
      have HR := Lib.hid (show step1 s = .error er by unfold step1; rw [HN.out]; simp only []; rw [hh])
      have HS := Lib.hid hS
      clear hh hS
      go_wp2_with fail
      rw [HR.out]
      exact ⟨rfl, rfl, by have := HS.out; rw [HK.out.1, HK.out.2.1] at this; exact this⟩
    | ok h =>
      obtain ⟨nm, vl⟩ := h
      rw [hh] at hH
      obtain ⟨rfl, hS2, -⟩ := hH
      have hz := header_size hh (by rw [HK.out.1]; exact htq)
      have hlen : s1.out.length ≤ 100000 := by rw [HK.out.2.2.1]; omega
      have TL := Lib.hid (blk_tell HE.out hS2 nm vl false (by omega) hlen)
      have HR := Lib.hid (show step1 s = tell s1 (nm, vl, false) by unfold step1; rw [HN.out]; simp only []; rw [hh])
      clear hh hS2
      go_wp2_with fail
      refine TL.out.mono ?_
      intro e w3 hT
      clear TL
      cases ht : tell s1 (nm, vl, false) with
      | error er =>
        rw [ht] at hT
        obtain ⟨he, hS⟩ := hT
        unfold Pan at he
        subst he
        have HS := Lib.hid hS
        have HT := Lib.hid ht
        clear ht hS
        go_wp2_with fail
        rw [HR.out, HT.out]
        exact ⟨rfl, rfl, by have := HS.out; rw [HK.out.1, HK.out.2.1] at this; exact this⟩
      | ok s2 =>
        rw [ht] at hT
        obtain ⟨ov', rfl, hS3, -⟩ := hT
        have HS := Lib.hid hS3
        have HT := Lib.hid ht
        clear ht hS3
        go_wp2_with fail
        go_end0
        rw [HR.out, HT.out]
        exact ⟨_, _, _, rfl, HS.out⟩
set_option maxRecDepth 100000 in
set_option maxHeartbeats 4000000 in
theorem kind5 {W0 w : World} {K D g r lim bb : Nat} {ev : Er → Value} {M : Int} {s : DS} {A : Option Addr} {cap : Nat} {ov : Value} (E : BEnv W0 D g r lim bb ev M) (S : BSt W0 w K D g r lim bb s A cap ov) (hol : s.out.length * 32 ≤ s.size) :
    Calls Tryd.prog 86 #[.pointer (some ⟨K, 0, none⟩)] w (StepEnd W0 K D g r lim bb ev s (step5 false s)) := by
  have NB := Lib.hid (blk_named E S 4 (by omega))
  have hsz0 := S.sz
  have htq := S.tot
  have HE := Lib.hid E
  clear E S
  go_enter Tryd.func86, Tryd.ntmps86
  go_wp2_with fail
  refine NB.out.mono ?_
  intro e w1 hN
  clear NB
  cases hn : named 4 s with
  | error er =>
    rw [hn] at hN
    obtain ⟨he, hS⟩ := hN
    unfold Pan at he
    subst he
    have HR := Lib.hid (show step5 false s = .error er by unfold step5; rw [hn])
    have HS := Lib.hid hS
    clear hn hS
    go_wp2_with fail
    rw [HR.out]
    exact ⟨rfl, rfl, HS.out⟩
  | ok p =>
    obtain ⟨⟨nm, vl⟩, s1⟩ := p
    rw [hn] at hN
    obtain ⟨A1, c1, rfl, hS1, -⟩ := hN
    have hk := named_keep hn
    have hz := named_size hn htq
    have hlen : s1.out.length ≤ 100000 := by rw [hk.2.2.1]; omega
    have HN := Lib.hid hn
    have HK := Lib.hid hk
    clear hn hk
    have TL := Lib.hid (blk_tell HE.out hS1 nm vl false (by omega) hlen)
    have HR := Lib.hid (show step5 false s = tell s1 (nm, vl, false) by unfold step5; rw [HN.out])
    clear hS1
    go_wp2_with fail
    refine TL.out.mono ?_
    intro e w3 hT
    clear TL
    cases ht : tell s1 (nm, vl, false) with
    | error er =>
      rw [ht] at hT
      obtain ⟨he, hS⟩ := hT
      unfold Pan at he
      subst he
      have HS := Lib.hid hS
      have HT := Lib.hid ht
      clear ht hS
      go_wp2_with fail
      rw [HR.out, HT.out]
      exact ⟨rfl, rfl, by have := HS.out; rw [HK.out.1, HK.out.2.1] at this; exact this⟩
    | ok s2 =>
      rw [ht] at hT
      obtain ⟨ov', rfl, hS3, -⟩ := hT
      have HS := Lib.hid hS3
      have HT := Lib.hid ht
      clear ht hS3
      go_wp2_with fail
      go_end0
      rw [HR.out, HT.out]
      exact ⟨_, _, _, rfl, HS.out⟩
set_option maxRecDepth 100000 in
set_option maxHeartbeats 4000000 in
theorem kind4 {W0 w : World} {K D g r lim bb : Nat} {ev : Er → Value} {M : Int} {s : DS} {A : Option Addr} {cap : Nat} {ov : Value} (E : BEnv W0 D g r lim bb ev M) (S : BSt W0 w K D g r lim bb s A cap ov) (hol : s.out.length * 32 ≤ s.size) :
    Calls Tryd.prog 85 #[.pointer (some ⟨K, 0, none⟩)] w (StepEnd W0 K D g r lim bb ev s (step5 true s)) := by
  have NB := Lib.hid (blk_named E S 4 (by omega))
  have hsz0 := S.sz
  have htq := S.tot
  have HE := Lib.hid E
  clear E S
  go_enter Tryd.func85, Tryd.ntmps85
  go_wp2_with fail
  refine NB.out.mono ?_
  intro e w1 hN
  clear NB
  cases hn : named 4 s with
  | error er =>
    rw [hn] at hN
    obtain ⟨he, hS⟩ := hN
    unfold Pan at he
    subst he
    have HR := Lib.hid (show step5 true s = .error er by unfold step5; rw [hn])
    have HS := Lib.hid hS
    clear hn hS
    go_wp2_with fail
    rw [HR.out]
    exact ⟨rfl, rfl, HS.out⟩
  | ok p =>
    obtain ⟨⟨nm, vl⟩, s1⟩ := p
    rw [hn] at hN
    obtain ⟨A1, c1, rfl, hS1, -⟩ := hN
    have hk := named_keep hn
    have hz := named_size hn htq
    have hlen : s1.out.length ≤ 100000 := by rw [hk.2.2.1]; omega
    have HN := Lib.hid hn
    have HK := Lib.hid hk
    clear hn hk
    have hS2 := hS1.ext ((Below.refl _ _).alloc (Nat.le_refl _) (.cells #[.string nm, .string vl, .bool true] 23))
    have TL := Lib.hid (blk_tell HE.out hS2 nm vl true (by omega) hlen)
    have HR := Lib.hid (show step5 true s = tell s1 (nm, vl, true) by unfold step5; rw [HN.out])
    clear hS1 hS2
    go_wp2_with fail
    refine TL.out.mono ?_
    intro e w3 hT
    clear TL
    cases ht : tell s1 (nm, vl, true) with
    | error er =>
      rw [ht] at hT
      obtain ⟨he, hS⟩ := hT
      unfold Pan at he
      subst he
      have HS := Lib.hid hS
      have HT := Lib.hid ht
      clear ht hS
      go_wp2_with fail
      rw [HR.out, HT.out]
      exact ⟨rfl, rfl, by have := HS.out; rw [HK.out.1, HK.out.2.1] at this; exact this⟩
    | ok s2 =>
      rw [ht] at hT
      obtain ⟨ov', rfl, hS3, -⟩ := hT
      have HS := Lib.hid hS3
      have HT := Lib.hid ht
      clear ht hS3
      go_wp2_with fail
      go_end0
      rw [HR.out, HT.out]
      exact ⟨_, _, _, rfl, HS.out⟩
/-- a header that is told and kept -/
def step2 (s : DS) : Except Er DS :=
  match named 6 s with
  | .error e => .error e
  | .ok (h, s1) =>
    match tell s1 (h.1, h.2, false) with
    | .error e => .error e
    | .ok s2 => .ok { s2 with Q := Tab.addQ s2.m h s2.Q }
/-- a size -/
def step3 (limit : Nat) (s : DS) : Except Er DS :=
  match number 5 s with
  | .error e => .error e
  | .ok (n, s1) => if s1.out ≠ [] ∨ limit < n then .error .table else .ok { s1 with Q := Tab.shr (n : Int) s1.Q, m := n }
section
variable {W0 w w' : World} {K D g r lim bb : Nat} {s : DS} {A : Option Addr} {cap : Nat} {ov : Value} {ev : Er → Value} {M : Int}
/-- the table has turned -/
theorem BSt.table (h : BSt W0 w K D g r lim bb s A cap ov) (E : BEnv W0 D g r lim bb ev M) {o m : Nat} {Q : List Hd} (ht : Tbl w' g r o Q m) (U : Upd3 w w' (fun i => i = g ∨ i = r)) : BSt W0 w' K D g r lim bb { s with Q := Q, m := m } A cap ov := by
  have hlt := E.lt
  have hab := E.ab
  have hdg := E.dg
  have hdr := E.dr
  have hK := h.hK
  refine ⟨hK, U.blk h.kk (by rintro (e | e) <;> omega), U.blk h.kd (by rintro (e | e); exact hdg e; exact hdr e), ⟨o, ht⟩, ?_, h.bc, h.bn, U.own h.ow (fun b hb e => by have := (h.ow.lt b hb).1; rcases e with e | e <;> omega), h.sz, h.up.trans U (fun i hi => Or.inl hi)⟩
  intro j hj
  obtain ⟨b, off, e, hb, hcc⟩ := h.bx j hj
  have hbb : b = bb := h.bn _ e
  exact ⟨b, off, e, Nat.lt_of_lt_of_le hb U.size, U.cell hcc (by rintro (e | e) <;> omega)⟩
end
set_option maxRecDepth 100000 in
set_option maxHeartbeats 4000000 in
theorem kind2 {W0 w : World} {K D g r lim bb : Nat} {ev : Er → Value} {M : Int} {s : DS} {A : Option Addr} {cap : Nat} {ov : Value} (E : BEnv W0 D g r lim bb ev M) (S : BSt W0 w K D g r lim bb s A cap ov) (hol : s.out.length * 32 ≤ s.size) :
    Calls Tryd.prog 81 #[.pointer (some ⟨K, 0, none⟩)] w (StepEnd W0 K D g r lim bb ev s (step2 s)) := by
  have NB := Lib.hid (blk_named E S 6 (by omega))
  have hsz0 := S.sz
  have htq := S.tot
  have HE := Lib.hid E
  clear E S
  go_enter Tryd.func81, Tryd.ntmps81
  go_wp2_with fail
  refine NB.out.mono ?_
  intro e w1 hN
  clear NB
  cases hn : named 6 s with
  | error er =>
    rw [hn] at hN
    obtain ⟨he, hS⟩ := hN
    unfold Pan at he
    subst he
    have HR := Lib.hid (show step2 s = .error er by unfold step2; rw [hn])
    have HS := Lib.hid hS
    clear hn hS
    go_wp2_with fail
    rw [HR.out]
    exact ⟨rfl, rfl, HS.out⟩
  | ok p =>
    obtain ⟨⟨nm, vl⟩, s1⟩ := p
    rw [hn] at hN
    obtain ⟨A1, c1, rfl, hS1, -⟩ := hN
    have hk := named_keep hn
    have hz := named_size hn htq
    have hlen : s1.out.length ≤ 100000 := by rw [hk.2.2.1]; omega
    have HN := Lib.hid hn
    have HK := Lib.hid hk
    clear hn hk
    have hB2 : Below w1.heap.size w1 (w1.alloc (.cells #[.string nm, .string vl, .bool false] 23)) := (Below.refl _ _).alloc (Nat.le_refl _) _
    have hS2 := hS1.ext hB2
    have kh := Blk.new w1 23 #[.string nm, .string vl, .bool false]
    have HKH := Lib.hid kh
    have hKw := hS1.kk.lt
    have HOV : Hid (∀ b, ov.ownBlock = some b → b < w1.heap.size) := fun b e => (hS1.ow.lt b e).2
    have TL := Lib.hid (blk_tell HE.out hS2 nm vl false (by omega) hlen)
    clear hS1 hS2 hB2 kh
    go_wp2_with fail
    refine TL.out.mono ?_
    intro e w3 hT
    clear TL
    cases ht : tell s1 (nm, vl, false) with
    | error er =>
      rw [ht] at hT
      obtain ⟨he, hS⟩ := hT
      unfold Pan at he
      subst he
      have HS := Lib.hid hS
      have HT := Lib.hid ht
      clear ht hS
      go_wp2_with fail
      rw [show step2 s = .error er by unfold step2; rw [HN.out]; simp only []; rw [HT.out]]
      exact ⟨rfl, rfl, by have := HS.out; rw [HK.out.1, HK.out.2.1] at this; exact this⟩
    | ok s2 =>
      rw [ht] at hT
      obtain ⟨ov', rfl, hS3, hU3⟩ := hT
      have HR := Lib.hid (show step2 s = .ok { s2 with Q := Tab.addQ s2.m (nm, vl) s2.Q } by unfold step2; rw [HN.out]; simp only []; rw [ht])
      have k3 := hU3.blk HKH.out (by rintro (e | e); omega; have := HOV.out _ e; omega)
      have c0 : w3.cell? ⟨K, 0, none⟩ = some (.pointer (some ⟨D, 0, none⟩)) := hS3.kk.cell 0
      have y0 : w3.cell? ⟨D, 0, none⟩ = some (.pointer (some ⟨g, 0, none⟩)) := hS3.kd.cell 0
      have k0 : w3.cell? ⟨w1.heap.size, 0, none⟩ = some (.string nm) := k3.cell 0
      have k1 : w3.cell? ⟨w1.heap.size, 1, none⟩ = some (.string vl) := k3.cell 1
      have k2 : w3.cell? ⟨w1.heap.size, 2, none⟩ = some (.bool false) := k3.cell 2
      have HS3 := Lib.hid hS3
      clear ht hS3 hU3 k3 HKH HOV
      go_wp2_with fail
      refine wp_region_in_tail 8 (Since w3) (Since.drew0 w3) (by kernel_rfl) (by kernel_rfl) ?_
      simp only [List.take_succ_cons, List.take_zero, List.drop_succ_cons, List.drop_zero]
      repeat (first
        | go_big_quiet_skip
        | (go_big_quiet_want; go_big_quiet_op; go_big_quiet_on)
        | (go_big_quiet_want; apply in_val; (· intro W hW; have d0 := hW.cell c0; have d1 := hW.cell y0; have d2 := hW.cell k0; have d3 := hW.cell k1; have d4 := hW.cell k2; go_simp; first | done | rfl); simp only [Act.put, List.setIfInBounds_toArray, List.set_cons_zero, List.set_cons_succ]; go_big_quiet_on))
      refine wpQuiet_nil ?_
      intro w4 hW4
      have hS4 := HS3.out.ext hW4
      obtain ⟨o, ht⟩ := hS4.kt
      have AD := Lib.hid (Tab.add_any ht nm vl false (by omega))
      have HS4 := Lib.hid hS4
      clear hS4 ht hW4 c0 y0 k0 k1 k2 HS3
      go_wp2_with fail
      refine AD.out.mono ?_
      rintro e w5 ⟨rfl, o', ht5, hu5⟩
      have HS5 := Lib.hid (HS4.out.table HE.out ht5 hu5)
      clear ht5 hu5 AD HS4
      go_wp2_with fail
      go_end0
      rw [HR.out]
      exact ⟨_, _, _, rfl, HS5.out⟩
set_option maxRecDepth 100000 in
set_option maxHeartbeats 4000000 in
theorem kind3 {W0 w : World} {K D g r lim bb : Nat} {ev : Er → Value} {M : Int} {s : DS} {A : Option Addr} {cap : Nat} {ov : Value} (E : BEnv W0 D g r lim bb ev M) (S : BSt W0 w K D g r lim bb s A cap ov) :
    Calls Tryd.prog 83 #[.pointer (some ⟨K, 0, none⟩)] w (StepEnd W0 K D g r lim bb ev s (step3 lim s)) := by
  have NB := Lib.hid (blk_number E S 5 (by omega))
  have hsz0 := S.sz
  have HE := Lib.hid E
  clear E S
  go_enter Tryd.func83, Tryd.ntmps83
  go_wp2_with fail
  refine NB.out.mono ?_
  intro e w1 hN
  clear NB
  cases hn : number 5 s with
  | error er =>
    rw [hn] at hN
    obtain ⟨he, hS⟩ := hN
    unfold Pan at he
    subst he
    have HR := Lib.hid (show step3 lim s = .error er by unfold step3; rw [hn])
    have HS := Lib.hid hS
    clear hn hS
    go_wp2_with fail
    rw [HR.out]
    exact ⟨rfl, rfl, HS.out.tab⟩
  | ok p =>
    obtain ⟨n, s1⟩ := p
    rw [hn] at hN
    obtain ⟨A1, c1, rfl, hS1, -⟩ := hN
    have hk := number_keep4 hn
    obtain ⟨A2, c2, rfl, -, -⟩ := Tab.own_slice hS1.ow
    have q2 : w1.cell? ⟨K, 2, none⟩ = some (.slice A2 s1.out.length c2) := hS1.kk.cell 2
    have q0 : w1.cell? ⟨K, 0, none⟩ = some (.pointer (some ⟨D, 0, none⟩)) := hS1.kk.cell 0
    have d0 : w1.cell? ⟨D, 0, none⟩ = some (.pointer (some ⟨g, 0, none⟩)) := hS1.kd.cell 0
    have d1 : w1.cell? ⟨D, 1, none⟩ = some (.int .i64 (lim : Int)) := hS1.kd.cell 1
    have et : w1.cell? ⟨0, 0, none⟩ = some (ev .table) := (hS1.errs HE.out .table).1
    have hER := (hS1.errs HE.out .table).2.2
    have hlm := HE.out.lm
    have HN := Lib.hid hn
    have HK := Lib.hid hk
    have HS1 := Lib.hid hS1
    clear hn hk hS1
    by_cases hbad : s1.out ≠ [] ∨ lim < n
    · have HR := Lib.hid (show step3 lim s = .error .table by unfold step3; rw [HN.out]; simp only []; rw [if_pos hbad])
      have GE := Lib.hid (give_err (ev .table) hER w1)
      by_cases h0 : 0 < s1.out.length
      · clear hbad
        go_wp2_with fail
        refine GE.out.mono ?_
        rintro e w2 ⟨rfl, rfl⟩
        go_wp2_with fail
        rw [HR.out]
        exact ⟨rfl, rfl, by have := HS1.out.tab; rw [HK.out.1, HK.out.2.1] at this; exact this⟩
      · have h1 : lim < n := hbad.resolve_left (fun h => h0 (List.length_pos_iff.2 h))
        clear hbad
        go_wp2_with fail
        refine GE.out.mono ?_
        rintro e w2 ⟨rfl, rfl⟩
        go_wp2_with fail
        rw [HR.out]
        exact ⟨rfl, rfl, by have := HS1.out.tab; rw [HK.out.1, HK.out.2.1] at this; exact this⟩
    · have HR := Lib.hid (show step3 lim s = .ok { s1 with Q := Tab.shr (n : Int) s1.Q, m := n } by unfold step3; rw [HN.out]; simp only []; rw [if_neg hbad])
      have h0 : ¬ 0 < s1.out.length := fun h => hbad (Or.inl (fun e => by rw [e] at h; cases h))
      have h1 : ¬ lim < n := fun h => hbad (Or.inr h)
      obtain ⟨o, ht⟩ := HS1.out.kt
      have RS := Lib.hid (Tab.resize_yes ht n (by omega))
      clear hbad ht
      go_wp2_with fail
      refine RS.out.mono ?_
      rintro e w3 ⟨rfl, o', ht3, hu3⟩
      have HS3 := Lib.hid (HS1.out.table HE.out ht3 hu3)
      clear ht3 hu3 RS
      go_wp2_with fail
      refine (give_nil w3).mono ?_
      rintro e w4 ⟨rfl, rfl⟩
      go_wp2_with fail
      go_end0
      rw [HR.out]
      exact ⟨_, _, _, rfl, HS3.out⟩
end Go.Proofs.YtflmgjidnclegaaDoor.Hpk
/-
  What stands at a block's place is read by its kind: plain words; kinds.
-/
namespace Go.Proofs.YtflmgjidnclegaaDoor.Hpk
open Go.RowKit
theorem step_eq (limit : Nat) (s : DS) : step limit s =
    if 128 ≤ (s.rest.getD 0 0).toNat then step1 s else if 64 ≤ (s.rest.getD 0 0).toNat then step2 s else if 32 ≤ (s.rest.getD 0 0).toNat then step3 limit s else if 16 ≤ (s.rest.getD 0 0).toNat then step5 true s else step5 false s := rfl
theorem tell_os {s s' : DS} {h : Tab.Hn} (ht : tell s h = .ok s') (ho : s.out.length * 32 ≤ s.size) : s'.out.length * 32 ≤ s'.size := by
  unfold tell at ht
  simp only at ht
  by_cases c : 16384 < s.size + Tab.hsz (h.1, h.2.1)
  · rw [if_pos c] at ht; cases ht
  · rw [if_neg c] at ht
    injection ht with ht
    subst ht
    show (s.out ++ [h]).length * 32 ≤ s.size + Tab.hsz (h.1, h.2.1)
    rw [List.length_append, List.length_singleton]
    unfold Tab.hsz
    omega
theorem step_os {limit : Nat} {s s' : DS} (h : step limit s = .ok s') (ho : s.out.length * 32 ≤ s.size) : s'.out.length * 32 ≤ s'.size := by
  rw [step_eq] at h
  have k1 : ∀ s', step1 s = .ok s' → s'.out.length * 32 ≤ s'.size := by
    intro s' h
    unfold step1 at h
    cases hn : number 7 s with
    | error e => rw [hn] at h; cases h
    | ok p =>
      obtain ⟨i, s1⟩ := p
      rw [hn] at h
      simp only at h
      have hk := number_keep4 hn
      cases hh : header s1 i with
      | error e => rw [hh] at h; cases h
      | ok x =>
        rw [hh] at h
        exact tell_os h (by rw [hk.2.2.1, hk.2.2.2]; exact ho)
  have k5 : ∀ nv s', step5 nv s = .ok s' → s'.out.length * 32 ≤ s'.size := by
    intro nv s' h
    unfold step5 at h
    cases hn : named 4 s with
    | error e => rw [hn] at h; cases h
    | ok p =>
      obtain ⟨x, s1⟩ := p
      rw [hn] at h
      have hk := named_keep hn
      exact tell_os h (by rw [hk.2.2.1, hk.2.2.2]; exact ho)
  have k2 : ∀ s', step2 s = .ok s' → s'.out.length * 32 ≤ s'.size := by
    intro s' h
    unfold step2 at h
    cases hn : named 6 s with
    | error e => rw [hn] at h; cases h
    | ok p =>
      obtain ⟨x, s1⟩ := p
      rw [hn] at h
      simp only at h
      have hk := named_keep hn
      cases ht : tell s1 (x.1, x.2, false) with
      | error e => rw [ht] at h; cases h
      | ok s2 =>
        rw [ht] at h
        injection h with h
        subst h
        have := tell_os ht (by rw [hk.2.2.1, hk.2.2.2]; exact ho)
        exact this
  have k3 : ∀ s', step3 limit s = .ok s' → s'.out.length * 32 ≤ s'.size := by
    intro s' h
    unfold step3 at h
    cases hn : number 5 s with
    | error e => rw [hn] at h; cases h
    | ok p =>
      obtain ⟨n, s1⟩ := p
      rw [hn] at h
      simp only at h
      have hk := number_keep4 hn
      by_cases c : s1.out ≠ [] ∨ limit < n
      · rw [if_pos c] at h; cases h
      · rw [if_neg c] at h
        injection h with h
        subst h
        show s1.out.length * 32 ≤ s1.size
        rw [hk.2.2.1, hk.2.2.2]; exact ho
  split at h
  · exact k1 _ h
  · split at h
    · exact k2 _ h
    · split at h
      · exact k3 _ h
      · split at h
        · exact k5 _ _ h
        · exact k5 _ _ h
/-- a kind's cells -/
def kindV (m b : Int) (f : Nat) : List Value := [.int .u8 m, .int .u8 b, .func (.func f) #[] #[]]
def kindsV : Array Value := (kindV 128 128 77 ++ kindV 192 64 81 ++ kindV 224 32 83 ++ kindV 240 16 85 ++ kindV 240 0 86).toArray
set_option maxRecDepth 100000 in
theorem kinds_any (w : World) : Calls Tryd.prog 70 #[] w fun e w' => e = .returned (.slice (some ⟨w.heap.size, 0, none⟩) 5 5) ∧ w' = w.alloc (.cells kindsV 108) := by
  go_enter Tryd.func70, Tryd.ntmps70
  go_wp2
  go_ret
  exact ⟨rfl, rfl⟩
end Go.Proofs.YtflmgjidnclegaaDoor.Hpk
