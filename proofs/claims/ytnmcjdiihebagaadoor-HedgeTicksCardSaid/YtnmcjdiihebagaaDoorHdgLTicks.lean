/-
  The walk of the law HedgeTicks: it answers true.
-/
import Derived.Test.YtnmcjdiihebagaaDoorHdgTr
namespace Go.Proofs.YtnmcjdiihebagaaDoor.Hdg
open Go.RowKit
open Pol (intsV IntsAt codeOk)
theorem evs_at {w : World} {base : Nat} {t : TypeId} {A : Option Addr} {n c : Nat} {E : List Ev} (h : w.ownsRow base t 4 (.slice A n c) n (evV E)) (hn : E.length = n) : EvsAt w A E := by
  subst hn
  obtain ⟨A', c', e, hE⟩ := evs_of_own h
  injection e with e1 _ _
  subst e1
  exact hE
theorem newEvs_get (st m : Int) (j q : Nat) (hq : q < j) (x : Ev) (h : (newEvs st m j)[q]? = some x) : x.at_ = m := by
  unfold newEvs at h
  rw [List.getElem?_map, List.getElem?_range hq] at h
  injection h with h
  rw [← h]
theorem hok_ticks (t d : Nat) (h1 : t ≤ 3) (h3 : d ≤ 1023) : hOk ((t : Int) + 1) (d : Int) [] = true := by
  unfold hOk
  rw [decide_eq_true (show hnums ((t : Int) + 1) (d : Int) from ⟨by omega, by omega, by omega, by omega⟩)]
  rfl
theorem tr_start (T D : Int) (hT : 1 ≤ T) : Tr T D 0 [] (decide (1 < T)) D :=
  ⟨by simp; omega, by simp, by simp [lastOf], fun i hi => by simp at hi, fun i hi => by simp at hi, fun i hi => by simp at hi⟩
set_option maxRecDepth 100000 in
set_option maxHeartbeats 8000000 in
theorem lticks_any (tries delay : Int) (xs : List Int) (A : Option Addr) (n c : Nat) (hn : xs.length = n) (hcap : n ≤ 9223372036854775807) (v : Value) (w : World) (hx : IntsAt w A xs) (hv : w.cell? ⟨0, 0, none⟩ = some v) (hg : 0 < w.heap.size) :
    Calls Tryd.prog 6 #[.int .i64 tries, .int .i64 delay, .slice A n c] w fun e w' => e = .returned (.bool true) ∧ Below w.heap.size w w' := by
  have HX := Lib.hid hx
  have HV := Lib.hid hv
  have HNN := Lib.hid hn
  obtain ⟨t, ht, e1⟩ := and_3 tries
  obtain ⟨D, hD, e2⟩ := and_1023 delay
  have F := Lib.hid (hfirst_any v w hv hg)
  clear hx hv hn
  go_enter Tryd.func6, Tryd.ntmps6
  go_wp2_with fail
  refine F.out.mono ?_
  rintro e w1 ⟨rfl, hb1⟩
  have HB1 := Lib.hid hb1
  clear hb1 F
  by_cases h50 : 50 < n
  · go_wp2_with fail
    go_ret
    exact ⟨rfl, HB1.out⟩
  go_wp2_with fail
  clear e1 e2
  have hB2 : Below w.heap.size w (w1.alloc (.cells #[.int .i64 ((t : Int) + 1), .int .i64 (D : Int), .slice none 0 0] 49)) := HB1.out.alloc HB1.out.size _
  have kp : Blk (w1.alloc (.cells #[.int .i64 ((t : Int) + 1), .int .i64 (D : Int), .slice none 0 0] 49)) w1.heap.size 49 #[.int .i64 ((t : Int) + 1), .int .i64 (D : Int), .slice none 0 0] := Blk.new _ _ _
  generalize w1.alloc (.cells #[.int .i64 ((t : Int) + 1), .int .i64 (D : Int), .slice none 0 0] 49) = w2 at *
  have hxn : IntsAt w2 none [] := fun i hi => by simp at hi
  have N := hnew_ok ((t : Int) + 1) (D : Int) [] none 0 0 rfl (by omega) (fun _ => rfl) none v w2 hxn (hok_ticks t D ht hD) ((hB2.cell hg).trans HV.out) (Nat.lt_of_lt_of_le hg hB2.size)
  have HN := Lib.hid N
  have HB2 := Lib.hid hB2
  have HKP := Lib.hid kp
  clear N hB2 kp hxn HB1
  generalize hT : (t : Int) + 1 = T at *
  have hT1 : 1 ≤ T ∧ T ≤ 4 := by omega
  clear hT
  refine HN.out.mono ?_
  rintro e w3 ⟨gc, Ac, cc, rvc, bc, rfl, hgc, -, -, kc, rc, -, hb3⟩
  have kp3 := HKP.out.below hb3 HKP.out.lt
  have hB3 := HB2.out.trans (hb3.mono HB2.out.size)
  have o0 : w3.cell? ⟨w1.heap.size, 0, none⟩ = some (.int .i64 T) := kp3.cell 0
  have o1 : w3.cell? ⟨w1.heap.size, 1, none⟩ = some (.int .i64 (D : Int)) := kp3.cell 1
  have o2 : w3.cell? ⟨w1.heap.size, 2, none⟩ = some (.slice none 0 0) := kp3.cell 2
  have hxn : IntsAt w3 none [] := fun i hi => by simp at hi
  have hokT : hOk T (D : Int) [] = true := by
    unfold hOk
    rw [decide_eq_true (show hnums T (D : Int) from ⟨by omega, by omega, by omega, by omega⟩)]
    rfl
  have N := hnew_ok T (D : Int) [] none 0 0 rfl (by omega) (fun _ => rfl) none v w3 hxn hokT ((hB3.cell hg).trans HV.out) (Nat.lt_of_lt_of_le hg hB3.size)
  have HN := Lib.hid N
  have HB3 := Lib.hid hB3
  have HKC := Lib.hid kc
  have HRC := Lib.hid (own_base rc HB2.out.size)
  have hgcw : w.heap.size ≤ gc := Nat.le_trans HB2.out.size hgc
  clear N kp3 hxn hokT kc rc hb3 hB3 HKP HV HB2 hgc
  go_wp2_with fail
  refine HN.out.mono ?_
  rintro e w4 ⟨gd, Ad, cd, rvd, bd, rfl, hgd, -, -, kd, rd, -, hb4⟩
  have hgl := HKC.out.lt
  have hTI : TI w w4 gc gd (hcC T (D : Int) (.slice Ac 0 cc) (.pointer none) 0 ((([] : List Int).length : Int) + 1) (nxV gc (decide (1 < T))) (D : Int) rvc (-1) false 0) (hcC T (D : Int) (.slice Ad 0 cd) (.pointer none) 0 ((([] : List Int).length : Int) + 1) (nxV gd (decide (1 < T))) (D : Int) rvd (-1) false 0) rvc rvd [0] [0] (.slice none 0 0) (.slice none 0 0) [] [] :=
    ⟨HKC.out.below hb4 hgl, (Upd3.of_below hb4 (fun _ => False)).own HRC.out (fun _ _ h => h), kd, own_base rd HB3.out.size, World.ownsRow_nil _ _ _ _, World.ownsRow_nil _ _ _ _, HB3.out.trans (hb4.mono HB3.out.size), hgcw, Nat.le_trans HB3.out.size hgd, by omega,
      (fun x h1 h2 => by have h3 := (HRC.out.lt x h1).2; have h4 := (rd.lt x h2).1; omega), (fun x _ h => by cases h), (fun x _ h => by cases h), (fun x _ h => by cases h), (fun x _ h => by cases h), (fun x _ h => by cases h)⟩
  have HTI := Lib.hid hTI
  clear hTI kd rd hb4 HN HKC HRC HB3 o0 o1 o2 hgl hgd
  go_wp2_with fail
  go_loopw [15, 16, 17, 18] (fun nv cv fv iv wr => ∃ (k : Nat) (now : Int) (Sc Sd : List Int) (nxc nxd : Bool) (duec dued : Int) (runc rund : List Int) (rvc rvd : Value), k ≤ n ∧ iv = .int .i64 (k : Int) ∧ nv = .int .i64 now ∧ 0 ≤ now ∧ now ≤ 511 * (k : Int) ∧
      TI w wr gc gd (hcC T (D : Int) (.slice Ac 0 cc) (.pointer none) now ((Sc.length : Int) + 1) (nxV gc nxc) duec rvc (-1) false 0) (hcC T (D : Int) (.slice Ad 0 cd) (.pointer none) now ((Sd.length : Int) + 1) (nxV gd nxd) dued rvd (-1) false 0) rvc rvd runc rund cv fv Sc Sd ∧ Tr T (D : Int) now Sc nxc duec ∧ Tr T (D : Int) now Sd nxd dued ∧ runc.length = Sc.length + 1 ∧ rund.length = Sd.length + 1 ∧ Cmp Sc Sd) (fun _ _ _ iv _ => n - (intOf iv).toNat)
  case atStart => exact ⟨0, 0, [], [], _, _, _, _, [0], [0], rvc, rvd, Nat.zero_le _, rfl, rfl, by omega, by omega, HTI.out, tr_start T _ hT1.1, tr_start T _ hT1.1, rfl, rfl, ⟨Nat.le_refl _, fun i hi => by simp at hi⟩⟩
  case round =>
    obtain ⟨k, now, Sc, Sd, nxc, nxd, duec, dued, runc, rund, rvc, rvd, hk, rfl, rfl, hn0, hn1, I, trc, trd, hrc, hrd, hcmp⟩ := hrel
    clear HTI
    obtain ⟨wo, rfl⟩ : ∃ wo : World, wo = wr := ⟨_, rfl⟩
    have hlc := trc.lim
    have hld := trd.lim
    by_cases hlt : k < n
    · obtain ⟨b0, off, rfl, hb0, hc0⟩ := (HX.out.below I.hb) k (by rw [HNN.out]; exact hlt)
      obtain ⟨q, hq, eq⟩ := and_511 (xs.getD k 0)
      obtain ⟨x, hx0⟩ : ∃ x, xs.getD k 0 = x := ⟨_, rfl⟩
      rw [hx0] at hc0 eq
      have TC := tick_any w.heap.size gc T (D : Int) (.slice Ac 0 cc) now ((Sc.length : Int) + 1) nxc duec rvc runc (-1) false 0 (now + (q : Int)) wo I.kc I.rc I.hb.size (by omega) (by omega) (by omega) (fun h => by rw [trc.nxe] at h; have := of_decide_eq_true h; omega) (by omega) (by omega) (by omega)
      rw [show max now (now + (q : Int)) = now + (q : Int) by omega] at TC
      have HTC := Lib.hid TC
      have HI := Lib.hid I
      have HTRC := Lib.hid trc
      have HTRD := Lib.hid trd
      have HCM := Lib.hid hcmp
      have HRC := Lib.hid hrc
      have HRD := Lib.hid hrd
      clear TC I hx0 trc trd hcmp hrc hrd
      go_wp2_with fail
      clear eq hc0
      generalize hm : now + (q : Int) = m at HTC ⊢
      have hm0 : now ≤ m := by omega
      have hm1 : m ≤ 511 * ((k + 1 : Nat) : Int) := by omega
      clear hm hq
      refine HTC.out.mono ?_
      rintro e w5 ⟨jc, rvc5, vc5, rfl, hsc, hec, hM5⟩
      have trc5 := HTRC.out.tick hm0 hsc
      have I5 := HI.out.tick hM5
      have hl5 := trc5.lim
      rw [List.length_append, List.length_replicate] at hl5
      obtain ⟨AE, cE, eE, _⟩ := evs_of_own (E := newEvs ((Sc.length : Int) + 1) m jc) (by rw [newEvs_length]; exact hec)
      rw [newEvs_length] at eE
      subst eE
      obtain ⟨csc5, hcs5⟩ : ∃ a : Array Value, a = hcC T (D : Int) (.slice Ac 0 cc) (.pointer none) m (((Sc ++ List.replicate jc m).length : Int) + 1) (nxV gc (nxAt T ((Sc.length : Int) + 1) nxc jc)) (dueAt (D : Int) m duec jc) rvc5 (-1) false 0 := ⟨_, rfl⟩
      have hcs6 : hcC T (D : Int) (.slice Ac 0 cc) (.pointer none) m ((Sc.length : Int) + 1 + (jc : Int)) (nxV gc (nxAt T ((Sc.length : Int) + 1) nxc jc)) (dueAt (D : Int) m duec jc) rvc5 (-1) false 0 = csc5 := by
        have hln : (((Sc ++ List.replicate jc m).length : Nat) : Int) + 1 = (Sc.length : Int) + 1 + (jc : Int) := by rw [List.length_append, List.length_replicate]; omega
        rw [hcs5, hln]
      rw [hcs6] at I5
      have hrun5 : (runc ++ newTries ((Sc.length : Int) + 1) jc).length = (Sc ++ List.replicate jc m).length + 1 := by
        have hrc0 := HRC.out
        rw [List.length_append, List.length_append, newTries_length, List.length_replicate]; omega
      have HI5 := Lib.hid I5
      have HEC := Lib.hid hec
      have HTRC5 := Lib.hid trc5
      have HCS5 := Lib.hid hcs5
      have HRUN5 := Lib.hid hrun5
      generalize runc ++ newTries ((Sc.length : Int) + 1) jc = runc5 at *
      generalize wo.heap.size = B2 at *
      clear I5 hec hM5 hsc trc5 hcs5 hcs6 hrun5 HTC HTRC HI
      go_wp2_with fail
      go_loopw [16, 21] (fun l kk wr => ∃ p : Nat, p ≤ jc ∧ kk = .int .i64 (p : Int) ∧ TI w wr gc gd csc5 (hcC T (D : Int) (.slice Ad 0 cd) (.pointer none) now ((Sd.length : Int) + 1) (nxV gd nxd) dued rvd (-1) false 0) rvc5 rvd runc5 rund l u17 (Sc ++ List.replicate p m) Sd ∧ wr.ownsRow B2 56 4 (.slice AE jc cE) jc (evV (newEvs ((Sc.length : Int) + 1) m jc))) (fun _ kk _ => jc - (intOf kk).toNat)
      case atStart => exact ⟨0, Nat.zero_le _, rfl, by rw [List.replicate_zero, List.append_nil]; exact HI5.out, HEC.out⟩
      case round =>
        obtain ⟨p, hp, rfl, I6, he6⟩ := hrel
        clear HI5 HEC
        obtain ⟨wi, rfl⟩ : ∃ wi : World, wi = wr := ⟨_, rfl⟩
        by_cases hlt2 : p < jc
        · obtain ⟨b6, off6, x6, rfl, _, hx6, _, _, _, c3⟩ := evs_at he6 (newEvs_length _ _ _) p (by rw [newEvs_length]; exact hlt2)
          rw [newEvs_get _ _ _ _ hlt2 x6 hx6] at c3
          have J6 := I6.ext ((Below.refl _ _).alloc (Nat.le_refl _) (.cells #[.int .i64 m] 3))
          have he7 := he6.alloc (.cells #[.int .i64 m] 3)
          have hR : Reads (wi.alloc (.cells #[.int .i64 m] 3)) (wi.heap.size + 1) 1 (some ⟨wi.heap.size, 0, none⟩) 1 [.int .i64 m] := ⟨rfl, fun _ => ⟨_, rfl, by simp, World.news_of_block (Blk.new wi 3 #[.int .i64 m])⟩⟩
          have hone : ∀ u ∈ [Value.int .i64 m], u.oneCell' = true := fun u hu => by simp only [List.mem_cons, List.not_mem_nil, or_false] at hu; subst hu; rfl
          have hln : (Sc ++ List.replicate p m).length ≤ 10 := by rw [List.length_append, List.length_replicate]; omega
          obtain ⟨i, hi, hi0, hi1, hi2⟩ := info_parts (P := Tryd.prog) (e := 3) (z := .int .i64 0) (size := 1) (bytes := 8) (by kernel_rfl)
          have HIF := Lib.hid hi
          have HJ6 := Lib.hid J6
          have HE7 := Lib.hid he7
          have HR := Lib.hid hR
          have HON := Lib.hid hone
          have HLN := Lib.hid hln
          clear I6 he6 hx6 hi J6 he7 hR hone hln
          go_wp2_with (refine wpList_append_any _ rfl (.tmp 94) (.tmp 100) 22 rfl w.heap.size 3 i (.int .i64 0) 1 8 Tryd.underlying22 HIF.out hi0 hi1 hi2 rfl (by decide) _ (Sc ++ List.replicate p m).length (intsV (Sc ++ List.replicate p m)) rfl HJ6.out.co (wi.heap.size + 1) (some ⟨wi.heap.size, 0, none⟩) 1 1 [.int .i64 m] rfl HR.out HON.out (by have := HLN.out; unfold maxLen; omega) (by have := HLN.out; omega) HJ6.out.hb.size ?_; intro v6 w6 ho6 hg6 hat6)
          have ho7 : w6.ownsRow w.heap.size 3 1 v6 (Sc ++ List.replicate (p + 1) m).length (intsV (Sc ++ List.replicate (p + 1) m)) := by
            have e : Sc ++ List.replicate (p + 1) m = (Sc ++ List.replicate p m) ++ [m] := by rw [rep_succ, List.append_assoc]
            rw [e, List.length_append]
            simpa [intsV] using ho6
          have HI7 := Lib.hid (HJ6.out.app ho7 hg6 hat6)
          have HE8 := Lib.hid (evs_app HE7.out HJ6.out.co hg6)
          clear ho6 ho7 hg6 hat6 HJ6 HE7 HR HON HIF HLN c3
          go_roundw
          case rel => exact ⟨p + 1, by omega, by go_num, HI7.out, HE8.out⟩
          case measure => simp [intOf]; omega
        · have hpj : jc = p := by omega
          subst hpj
          have HI6c := Lib.hid I6
          clear I6 he6
          obtain ⟨cv5, rfl⟩ : ∃ z : Value, z = u16 := ⟨_, rfl⟩
          go_wp2_with fail
          go_loopw [17, 22] (fun fl tv wr => ∃ (tn t0 : Int) (Sd : List Int) (nxd : Bool) (dued : Int) (rund : List Int) (rvd : Value), tv = .int .i64 t0 ∧ 0 ≤ tn ∧ tn ≤ t0 ∧ tn ≤ m ∧ t0 ≤ m + 7 ∧ TI w wr gc gd csc5 (hcC T (D : Int) (.slice Ad 0 cd) (.pointer none) tn ((Sd.length : Int) + 1) (nxV gd nxd) dued rvd (-1) false 0) rvc5 rvd runc5 rund cv5 fl (Sc ++ List.replicate jc m) Sd ∧ Tr T (D : Int) tn Sd nxd dued ∧ rund.length = Sd.length + 1 ∧ Cmp Sc Sd) (fun _ tv _ => (m + 1 - intOf tv).toNat)
          case atStart => exact ⟨now, now, Sd, nxd, dued, rund, rvd, rfl, by omega, by omega, by omega, by omega, HI6c.out, HTRD.out, HRD.out, HCM.out⟩
          case round =>
            obtain ⟨tn, t0, Sd, nxd, dued, rund, rvd, rfl, ht0, ht1, ht2, ht3, I8, trd, hrd, hcmp⟩ := hrel
            clear HI6c HTRD HRD HCM
            obtain ⟨wt, rfl⟩ : ∃ wt : World, wt = wr := ⟨_, rfl⟩
            have hld := trd.lim
            by_cases htm : t0 ≤ m
            · have TD := tick_any w.heap.size gd T (D : Int) (.slice Ad 0 cd) tn ((Sd.length : Int) + 1) nxd dued rvd rund (-1) false 0 t0 wt I8.kd I8.rd I8.hb.size (by omega) (by omega) (by omega) (fun h => by rw [trd.nxe] at h; have := of_decide_eq_true h; omega) (by omega) (by omega) (by omega)
              rw [show max tn t0 = t0 by omega] at TD
              have HTD := Lib.hid TD
              have HI6 := Lib.hid I8
              have HTRD := Lib.hid trd
              have HRDL := Lib.hid hrd
              have HCM := Lib.hid hcmp
              clear TD I8 trd hrd hcmp
              go_wp2_with fail
              refine HTD.out.mono ?_
              rintro e wd ⟨jd, rvd5, vd5, rfl, hsd, hed, hMd⟩
              have trd5 := HTRD.out.tick (show tn ≤ t0 by omega) hsd
              have I7 := (HI6.out.swap.tick hMd).swap
              have hl7 := trd5.lim
              rw [List.length_append, List.length_replicate] at hl7
              obtain ⟨AF, cF, eF, _⟩ := evs_of_own (E := newEvs ((Sd.length : Int) + 1) t0 jd) (by rw [newEvs_length]; exact hed)
              rw [newEvs_length] at eF
              subst eF
              obtain ⟨csd5, hds5⟩ : ∃ a : Array Value, a = hcC T (D : Int) (.slice Ad 0 cd) (.pointer none) t0 (((Sd ++ List.replicate jd t0).length : Int) + 1) (nxV gd (nxAt T ((Sd.length : Int) + 1) nxd jd)) (dueAt (D : Int) t0 dued jd) rvd5 (-1) false 0 := ⟨_, rfl⟩
              have hds6 : hcC T (D : Int) (.slice Ad 0 cd) (.pointer none) t0 ((Sd.length : Int) + 1 + (jd : Int)) (nxV gd (nxAt T ((Sd.length : Int) + 1) nxd jd)) (dueAt (D : Int) t0 dued jd) rvd5 (-1) false 0 = csd5 := by
                have hln : (((Sd ++ List.replicate jd t0).length : Nat) : Int) + 1 = (Sd.length : Int) + 1 + (jd : Int) := by rw [List.length_append, List.length_replicate]; omega
                rw [hds5, hln]
              rw [hds6] at I7
              have hrun7 : (rund ++ newTries ((Sd.length : Int) + 1) jd).length = (Sd ++ List.replicate jd t0).length + 1 := by
                have hrd0 := HRDL.out
                rw [List.length_append, List.length_append, newTries_length, List.length_replicate]; omega

              have HI7d := Lib.hid I7
              have HED := Lib.hid hed
              have HTRD5 := Lib.hid trd5
              have HDS5 := Lib.hid hds5
              have HRUN7 := Lib.hid hrun7
              generalize rund ++ newTries ((Sd.length : Int) + 1) jd = rund5 at *
              generalize wt.heap.size = B3 at *
              clear I7 hed hMd hsd trd5 hds5 hds6 hrun7 HTD HTRD HI6
              go_wp2_with fail
              go_loopw [17, 24] (fun l kk wr => ∃ p : Nat, p ≤ jd ∧ kk = .int .i64 (p : Int) ∧ TI w wr gc gd csc5 csd5 rvc5 rvd5 runc5 rund5 cv5 l (Sc ++ List.replicate jc m) (Sd ++ List.replicate p t0) ∧ wr.ownsRow B3 56 4 (.slice AF jd cF) jd (evV (newEvs ((Sd.length : Int) + 1) t0 jd))) (fun _ kk _ => jd - (intOf kk).toNat)
              case atStart => exact ⟨0, Nat.zero_le _, rfl, by rw [List.replicate_zero, List.append_nil]; exact HI7d.out, HED.out⟩
              case round =>
                obtain ⟨p, hp, rfl, I6, he6⟩ := hrel
                clear HI7d HED
                obtain ⟨wi, rfl⟩ : ∃ wi : World, wi = wr := ⟨_, rfl⟩
                by_cases hlt2 : p < jd
                · obtain ⟨b6, off6, x6, rfl, _, hx6, _, _, _, c3⟩ := evs_at he6 (newEvs_length _ _ _) p (by rw [newEvs_length]; exact hlt2)
                  rw [newEvs_get _ _ _ _ hlt2 x6 hx6] at c3
                  have J6 := I6.swap.ext ((Below.refl _ _).alloc (Nat.le_refl _) (.cells #[.int .i64 t0] 3))
                  have he7 := he6.alloc (.cells #[.int .i64 t0] 3)
                  have hR : Reads (wi.alloc (.cells #[.int .i64 t0] 3)) (wi.heap.size + 1) 1 (some ⟨wi.heap.size, 0, none⟩) 1 [.int .i64 t0] := ⟨rfl, fun _ => ⟨_, rfl, by simp, World.news_of_block (Blk.new wi 3 #[.int .i64 t0])⟩⟩
                  have hone : ∀ u ∈ [Value.int .i64 t0], u.oneCell' = true := fun u hu => by simp only [List.mem_cons, List.not_mem_nil, or_false] at hu; subst hu; rfl
                  have hln : (Sd ++ List.replicate p t0).length ≤ 10 := by rw [List.length_append, List.length_replicate]; omega
                  obtain ⟨i, hi, hi0, hi1, hi2⟩ := info_parts (P := Tryd.prog) (e := 3) (z := .int .i64 0) (size := 1) (bytes := 8) (by kernel_rfl)
                  have HIF := Lib.hid hi
                  have HJ6 := Lib.hid J6
                  have HE7 := Lib.hid he7
                  have HR := Lib.hid hR
                  have HON := Lib.hid hone
                  have HLN := Lib.hid hln
                  clear I6 he6 hx6 hi J6 he7 hR hone hln
                  go_wp2_with (refine wpList_append_any _ rfl (.tmp 117) (.tmp 123) 22 rfl w.heap.size 3 i (.int .i64 0) 1 8 Tryd.underlying22 HIF.out hi0 hi1 hi2 rfl (by decide) _ (Sd ++ List.replicate p t0).length (intsV (Sd ++ List.replicate p t0)) rfl HJ6.out.co (wi.heap.size + 1) (some ⟨wi.heap.size, 0, none⟩) 1 1 [.int .i64 t0] rfl HR.out HON.out (by have := HLN.out; unfold maxLen; omega) (by have := HLN.out; omega) HJ6.out.hb.size ?_; intro v6 w6 ho6 hg6 hat6)
                  have ho7 : w6.ownsRow w.heap.size 3 1 v6 (Sd ++ List.replicate (p + 1) t0).length (intsV (Sd ++ List.replicate (p + 1) t0)) := by
                    have e : Sd ++ List.replicate (p + 1) t0 = (Sd ++ List.replicate p t0) ++ [t0] := by rw [rep_succ, List.append_assoc]
                    rw [e, List.length_append]
                    simpa [intsV] using ho6
                  have HI7 := Lib.hid (HJ6.out.app ho7 hg6 hat6)
                  have HE8 := Lib.hid (evs_app HE7.out HJ6.out.co hg6)
                  clear ho6 ho7 hg6 hat6 HJ6 HE7 HR HON HIF HLN c3
                  go_roundw
                  case rel => exact ⟨p + 1, by omega, by go_num, HI7.out.swap, HE8.out⟩
                  case measure => simp [intOf]; omega
                · have hpj : jd = p := by omega
                  subst hpj
                  have hI9 := I6
                  rw [HDS5.out] at hI9
                  have HI9 := Lib.hid hI9
                  have HC9 := Lib.hid (HCM.out.more (List.replicate jd t0))
                  clear I6 hI9 he6 HCM
                  go_wp2_with fail
                  go_roundw
                  case rel => exact ⟨t0, t0 + 7, Sd ++ List.replicate jd t0, _, _, rund5, rvd5, rfl, by omega, by omega, by omega, by omega, HI9.out, HTRD5.out, HRUN7.out, HC9.out⟩
                  case measure => simp [intOf]; omega
            · have hcmp0 := hcmp
              have TD := tick_any w.heap.size gd T (D : Int) (.slice Ad 0 cd) tn ((Sd.length : Int) + 1) nxd dued rvd rund (-1) false 0 m wt I8.kd I8.rd I8.hb.size (by omega) (by omega) (by omega) (fun h => by rw [trd.nxe] at h; have := of_decide_eq_true h; omega) (by omega) (by omega) (by omega)
              rw [show max tn m = m by omega] at TD
              have HTD := Lib.hid TD
              have HI6 := Lib.hid I8
              have HTRD := Lib.hid trd
              have HRDL := Lib.hid hrd
              have HCM := Lib.hid hcmp
              clear TD I8 trd hrd hcmp
              go_wp2_with fail
              refine HTD.out.mono ?_
              rintro e wd ⟨jd, rvd5, vd5, rfl, hsd, hed, hMd⟩
              have trd5 := HTRD.out.tick (show tn ≤ m by omega) hsd
              have I7 := (HI6.out.swap.tick hMd).swap
              have hl7 := trd5.lim
              rw [List.length_append, List.length_replicate] at hl7
              obtain ⟨AF, cF, eF, _⟩ := evs_of_own (E := newEvs ((Sd.length : Int) + 1) m jd) (by rw [newEvs_length]; exact hed)
              rw [newEvs_length] at eF
              subst eF
              obtain ⟨csd5, hds5⟩ : ∃ a : Array Value, a = hcC T (D : Int) (.slice Ad 0 cd) (.pointer none) m (((Sd ++ List.replicate jd m).length : Int) + 1) (nxV gd (nxAt T ((Sd.length : Int) + 1) nxd jd)) (dueAt (D : Int) m dued jd) rvd5 (-1) false 0 := ⟨_, rfl⟩
              have hds6 : hcC T (D : Int) (.slice Ad 0 cd) (.pointer none) m ((Sd.length : Int) + 1 + (jd : Int)) (nxV gd (nxAt T ((Sd.length : Int) + 1) nxd jd)) (dueAt (D : Int) m dued jd) rvd5 (-1) false 0 = csd5 := by
                have hln : (((Sd ++ List.replicate jd m).length : Nat) : Int) + 1 = (Sd.length : Int) + 1 + (jd : Int) := by rw [List.length_append, List.length_replicate]; omega
                rw [hds5, hln]
              rw [hds6] at I7
              have hrun7 : (rund ++ newTries ((Sd.length : Int) + 1) jd).length = (Sd ++ List.replicate jd m).length + 1 := by
                have hrd0 := HRDL.out
                rw [List.length_append, List.length_append, newTries_length, List.length_replicate]; omega
              have hcs := (hcmp0.more (List.replicate jd m)).sync HTRC5.out trd5 hsd.stop
              have HCS := Lib.hid hcs
              clear hcs hcmp0
              have HI7d := Lib.hid I7
              have HED := Lib.hid hed
              have HTRD5 := Lib.hid trd5
              have HDS5 := Lib.hid hds5
              have HRUN7 := Lib.hid hrun7
              generalize rund ++ newTries ((Sd.length : Int) + 1) jd = rund5 at *
              generalize wt.heap.size = B3 at *
              clear I7 hed hMd hsd trd5 hds5 hds6 hrun7 HTD HTRD HI6
              go_wp2_with fail
              go_loopw [17, 26] (fun l kk wr => ∃ p : Nat, p ≤ jd ∧ kk = .int .i64 (p : Int) ∧ TI w wr gc gd csc5 csd5 rvc5 rvd5 runc5 rund5 cv5 l (Sc ++ List.replicate jc m) (Sd ++ List.replicate p m) ∧ wr.ownsRow B3 56 4 (.slice AF jd cF) jd (evV (newEvs ((Sd.length : Int) + 1) m jd))) (fun _ kk _ => jd - (intOf kk).toNat)
              case atStart => exact ⟨0, Nat.zero_le _, rfl, by rw [List.replicate_zero, List.append_nil]; exact HI7d.out, HED.out⟩
              case round =>
                obtain ⟨p, hp, rfl, I6, he6⟩ := hrel
                clear HI7d HED
                obtain ⟨wi, rfl⟩ : ∃ wi : World, wi = wr := ⟨_, rfl⟩
                by_cases hlt2 : p < jd
                · obtain ⟨b6, off6, x6, rfl, _, hx6, _, _, _, c3⟩ := evs_at he6 (newEvs_length _ _ _) p (by rw [newEvs_length]; exact hlt2)
                  rw [newEvs_get _ _ _ _ hlt2 x6 hx6] at c3
                  have J6 := I6.swap.ext ((Below.refl _ _).alloc (Nat.le_refl _) (.cells #[.int .i64 m] 3))
                  have he7 := he6.alloc (.cells #[.int .i64 m] 3)
                  have hR : Reads (wi.alloc (.cells #[.int .i64 m] 3)) (wi.heap.size + 1) 1 (some ⟨wi.heap.size, 0, none⟩) 1 [.int .i64 m] := ⟨rfl, fun _ => ⟨_, rfl, by simp, World.news_of_block (Blk.new wi 3 #[.int .i64 m])⟩⟩
                  have hone : ∀ u ∈ [Value.int .i64 m], u.oneCell' = true := fun u hu => by simp only [List.mem_cons, List.not_mem_nil, or_false] at hu; subst hu; rfl
                  have hln : (Sd ++ List.replicate p m).length ≤ 10 := by rw [List.length_append, List.length_replicate]; omega
                  obtain ⟨i, hi, hi0, hi1, hi2⟩ := info_parts (P := Tryd.prog) (e := 3) (z := .int .i64 0) (size := 1) (bytes := 8) (by kernel_rfl)
                  have HIF := Lib.hid hi
                  have HJ6 := Lib.hid J6
                  have HE7 := Lib.hid he7
                  have HR := Lib.hid hR
                  have HON := Lib.hid hone
                  have HLN := Lib.hid hln
                  clear I6 he6 hx6 hi J6 he7 hR hone hln
                  go_wp2_with (refine wpList_append_any _ rfl (.tmp 134) (.tmp 140) 22 rfl w.heap.size 3 i (.int .i64 0) 1 8 Tryd.underlying22 HIF.out hi0 hi1 hi2 rfl (by decide) _ (Sd ++ List.replicate p m).length (intsV (Sd ++ List.replicate p m)) rfl HJ6.out.co (wi.heap.size + 1) (some ⟨wi.heap.size, 0, none⟩) 1 1 [.int .i64 m] rfl HR.out HON.out (by have := HLN.out; unfold maxLen; omega) (by have := HLN.out; omega) HJ6.out.hb.size ?_; intro v6 w6 ho6 hg6 hat6)
                  have ho7 : w6.ownsRow w.heap.size 3 1 v6 (Sd ++ List.replicate (p + 1) m).length (intsV (Sd ++ List.replicate (p + 1) m)) := by
                    have e : Sd ++ List.replicate (p + 1) m = (Sd ++ List.replicate p m) ++ [m] := by rw [rep_succ, List.append_assoc]
                    rw [e, List.length_append]
                    simpa [intsV] using ho6
                  have HI7 := Lib.hid (HJ6.out.app ho7 hg6 hat6)
                  have HE8 := Lib.hid (evs_app HE7.out HJ6.out.co hg6)
                  clear ho6 ho7 hg6 hat6 HJ6 HE7 HR HON HIF HLN c3
                  go_roundw
                  case rel => exact ⟨p + 1, by omega, by go_num, HI7.out.swap, HE8.out⟩
                  case measure => simp [intOf]; omega
                · have hpj : jd = p := by omega
                  subst hpj
                  have hI9 := I6
                  rw [HDS5.out, HCS5.out] at hI9
                  have HI9 := Lib.hid hI9
                  clear I6 hI9 he6
                  go_wp2_with fail
                  go_roundw
                  case rel => exact ⟨k + 1, m, Sc ++ List.replicate jc m, Sd ++ List.replicate jd m, _, _, _, _, runc5, rund5, rvc5, rvd5, by omega, by go_num, rfl, by omega, hm1, HI9.out, HTRC5.out, HTRD5.out, HRUN5.out, HRUN7.out, HCS.out⟩
                  case measure => simp [intOf]; omega
    · obtain ⟨AC, cC, eC, hC⟩ := Pol.own_ints (n := Sc.length) rfl I.co
      obtain ⟨AF, cF, eF, hF⟩ := Pol.own_ints (n := Sd.length) rfl I.fi
      have hb9 := Lib.hid I.hb
      subst eC
      subst eF
      have hle := hcmp.1
      have HC := Lib.hid hC
      have HF := Lib.hid hF
      have HCM := Lib.hid hcmp.2
      have HGC := Lib.hid trc.ge
      have HGD := Lib.hid trd.ge
      have hg1 : decide (Sd.length < Sc.length) = false := decide_eq_false (by omega)
      have hg2 : decide ((Sd.length : Int) < (Sc.length : Int)) = false := decide_eq_false (by omega)
      have hg3 : decide (T - 1 < (Sd.length : Int)) = false := decide_eq_false (by omega)
      clear I trc trd hrc hrd HX hC hF hcmp
      go_wp2_with fail
      go_loopw [27] (fun iv wr => ∃ (i q : Nat), i ≤ Sc.length ∧ iv = .int .i64 (i : Int) ∧ wr = wo.drewN q) (fun iv _ => Sc.length - (intOf iv).toNat)
      case atStart => exact ⟨0, 0, Nat.zero_le _, rfl, rfl⟩
      case round =>
        obtain ⟨i, q, hi, rfl, rfl⟩ := hrel
        by_cases hil : i < Sc.length
        · obtain ⟨b, off, rfl, hb, c0⟩ := HC.out i hil
          obtain ⟨b', off', rfl, hb', d0⟩ := HF.out i (by omega)
          have h1 := HGC.out i hil
          have h2 := HCM.out i hil
          have h3 := HGD.out i (by omega)
          generalize Sc.getD i 0 = x at c0 h1 h2
          generalize Sd.getD i 0 = y at d0 h2 h3
          have hP : 0 ≤ ((i : Int) + 1) * (D : Int) ∧ ((i : Int) + 1) * (D : Int) ≤ 4 * 1023 := by
            have a1 : ((i : Int) + 1) * (D : Int) ≤ 4 * (D : Int) := Int.mul_le_mul_of_nonneg_right (by omega) (by omega)
            exact ⟨Int.mul_nonneg (by omega) (by omega), by omega⟩
          have hn1 : ¬ x < ((i : Int) + 1) * (D : Int) := by omega
          have hn2 : ¬ x < y := by omega
          have hn3 : ¬ y < ((i : Int) + 1) * (D : Int) := by omega
          have hd1 : decide (x < ((i : Int) + 1) * (D : Int)) = false := decide_eq_false hn1
          have hd2 : decide (x < y) = false := decide_eq_false hn2
          have hd3 : decide (y < ((i : Int) + 1) * (D : Int)) = false := decide_eq_false hn3
          clear h1 h2 h3
          go_wp2_with fail
          go_quiet (fail)
          go_wp2_with fail
          go_roundw
          case rel => exact ⟨i + 1, q + nq, by omega, by go_num, rfl⟩
          case measure => simp [intOf]; omega
        · go_wp2_with fail
          go_ret
          exact ⟨rfl, below_drewN hb9.out q⟩
end Go.Proofs.YtnmcjdiihebagaaDoor.Hdg
