/-
  The walk of hpack's Size: what a list counts.
-/
import Derived.Test.YtflmgjidnclegaaDoorPutM
import Derived.Test.YtflmgjidnclegaaDoorTabM
import Derived.Test.YtflmgjidnclegaaDoorBaseM
import Derived.Test.YtflmgjidnclegaaDoorDecM
import Derived.Test.YtflmgjidnclegaaDoorPairM
namespace Go.Proofs.YtflmgjidnclegaaDoor.Hpk
open Go.RowKit
open Tab (Hd hsz tot Hn HnAt)
theorem tots_take (L : List Hn) (k : Nat) (x : Hn) (h : L[k]? = some x) : tots (L.take (k + 1)) = tots (L.take k) + hsz (x.1, x.2.1) := by
  induction L generalizing k with
  | nil => simp at h
  | cons y t ih =>
    cases k with
    | zero =>
      obtain rfl : y = x := by simpa using h
      show hsz (y.1, y.2.1) + 0 = 0 + _
      omega
    | succ k =>
      have := ih k (by simpa using h)
      show hsz (y.1, y.2.1) + tots (t.take (k + 1)) = hsz (y.1, y.2.1) + tots (t.take k) + _
      omega
theorem tots_take_le (L : List Hn) (k : Nat) : tots (L.take k) ≤ tots L := by
  induction L generalizing k with
  | nil => simp
  | cons y t ih =>
    cases k with
    | zero => exact Nat.zero_le _
    | succ k =>
      have := ih k
      show hsz (y.1, y.2.1) + tots (t.take k) ≤ hsz (y.1, y.2.1) + tots t
      omega
set_option maxRecDepth 100000 in
set_option maxHeartbeats 1000000 in
theorem lsize_any (A : Option Addr) (cap : Nat) (L : List Hn) (hl : L.length ≤ 1048576) (hL : tots L ≤ 4611686018427387904) (w : World) (hA : HnAt w A L) :
    Calls Tryd.prog 36 #[.slice A L.length cap] w fun e w' => e = .returned (.int .i64 (tots L : Int)) ∧ Below w.heap.size w w' := by
  have HA := Lib.hid hA
  clear hA
  go_enter Tryd.func36, Tryd.ntmps36
  go_wp2_with fail
  go_loopw [3, 8] (fun s i wr => ∃ k : Nat, i = .int .i64 (k : Int) ∧ s = .int .i64 (tots (L.take k) : Int) ∧ k ≤ L.length ∧ Since w wr) (fun _ i _ => L.length - (intOf i).toNat)
  case atStart => exact ⟨0, rfl, rfl, Nat.zero_le _, Below.refl _ _⟩
  case round =>
    obtain ⟨k, rfl, rfl, hk, hs⟩ := hrel
    by_cases hlt : k < L.length
    · obtain ⟨x, hx⟩ : ∃ x, L[k]? = some x := ⟨_, List.getElem?_eq_getElem hlt⟩
      obtain ⟨b, off, hAe, _, a0, a1, a2⟩ := (HA.out.below hs) k x hx
      subst hAe
      have ht := tots_take L k x hx
      have htl := tots_take_le L (k + 1)
      have HTT := Lib.hid ht
      obtain ⟨n, v, nv⟩ := x
      simp only at a0 a1 a2 HTT ht
      have hd : decide ((k : Int) < (L.length : Int)) = true := decide_eq_true (by omega)
      have hzb : tots (L.take k) + hsz (n, v) ≤ 4611686018427387904 := by omega
      have HSZ := Lib.hid (fun W => Tab.size_any n v nv (hsz (n, v)) rfl (by omega) W)
      have HS := Lib.hid (Below.alloc (show Below w.heap.size w wr from hs) (Below.size hs) (.cells #[.string n, .string v, .bool nv] 23))
      have k0 := Blk.new wr 23 #[.string n, .string v, .bool nv]
      clear hs hx ht
      go_wp2_with fail
      refine (HSZ.out _).mono ?_
      rintro e w2 ⟨rfl, hb2⟩
      have HS2 := Lib.hid (Below.trans HS.out (Below.mono hb2 (Below.size HS.out)))
      generalize hsz (n, v) = z at *
      clear hb2 k0 a0 a1 a2
      go_wp2_with fail
      go_roundw
      case rel => exact ⟨k + 1, by go_num, by rw [HTT.out]; go_num, by omega, HS2.out⟩
      case measure => simp [intOf]; omega
    · have hd : decide ((k : Int) < (L.length : Int)) = false := decide_eq_false (by omega)
      have HS := Lib.hid hs
      have e : L.take k = L := List.take_of_length_le (by omega)
      rw [e]
      clear hs
      go_wp2_with fail
      go_ret
      exact ⟨rfl, HS.out⟩
end Go.Proofs.YtflmgjidnclegaaDoor.Hpk
/-
  The walk of Decode at a decoder that has given up.
-/
namespace Go.Proofs.YtflmgjidnclegaaDoor.Hpk
open Go.RowKit
open Tab (Hn Hd Tbl)
set_option maxRecDepth 100000 in
set_option maxHeartbeats 2000000 in
theorem decode_gone {w : World} {D g r lim m : Nat} {ev : Er → Value} {Q : List Hd} (A : Option Addr) (n cap : Nat) (hd : Dec w D g r lim Q m true) (hE : Errs w ev) :
    Calls Tryd.prog 41 #[.pointer (some ⟨D, 0, none⟩), .slice A n cap] w fun e w' => e = .returned (.tuple #[.slice none 0 0, ev .gone]) ∧ Below w.heap.size w w' := by
  have hB0 : Below w.heap.size w (((w.alloc (.cells #[.pointer (some ⟨D, 0, none⟩)] 62)).alloc (.cells #[.slice none 0 0] 51)).alloc (.cells #[.nilIface] 35)) := (((Below.refl _ _).alloc (Nat.le_refl _) _).alloc (by simp) _).alloc (by simp; omega) _
  have kd0 := hd.kd.below hB0 hd.kd.lt
  have c2 : (((w.alloc (.cells #[.pointer (some ⟨D, 0, none⟩)] 62)).alloc (.cells #[.slice none 0 0] 51)).alloc (.cells #[.nilIface] 35)).cell? ⟨D, 2, none⟩ = some (.bool true) := kd0.cell 2
  have eg := ((hE.below hB0) .gone).1
  obtain ⟨t, u, hv⟩ := ((hE.below hB0) .gone).2.2
  rw [hv] at eg ⊢
  have eg : (((w.alloc (.cells #[.pointer (some ⟨D, 0, none⟩)] 62)).alloc (.cells #[.slice none 0 0] 51)).alloc (.cells #[.nilIface] 35)).cell? ⟨1, 0, none⟩ = some (.iface t u) := eg
  have k4 : Blk (((w.alloc (.cells #[.pointer (some ⟨D, 0, none⟩)] 62)).alloc (.cells #[.slice none 0 0] 51)).alloc (.cells #[.nilIface] 35)) (w.heap.size + 1) 51 #[.slice none 0 0] := by
    have := (Blk.new (w.alloc (.cells #[.pointer (some ⟨D, 0, none⟩)] 62)) 51 #[.slice none 0 0]).alloc (.cells #[.nilIface] 35)
    simpa using this
  have k5 : Blk (((w.alloc (.cells #[.pointer (some ⟨D, 0, none⟩)] 62)).alloc (.cells #[.slice none 0 0] 51)).alloc (.cells #[.nilIface] 35)) (w.heap.size + 1 + 1) 35 #[.nilIface] := by
    have := Blk.new ((w.alloc (.cells #[.pointer (some ⟨D, 0, none⟩)] 62)).alloc (.cells #[.slice none 0 0] 51)) 35 #[.nilIface]
    simpa using this
  have hg1 : 1 < w.heap.size + 1 := by have := (hE .gone).2.1; show gOf .gone < _; omega
  have HB0 := Lib.hid hB0
  have HK4 := Lib.hid k4
  have HK5 := Lib.hid k5
  clear hd hE hB0 kd0 hv k4 k5
  go_enter_defers Tryd.func41, Tryd.ntmps41
  go_wp2_with fail
  generalize ((w.alloc (.cells #[.pointer (some ⟨D, 0, none⟩)] 62)).alloc (.cells #[.slice none 0 0] 51)).alloc (.cells #[.nilIface] 35) = W0 at *
  have f4 := HK4.out.frozen 0
  have f5 := HK5.out.frozen 0
  have k5a := HK5.out.far (p := ⟨w.heap.size + 1, 0, none⟩) (by show w.heap.size + 1 + 1 ≠ w.heap.size + 1; omega) (.slice none 0 0)
  have k4a := HK4.out.far (p := ⟨w.heap.size + 1 + 1, 0, none⟩) (by show w.heap.size + 1 ≠ w.heap.size + 1 + 1; omega) (.iface t u)
  have f5a : (W0.setCell ⟨w.heap.size + 1, 0, none⟩ (.slice none 0 0)).frozen? ⟨w.heap.size + 1 + 1, 0, none⟩ = false := k5a.frozen 0
  have f4a : (W0.setCell ⟨w.heap.size + 1 + 1, 0, none⟩ (.iface t u)).frozen? ⟨w.heap.size + 1, 0, none⟩ = false := k4a.frozen 0
  have ega : (W0.setCell ⟨w.heap.size + 1, 0, none⟩ (.slice none 0 0)).cell? ⟨1, 0, none⟩ = some (.iface t u) := by
    have hb : Below (w.heap.size + 1) W0 (W0.setCell ⟨w.heap.size + 1, 0, none⟩ (.slice none 0 0)) := (Below.refl (w.heap.size + 1) W0).setCell (p := ⟨w.heap.size + 1, 0, none⟩) (Nat.le_refl _) _
    exact (Below.cell hb (p := ⟨1, 0, none⟩) hg1).trans eg
  have l4 : W0.cell? ⟨w.heap.size + 1, 0, none⟩ = some (.slice none 0 0) := HK4.out.cell 0
  have l5 : W0.cell? ⟨w.heap.size + 1 + 1, 0, none⟩ = some .nilIface := HK5.out.cell 0
  have l5a : (W0.setCell ⟨w.heap.size + 1, 0, none⟩ (.slice none 0 0)).cell? ⟨w.heap.size + 1 + 1, 0, none⟩ = some .nilIface := k5a.cell 0
  have l4a : (W0.setCell ⟨w.heap.size + 1 + 1, 0, none⟩ (.iface t u)).cell? ⟨w.heap.size + 1, 0, none⟩ = some (.slice none 0 0) := k4a.cell 0
  have HA4 := Lib.hid ((HK4.out.set_ 0 (.slice none 0 0)).far (p := ⟨w.heap.size + 1 + 1, 0, none⟩) (by show w.heap.size + 1 ≠ w.heap.size + 1 + 1; omega) (.iface t u))
  have HA5 := Lib.hid (k5a.set_ 0 (.iface t u))
  have HC5 := Lib.hid ((HK5.out.set_ 0 (.iface t u)).far (p := ⟨w.heap.size + 1, 0, none⟩) (by show w.heap.size + 1 + 1 ≠ w.heap.size + 1; omega) (.slice none 0 0))
  have HC4 := Lib.hid (k4a.set_ 0 (.slice none 0 0))
  have HBA := Lib.hid ((HB0.out.setCell (p := ⟨w.heap.size + 1, 0, none⟩) (by show w.heap.size ≤ w.heap.size + 1; omega) (.slice none 0 0)).setCell (p := ⟨w.heap.size + 1 + 1, 0, none⟩) (by show w.heap.size ≤ w.heap.size + 1 + 1; omega) (.iface t u))
  have HBC := Lib.hid ((HB0.out.setCell (p := ⟨w.heap.size + 1 + 1, 0, none⟩) (by show w.heap.size ≤ w.heap.size + 1 + 1; omega) (.iface t u)).setCell (p := ⟨w.heap.size + 1, 0, none⟩) (by show w.heap.size ≤ w.heap.size + 1; omega) (.slice none 0 0))
  clear k5a k4a
  go_region
  all_goals go_wp2_with fail
  exact ⟨_, dec_results rfl rfl HA4.out.drew HA5.out.drew, rfl, HBA.out.drew⟩
end Go.Proofs.YtflmgjidnclegaaDoor.Hpk
/-
  The walk of Decode at no byte, wherever the empty slice may point.
-/
namespace Go.Proofs.YtflmgjidnclegaaDoor.Hpk
open Go.RowKit
open Tab (Hn Hd hncs Tbl)
set_option maxRecDepth 100000 in
set_option maxHeartbeats 4000000 in
theorem decode_nil {w : World} {D g r lim m : Nat} {ev : Er → Value} {Q : List Hd} (A : Option Addr) (cap : Nat) (hd : Dec w D g r lim Q m false) :
    Calls Tryd.prog 41 #[.pointer (some ⟨D, 0, none⟩), .slice A 0 cap] w (DecEnd w D g r lim ev (.ok ⟨[], [], 0, Q, m⟩)) := by
  have hDl := hd.kd.lt
  have hB0 : Below w.heap.size w (((w.alloc (.cells #[.pointer (some ⟨D, 0, none⟩)] 62)).alloc (.cells #[.slice none 0 0] 51)).alloc (.cells #[.nilIface] 35)) := (((Below.refl _ _).alloc (Nat.le_refl _) _).alloc (by simp) _).alloc (by simp; omega) _
  have kd0 := hd.kd.below hB0 hd.kd.lt
  have c2 : (((w.alloc (.cells #[.pointer (some ⟨D, 0, none⟩)] 62)).alloc (.cells #[.slice none 0 0] 51)).alloc (.cells #[.nilIface] 35)).cell? ⟨D, 2, none⟩ = some (.bool false) := kd0.cell 2
  have k2 : Blk (((w.alloc (.cells #[.pointer (some ⟨D, 0, none⟩)] 62)).alloc (.cells #[.slice none 0 0] 51)).alloc (.cells #[.nilIface] 35)) w.heap.size 62 #[.pointer (some ⟨D, 0, none⟩)] := ((Blk.new _ _ _).alloc _).alloc _
  have k4 : Blk (((w.alloc (.cells #[.pointer (some ⟨D, 0, none⟩)] 62)).alloc (.cells #[.slice none 0 0] 51)).alloc (.cells #[.nilIface] 35)) (w.heap.size + 1) 51 #[.slice none 0 0] := by
    have := (Blk.new (w.alloc (.cells #[.pointer (some ⟨D, 0, none⟩)] 62)) 51 #[.slice none 0 0]).alloc (.cells #[.nilIface] 35)
    simpa using this
  have k5 : Blk (((w.alloc (.cells #[.pointer (some ⟨D, 0, none⟩)] 62)).alloc (.cells #[.slice none 0 0] 51)).alloc (.cells #[.nilIface] 35)) (w.heap.size + 1 + 1) 35 #[.nilIface] := by
    have := Blk.new ((w.alloc (.cells #[.pointer (some ⟨D, 0, none⟩)] 62)).alloc (.cells #[.slice none 0 0] 51)) 35 #[.nilIface]
    simpa using this
  have HD := Lib.hid hd
  have HB0 := Lib.hid hB0
  have HK2 := Lib.hid k2
  have HK4 := Lib.hid k4
  have HK5 := Lib.hid k5
  clear hd hB0 kd0 k2 k4 k5
  go_enter_defers Tryd.func41, Tryd.ntmps41
  go_wp2_with fail
  have hW0s : (((w.alloc (.cells #[.pointer (some ⟨D, 0, none⟩)] 62)).alloc (.cells #[.slice none 0 0] 51)).alloc (.cells #[.nilIface] 35)).heap.size = w.heap.size + 1 + 1 + 1 := by simp
  generalize ((w.alloc (.cells #[.pointer (some ⟨D, 0, none⟩)] 62)).alloc (.cells #[.slice none 0 0] 51)).alloc (.cells #[.nilIface] 35) = W0 at *
  have HWS := Lib.hid hW0s
  have k6 := Blk.new W0 103 #[.pointer (some ⟨D, 0, none⟩), .slice A 0 cap, .slice none 0 0, .int .i64 0]
  rw [hW0s] at k6
  have hba : Below W0.heap.size W0 (W0.alloc (.cells #[.pointer (some ⟨D, 0, none⟩), .slice A 0 cap, .slice none 0 0, .int .i64 0] 103)) := (Below.refl _ _).alloc (Nat.le_refl _) _
  have HBA := Lib.hid hba
  have j4 := HK4.out.below hba HK4.out.lt
  have j5 := HK5.out.below hba HK5.out.lt
  clear c2
  generalize W0.alloc (.cells #[.pointer (some ⟨D, 0, none⟩), .slice A 0 cap, .slice none 0 0, .int .i64 0] 103) = w4 at *
  have l4 := j4.lt
  have l5 := j5.lt
  have HJ4 := Lib.hid j4
  have HJ5 := Lib.hid j5
  have HK6 := Lib.hid k6
  clear j4 j5 k6 hba
  go_loopw [27] (fun _ wr => wr = w4) (fun _ _ => 0)
  case atStart => rfl
  case round =>
    subst hrel
    have c1 : wr.cell? ⟨w.heap.size + 1 + 1 + 1, 1, none⟩ = some (.slice A 0 cap) := HK6.out.cell 1
    have o2 : wr.cell? ⟨w.heap.size + 1 + 1 + 1, 2, none⟩ = some (.slice none 0 0) := HK6.out.cell 2
    have a4 : wr.cell? ⟨w.heap.size + 1, 0, none⟩ = some (.slice none 0 0) := HJ4.out.cell 0
    have f4 : wr.frozen? ⟨w.heap.size + 1, 0, none⟩ = false := HJ4.out.frozen 0
    have a5 : wr.cell? ⟨w.heap.size + 1 + 1, 0, none⟩ = some .nilIface := HJ5.out.cell 0
    have f5 : wr.frozen? ⟨w.heap.size + 1 + 1, 0, none⟩ = false := HJ5.out.frozen 0
    have m4 := Lib.hid ((HJ4.out.set_ 0 (.slice none 0 0)).far (p := ⟨w.heap.size + 1 + 1, 0, none⟩) (by show w.heap.size + 1 ≠ w.heap.size + 1 + 1; omega) .nilIface)
    have m5 := Lib.hid ((HJ5.out.far (p := ⟨w.heap.size + 1, 0, none⟩) (by show w.heap.size + 1 + 1 ≠ w.heap.size + 1; omega) (.slice none 0 0)).set_ 0 .nilIface)
    go_wp2_with fail
    refine leaves_cons (f := 68) (args := #[.pointer (some ⟨w.heap.size, 0, none⟩), .pointer (some ⟨w.heap.size + 1, 0, none⟩), .pointer (some ⟨w.heap.size + 1 + 1, 0, none⟩)]) (by simp) (by simp [go_sem]) ?_
    refine (idle w.heap.size (w.heap.size + 1) (w.heap.size + 1 + 1) _).mono ?_
    rintro e u' w'' ⟨rfl, rfl, rfl⟩
    refine ⟨_, dec_results rfl rfl m4.out m5.out, ?_⟩
    have hb : Below w.heap.size w ((wr.setCell ⟨w.heap.size + 1, 0, none⟩ (.slice none 0 0)).setCell ⟨w.heap.size + 1 + 1, 0, none⟩ .nilIface) :=
      ((HB0.out.trans (HBA.out.mono HB0.out.size)).setCell (p := ⟨w.heap.size + 1, 0, none⟩) (by show w.heap.size ≤ w.heap.size + 1; omega) _).setCell (p := ⟨w.heap.size + 1 + 1, 0, none⟩) (by show w.heap.size ≤ w.heap.size + 1 + 1; omega) _
    exact ⟨_, rfl, World.ownsRow_nil _ _ _ _, HD.out.below hb, Upd3.of_below hb _⟩
end Go.Proofs.YtflmgjidnclegaaDoor.Hpk
/-
  Plain words: a decoder's table stays within what it was told, a list within what it counts.
-/
namespace Go.Proofs.YtflmgjidnclegaaDoor.Hpk
open Tab (Hd hsz tot Hn shr addQ addQ_tot)
/-- a decoder's state within its bounds -/
structure Fit (limit : Nat) (s : DS) : Prop where
  q : tot s.Q ≤ s.m
  m : s.m ≤ limit
  z : tots s.out = s.size
  s : s.size ≤ 16384
theorem tots_app (a b : List Hn) : tots (a ++ b) = tots a + tots b := by
  induction a with
  | nil => simp [tots]
  | cons h t ih => simp only [List.cons_append, tots, ih]; omega
theorem number_fit {bits limit : Nat} {s s' : DS} {n : Nat} (h : number bits s = .ok (n, s')) (f : Fit limit s) : Fit limit s' := by
  unfold number at h
  cases hg : getInt bits s.rest with
  | error e => rw [hg] at h; cases h
  | ok p =>
    rw [hg] at h
    injection h with h
    injection h with _ h
    subst h
    exact ⟨f.q, f.m, f.z, f.s⟩
theorem text_fit {limit : Nat} {s s' : DS} {t : ByteArray} (h : text s = .ok (t, s')) (f : Fit limit s) : Fit limit s' := by
  unfold text at h
  cases hg : getText s.rest with
  | error e => rw [hg] at h; cases h
  | ok p =>
    rw [hg] at h
    injection h with h
    injection h with _ h
    subst h
    exact ⟨f.q, f.m, f.z, f.s⟩
theorem named_fit {bits limit : Nat} {s s' : DS} {x : Hd} (h : named bits s = .ok (x, s')) (f : Fit limit s) : Fit limit s' := by
  unfold named at h
  cases h1 : number bits s with
  | error e => rw [h1] at h; cases h
  | ok p =>
    obtain ⟨i, s1⟩ := p
    rw [h1] at h
    simp only at h
    have f1 := number_fit h1 f
    cases h2 : nameAt s1 i with
    | error e => rw [h2] at h; cases h
    | ok p =>
      obtain ⟨n, s2⟩ := p
      rw [h2] at h
      simp only at h
      have f2 : Fit limit s2 := by
        unfold nameAt at h2
        split at h2
        · cases h3 : header s1 i with
          | error e => rw [h3] at h2; cases h2
          | ok y =>
            rw [h3] at h2
            injection h2 with h2
            injection h2 with _ h2
            subst h2
            exact f1
        · exact text_fit h2 f1
      cases h3 : text s2 with
      | error e => rw [h3] at h; cases h
      | ok p =>
        obtain ⟨v, s3⟩ := p
        rw [h3] at h
        injection h with h
        injection h with _ h
        subst h
        exact text_fit h3 f2
theorem tell_fit {limit : Nat} {s s' : DS} {x : Hn} (h : tell s x = .ok s') (f : Fit limit s) : Fit limit s' := by
  unfold tell at h
  simp only at h
  split at h
  · cases h
  · injection h with h
    subst h
    refine ⟨f.q, f.m, ?_, by simp only; omega⟩
    simp only
    rw [tots_app, f.z]
    simp [tots]
theorem step_fit {limit : Nat} {s s' : DS} (h : step limit s = .ok s') (f : Fit limit s) : Fit limit s' := by
  have k5 : ∀ nv, step5 nv s = .ok s' → Fit limit s' := by
    intro nv h
    unfold step5 at h
    cases h1 : named 4 s with
    | error e => rw [h1] at h; cases h
    | ok p =>
      obtain ⟨x, s1⟩ := p
      rw [h1] at h
      exact tell_fit h (named_fit h1 f)
  rw [step_eq] at h
  split at h
  · unfold step1 at h
    cases h1 : number 7 s with
    | error e => rw [h1] at h; cases h
    | ok p =>
      obtain ⟨i, s1⟩ := p
      rw [h1] at h
      simp only at h
      cases h2 : header s1 i with
      | error e => rw [h2] at h; cases h
      | ok x =>
        rw [h2] at h
        exact tell_fit h (number_fit h1 f)
  · split at h
    · unfold step2 at h
      cases h1 : named 6 s with
      | error e => rw [h1] at h; cases h
      | ok p =>
        obtain ⟨x, s1⟩ := p
        rw [h1] at h
        simp only at h
        cases h2 : tell s1 (x.1, x.2, false) with
        | error e => rw [h2] at h; cases h
        | ok s2 =>
          rw [h2] at h
          injection h with h
          subst h
          have f2 := tell_fit h2 (named_fit h1 f)
          exact ⟨addQ_tot _ _ _, f2.m, f2.z, f2.s⟩
    · split at h
      · unfold step3 at h
        cases h1 : number 5 s with
        | error e => rw [h1] at h; cases h
        | ok p =>
          obtain ⟨n, s1⟩ := p
          rw [h1] at h
          simp only at h
          have f1 := number_fit h1 f
          split at h
          · cases h
          · rename_i c
            injection h with h
            subst h
            have := Tab.shr_le (k := (n : Int)) (by omega) s1.Q
            exact ⟨by simp only; omega, by simp only; omega, f1.z, f1.s⟩
      · split at h
        · exact k5 _ h
        · exact k5 _ h
def FitR (limit : Nat) : Except (Er × DS) DS → Prop
  | .ok s => Fit limit s
  | .error (_, s) => Fit limit s
theorem run_fit (limit : Nat) : ∀ (f : Nat) (s : DS), Fit limit s → FitR limit (run limit f s)
  | 0, s, h => h
  | f + 1, s, h => by
    unfold run
    split
    · exact h
    · cases hs : step limit s with
      | error e => exact h
      | ok s' => exact run_fit limit f s' (step_fit hs h)
end Go.Proofs.YtflmgjidnclegaaDoor.Hpk
