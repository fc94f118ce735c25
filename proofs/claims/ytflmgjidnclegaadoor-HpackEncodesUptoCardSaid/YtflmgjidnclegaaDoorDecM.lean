/-
  The walk of Decode.
-/
import Derived.Test.YtflmgjidnclegaaDoorTakenM
import Derived.BigQuiet
import Derived.Laws.EntriesVeiled
namespace Go.Proofs.YtflmgjidnclegaaDoor.Hpk
open Go.RowKit
open Huff (BytesAt)
open Tab (Hn Hd hsz tot hncs Tbl)
/-- a decoder in memory -/
structure Dec (w : World) (D g r lim : Nat) (Q : List Hd) (m : Nat) (gone : Bool) : Prop where
  kd : Blk w D 96 #[.pointer (some ⟨g, 0, none⟩), .int .i64 (lim : Int), .bool gone]
  kt : ∃ o, Tbl w g r o Q m
def DecEnd (w : World) (D g r lim : Nat) (ev : Er → Value) (R : Except (Er × DS) DS) (e : Ending) (w' : World) : Prop :=
  match R with
  | .ok s => ∃ ov, e = .returned (.tuple #[ov, .nilIface]) ∧ w'.ownsRow w.heap.size 23 3 ov s.out.length (hncs s.out) ∧ Dec w' D g r lim s.Q s.m false ∧ Upd3 w w' (fun i => i = D ∨ i = g ∨ i = r)
  | .error (er, s) => e = .returned (.tuple #[.slice none 0 0, ev er]) ∧ Dec w' D g r lim s.Q s.m true ∧ Upd3 w w' (fun i => i = D ∨ i = g ∨ i = r)
theorem BEnv.ext {W0 W1 : World} {D g r lim bb : Nat} {ev : Er → Value} {M : Int} (E : BEnv W0 D g r lim bb ev M) (hb : Below W0.heap.size W0 W1) : BEnv W1 D g r lim bb ev M := by
  have h1 := hb.size
  have hl := E.lt
  have ha := E.ab
  exact ⟨E.gl, ⟨by omega, by omega, by omega⟩, E.dg, E.dr, E.er.below hb, (hb.cell (p := ⟨6, 0, none⟩) (cell_lt E.mx)).trans E.mx, ⟨by omega, ha.2⟩, E.lm⟩
theorem own_base' {w : World} {base base' : Nat} {e : TypeId} {size n : Nat} {v : Value} {xs : List Value} (h : w.ownsRow base e size v n xs) (hb : base' ≤ base) : w.ownsRow base' e size v n xs := by
  refine ⟨h.1, ?_⟩
  rcases h.2 with h0 | ⟨g, cap, cur, hv, hg, rest⟩
  · exact .inl h0
  · exact .inr ⟨g, cap, cur, hv, Nat.le_trans hb hg, rest⟩
/-- the block's end: the result's two cells have been written -/
theorem fin_dec {w W0 wr w' : World} {K D g r lim bb : Nat} {s : DS} {A : Option Addr} {cap : Nat} {ov : Value} (hB0 : Below w.heap.size w W0) (S : BSt W0 wr K D g r lim bb s A cap ov) (hlt : g < w.heap.size ∧ r < w.heap.size ∧ D < w.heap.size) (U : Upd3 wr w' (fun i => w.heap.size ≤ i ∧ i < W0.heap.size)) :
    w'.ownsRow w.heap.size 23 3 ov s.out.length (hncs s.out) ∧ Dec w' D g r lim s.Q s.m false ∧ Upd3 w w' (fun i => i = D ∨ i = g ∨ i = r) := by
  obtain ⟨o, ht⟩ := S.kt
  refine ⟨own_base' (U.own S.ow (fun b hb h => by have := (S.ow.lt b hb).1; omega)) hB0.size, ⟨U.blk S.kd (by omega), ⟨o, ht.upd U (by omega) (by omega)⟩⟩, ?_⟩
  exact ((Upd3.of_below hB0 (fun i => i = D ∨ i = g ∨ i = r)).trans S.up (fun i hi => Or.inl (Or.inr hi))).trans U (fun i hi => Or.inr hi.1)
/-- how many bytes are left -/
def restLen (w : World) (K : Nat) : Nat :=
  match w.cell? ⟨K, 1, none⟩ with
  | some (.slice _ n _) => n
  | _ => 0
theorem BSt.restLen {W0 w : World} {K D g r lim bb : Nat} {s : DS} {A : Option Addr} {cap : Nat} {ov : Value} (h : BSt W0 w K D g r lim bb s A cap ov) : Hpk.restLen w K = s.rest.length := by
  unfold Hpk.restLen
  rw [show w.cell? ⟨K, 1, none⟩ = some (.slice A s.rest.length cap) from h.kk.cell 1]
theorem and_m_128_128_256_all : ((List.range 256).all fun x => decide (128 ≤ x → x < 256 → Go.bits .and .u8 (x : Int) 128 = 128)) = true := by decide +kernel
theorem and_m_128_128_256 (x : Nat) (h : 128 ≤ x) (h' : x < 256) : Go.bits .and .u8 (x : Int) 128 = 128 := of_decide_eq_true (List.all_eq_true.1 and_m_128_128_256_all x (List.mem_range.2 (by omega))) h h'
theorem and_m_128_64_128_all : ((List.range 256).all fun x => decide (64 ≤ x → x < 128 → Go.bits .and .u8 (x : Int) 128 = 0)) = true := by decide +kernel
theorem and_m_128_64_128 (x : Nat) (h : 64 ≤ x) (h' : x < 128) : Go.bits .and .u8 (x : Int) 128 = 0 := of_decide_eq_true (List.all_eq_true.1 and_m_128_64_128_all x (List.mem_range.2 (by omega))) h h'
theorem and_m_192_64_128_all : ((List.range 256).all fun x => decide (64 ≤ x → x < 128 → Go.bits .and .u8 (x : Int) 192 = 64)) = true := by decide +kernel
theorem and_m_192_64_128 (x : Nat) (h : 64 ≤ x) (h' : x < 128) : Go.bits .and .u8 (x : Int) 192 = 64 := of_decide_eq_true (List.all_eq_true.1 and_m_192_64_128_all x (List.mem_range.2 (by omega))) h h'
theorem and_m_128_32_64_all : ((List.range 256).all fun x => decide (32 ≤ x → x < 64 → Go.bits .and .u8 (x : Int) 128 = 0)) = true := by decide +kernel
theorem and_m_128_32_64 (x : Nat) (h : 32 ≤ x) (h' : x < 64) : Go.bits .and .u8 (x : Int) 128 = 0 := of_decide_eq_true (List.all_eq_true.1 and_m_128_32_64_all x (List.mem_range.2 (by omega))) h h'
theorem and_m_192_32_64_all : ((List.range 256).all fun x => decide (32 ≤ x → x < 64 → Go.bits .and .u8 (x : Int) 192 = 0)) = true := by decide +kernel
theorem and_m_192_32_64 (x : Nat) (h : 32 ≤ x) (h' : x < 64) : Go.bits .and .u8 (x : Int) 192 = 0 := of_decide_eq_true (List.all_eq_true.1 and_m_192_32_64_all x (List.mem_range.2 (by omega))) h h'
theorem and_m_224_32_64_all : ((List.range 256).all fun x => decide (32 ≤ x → x < 64 → Go.bits .and .u8 (x : Int) 224 = 32)) = true := by decide +kernel
theorem and_m_224_32_64 (x : Nat) (h : 32 ≤ x) (h' : x < 64) : Go.bits .and .u8 (x : Int) 224 = 32 := of_decide_eq_true (List.all_eq_true.1 and_m_224_32_64_all x (List.mem_range.2 (by omega))) h h'
theorem and_m_128_16_32_all : ((List.range 256).all fun x => decide (16 ≤ x → x < 32 → Go.bits .and .u8 (x : Int) 128 = 0)) = true := by decide +kernel
theorem and_m_128_16_32 (x : Nat) (h : 16 ≤ x) (h' : x < 32) : Go.bits .and .u8 (x : Int) 128 = 0 := of_decide_eq_true (List.all_eq_true.1 and_m_128_16_32_all x (List.mem_range.2 (by omega))) h h'
theorem and_m_192_16_32_all : ((List.range 256).all fun x => decide (16 ≤ x → x < 32 → Go.bits .and .u8 (x : Int) 192 = 0)) = true := by decide +kernel
theorem and_m_192_16_32 (x : Nat) (h : 16 ≤ x) (h' : x < 32) : Go.bits .and .u8 (x : Int) 192 = 0 := of_decide_eq_true (List.all_eq_true.1 and_m_192_16_32_all x (List.mem_range.2 (by omega))) h h'
theorem and_m_224_16_32_all : ((List.range 256).all fun x => decide (16 ≤ x → x < 32 → Go.bits .and .u8 (x : Int) 224 = 0)) = true := by decide +kernel
theorem and_m_224_16_32 (x : Nat) (h : 16 ≤ x) (h' : x < 32) : Go.bits .and .u8 (x : Int) 224 = 0 := of_decide_eq_true (List.all_eq_true.1 and_m_224_16_32_all x (List.mem_range.2 (by omega))) h h'
theorem and_m_240_16_32_all : ((List.range 256).all fun x => decide (16 ≤ x → x < 32 → Go.bits .and .u8 (x : Int) 240 = 16)) = true := by decide +kernel
theorem and_m_240_16_32 (x : Nat) (h : 16 ≤ x) (h' : x < 32) : Go.bits .and .u8 (x : Int) 240 = 16 := of_decide_eq_true (List.all_eq_true.1 and_m_240_16_32_all x (List.mem_range.2 (by omega))) h h'
theorem and_m_128_0_16_all : ((List.range 256).all fun x => decide (0 ≤ x → x < 16 → Go.bits .and .u8 (x : Int) 128 = 0)) = true := by decide +kernel
theorem and_m_128_0_16 (x : Nat) (h : 0 ≤ x) (h' : x < 16) : Go.bits .and .u8 (x : Int) 128 = 0 := of_decide_eq_true (List.all_eq_true.1 and_m_128_0_16_all x (List.mem_range.2 (by omega))) h h'
theorem and_m_192_0_16_all : ((List.range 256).all fun x => decide (0 ≤ x → x < 16 → Go.bits .and .u8 (x : Int) 192 = 0)) = true := by decide +kernel
theorem and_m_192_0_16 (x : Nat) (h : 0 ≤ x) (h' : x < 16) : Go.bits .and .u8 (x : Int) 192 = 0 := of_decide_eq_true (List.all_eq_true.1 and_m_192_0_16_all x (List.mem_range.2 (by omega))) h h'
theorem and_m_224_0_16_all : ((List.range 256).all fun x => decide (0 ≤ x → x < 16 → Go.bits .and .u8 (x : Int) 224 = 0)) = true := by decide +kernel
theorem and_m_224_0_16 (x : Nat) (h : 0 ≤ x) (h' : x < 16) : Go.bits .and .u8 (x : Int) 224 = 0 := of_decide_eq_true (List.all_eq_true.1 and_m_224_0_16_all x (List.mem_range.2 (by omega))) h h'
theorem and_m_240_0_16_all : ((List.range 256).all fun x => decide (0 ≤ x → x < 16 → Go.bits .and .u8 (x : Int) 240 = 0)) = true := by decide +kernel
theorem and_m_240_0_16 (x : Nat) (h : 0 ≤ x) (h' : x < 16) : Go.bits .and .u8 (x : Int) 240 = 0 := of_decide_eq_true (List.all_eq_true.1 and_m_240_0_16_all x (List.mem_range.2 (by omega))) h h'
set_option maxRecDepth 100000 in
set_option maxHeartbeats 16000000 in
theorem decode_blk {w : World} {D g r lim bb m : Nat} {ev : Er → Value} {M : Int} {Q : List Hd} (xs : List UInt8) (A : Option Addr) (cap : Nat) (hd : Dec w D g r lim Q m false) (E : BEnv w D g r lim bb ev M) (hx : BytesAt w A xs) (hc : xs.length ≤ cap ∧ cap ≤ 9223372036854775807) (hbn : ∀ ad, A = some ad → ad.block = bb) :
    Calls Tryd.prog 41 #[.pointer (some ⟨D, 0, none⟩), .slice A xs.length cap] w (DecEnd w D g r lim ev (run lim xs.length ⟨xs, [], 0, Q, m⟩)) := by
  have hmf : ∀ (fn : Fn) (first cap : Array Value) (w : World), (Instr.makeFunc fn first cap).run Tryd.prog w = .ok (.func fn first cap) w := fun _ _ _ _ => rfl
  have hDl := hd.kd.lt
  have hB0 : Below w.heap.size w (((w.alloc (.cells #[.pointer (some ⟨D, 0, none⟩)] 62)).alloc (.cells #[.slice none 0 0] 51)).alloc (.cells #[.nilIface] 35)) := (((Below.refl _ _).alloc (Nat.le_refl _) _).alloc (by simp) _).alloc (by simp; omega) _
  have E0 := E.ext hB0
  have HLT := Lib.hid E.lt
  have kd0 := hd.kd.below hB0 hd.kd.lt
  obtain ⟨o, ht⟩ := hd.kt
  have ht0 := ht.below hB0
  have c2 : (((w.alloc (.cells #[.pointer (some ⟨D, 0, none⟩)] 62)).alloc (.cells #[.slice none 0 0] 51)).alloc (.cells #[.nilIface] 35)).cell? ⟨D, 2, none⟩ = some (.bool false) := kd0.cell 2
  have k2 : Blk (((w.alloc (.cells #[.pointer (some ⟨D, 0, none⟩)] 62)).alloc (.cells #[.slice none 0 0] 51)).alloc (.cells #[.nilIface] 35)) w.heap.size 62 #[.pointer (some ⟨D, 0, none⟩)] := ((Blk.new _ _ _).alloc _).alloc _
  have k4 : Blk (((w.alloc (.cells #[.pointer (some ⟨D, 0, none⟩)] 62)).alloc (.cells #[.slice none 0 0] 51)).alloc (.cells #[.nilIface] 35)) (w.heap.size + 1) 51 #[.slice none 0 0] := by
    have := (Blk.new (w.alloc (.cells #[.pointer (some ⟨D, 0, none⟩)] 62)) 51 #[.slice none 0 0]).alloc (.cells #[.nilIface] 35)
    simpa using this
  have k5 : Blk (((w.alloc (.cells #[.pointer (some ⟨D, 0, none⟩)] 62)).alloc (.cells #[.slice none 0 0] 51)).alloc (.cells #[.nilIface] 35)) (w.heap.size + 1 + 1) 35 #[.nilIface] := by
    have := Blk.new ((w.alloc (.cells #[.pointer (some ⟨D, 0, none⟩)] 62)).alloc (.cells #[.slice none 0 0] 51)) 35 #[.nilIface]
    simpa using this
  have hx0 := hx.below hB0
  have HE := Lib.hid E0
  have HB0 := Lib.hid hB0
  have HK2 := Lib.hid k2
  have HK4 := Lib.hid k4
  have HK5 := Lib.hid k5
  have HKD := Lib.hid kd0
  have HT := Lib.hid ht0
  have HX := Lib.hid hx0
  clear hd E hx hB0 E0 kd0 ht ht0 k2 k4 k5 hx0
  go_enter_defers Tryd.func41, Tryd.ntmps41
  go_wp2_with fail
  have hW0s : (((w.alloc (.cells #[.pointer (some ⟨D, 0, none⟩)] 62)).alloc (.cells #[.slice none 0 0] 51)).alloc (.cells #[.nilIface] 35)).heap.size = w.heap.size + 1 + 1 + 1 := by simp
  generalize ((w.alloc (.cells #[.pointer (some ⟨D, 0, none⟩)] 62)).alloc (.cells #[.slice none 0 0] 51)).alloc (.cells #[.nilIface] 35) = W0 at *
  have HWS := Lib.hid hW0s
  have hB4 : BSt W0 (W0.alloc (.cells #[.pointer (some ⟨D, 0, none⟩), .slice A xs.length cap, .slice none 0 0, .int .i64 0] 103)) (w.heap.size + 1 + 1 + 1) D g r lim bb ⟨xs, [], 0, Q, m⟩ A cap (.slice none 0 0) := by
    have kk := Blk.new W0 103 #[.pointer (some ⟨D, 0, none⟩), .slice A xs.length cap, .slice none 0 0, .int .i64 0]
    rw [hW0s] at kk
    have hba : Below W0.heap.size W0 (W0.alloc (.cells #[.pointer (some ⟨D, 0, none⟩), .slice A xs.length cap, .slice none 0 0, .int .i64 0] 103)) := (Below.refl _ _).alloc (Nat.le_refl _) _
    exact ⟨by omega, kk, HKD.out.alloc _, ⟨o, HT.out.below hba⟩, HX.out.below hba, hc, hbn, World.ownsRow_nil _ _ _ _, by show 0 ≤ 16384; omega, (Upd3.refl W0 _).alloc _⟩
  have HB4 := Lib.hid hB4
  clear hB4 c2 HKD HT HX
  generalize W0.alloc (.cells #[.pointer (some ⟨D, 0, none⟩), .slice A xs.length cap, .slice none 0 0, .int .i64 0] 103) = w4 at *
  go_loopw [27] (fun _ wr => ∃ (s : DS) (A' : Option Addr) (cap' : Nat) (ov : Value), BSt W0 wr (w.heap.size + 1 + 1 + 1) D g r lim bb s A' cap' ov ∧ run lim s.rest.length s = run lim xs.length ⟨xs, [], 0, Q, m⟩ ∧ s.out.length * 32 ≤ s.size) (fun _ wr => restLen wr (w.heap.size + 1 + 1 + 1))
  case atStart => exact ⟨⟨xs, [], 0, Q, m⟩, A, cap, _, HB4.out, rfl, by simp⟩
  case round =>
    obtain ⟨s, A', cap', ov, S, hrun, hos⟩ := hrel
    clear HB4
    have c1 : wr.cell? ⟨w.heap.size + 1 + 1 + 1, 1, none⟩ = some (.slice A' s.rest.length cap') := S.kk.cell 1
    by_cases h0 : s.rest = []
    · have hl0 : s.rest.length = 0 := by rw [h0]; rfl
      rw [run_done h0] at hrun
      have HRUN := Lib.hid hrun
      obtain ⟨A6, c6, rfl, -, -⟩ := Tab.own_slice S.ow
      have o2 : wr.cell? ⟨w.heap.size + 1 + 1 + 1, 2, none⟩ = some (.slice A6 s.out.length c6) := S.kk.cell 2
      rw [hl0] at c1
      have hlt := HLT.out
      have j4 := S.up.blk HK4.out (by rintro (e | e) <;> omega)
      have j5 := S.up.blk HK5.out (by rintro (e | e) <;> omega)
      have a4 : wr.cell? ⟨w.heap.size + 1, 0, none⟩ = some (.slice none 0 0) := j4.cell 0
      have f4 : wr.frozen? ⟨w.heap.size + 1, 0, none⟩ = false := j4.frozen 0
      have a5 : wr.cell? ⟨w.heap.size + 1 + 1, 0, none⟩ = some .nilIface := j5.cell 0
      have f5 : wr.frozen? ⟨w.heap.size + 1 + 1, 0, none⟩ = false := j5.frozen 0
      have l4 := j4.lt
      have l5 := j5.lt
      have m4 := Lib.hid ((j4.set_ 0 (.slice A6 s.out.length c6)).far (p := ⟨w.heap.size + 1 + 1, 0, none⟩) (by show w.heap.size + 1 ≠ w.heap.size + 1 + 1; omega) .nilIface)
      have m5 := Lib.hid ((j5.far (p := ⟨w.heap.size + 1, 0, none⟩) (by show w.heap.size + 1 + 1 ≠ w.heap.size + 1; omega) (.slice A6 s.out.length c6)).set_ 0 .nilIface)
      have HS := Lib.hid S
      clear S hrun h0 hos j4 j5
      go_wp2_with fail
      refine leaves_cons (f := 68) (args := #[.pointer (some ⟨w.heap.size, 0, none⟩), .pointer (some ⟨w.heap.size + 1, 0, none⟩), .pointer (some ⟨w.heap.size + 1 + 1, 0, none⟩)]) (by simp) (by simp [go_sem]) ?_
      refine (idle w.heap.size (w.heap.size + 1) (w.heap.size + 1 + 1) _).mono ?_
      rintro e u' w'' ⟨rfl, rfl, rfl⟩
      refine ⟨_, dec_results rfl rfl m4.out m5.out, ?_⟩
      rw [← HRUN.out]
      have hW0s2 := HWS.out
      have U := ((Upd3.refl wr (fun i => w.heap.size ≤ i ∧ i < W0.heap.size)).setCell (p := ⟨w.heap.size + 1, 0, none⟩) (Or.inl ⟨by show w.heap.size ≤ w.heap.size + 1; omega, by show w.heap.size + 1 < W0.heap.size; omega⟩) (.slice A6 s.out.length c6)).setCell (p := ⟨w.heap.size + 1 + 1, 0, none⟩) (Or.inl ⟨by show w.heap.size ≤ w.heap.size + 1 + 1; omega, by show w.heap.size + 1 + 1 < W0.heap.size; omega⟩) .nilIface
      exact ⟨_, rfl, fin_dec HB0.out HS.out HLT.out U⟩
    · have hpos : 0 < s.rest.length := List.length_pos_iff.2 h0
      obtain ⟨off, rfl⟩ := rest_at S hpos
      obtain ⟨b', off', e', hbl, cx⟩ := S.bx 0 hpos
      injection e' with e'
      injection e' with e1 e2 _
      subst e1 e2
      rw [Nat.add_zero] at cx
      obtain ⟨x, hx0⟩ : ∃ x, (s.rest.getD 0 0).toNat = x := ⟨_, rfl⟩
      have hx8 : x < 256 := by rw [← hx0]; exact (s.rest.getD 0 0).toNat_lt
      rw [hx0] at cx
      have HX0 := Lib.hid hx0
      have hst := step_eq lim s
      rw [hx0] at hst
      have HRUN := Lib.hid hrun
      have HOS := Lib.hid hos
      have HS := Lib.hid S
      have HH0 := Lib.hid h0
      have HST := Lib.hid hst
      clear S hrun hos h0 hst hx0
      go_wp2_with fail
      refine (kinds_any wr).mono ?_
      rintro e w5 ⟨rfl, hw5⟩
      have kk5 : Blk w5 wr.heap.size 108 kindsV := by rw [hw5]; exact Blk.new _ _ _
      have S5 := HS.out.ext (w' := w5) (by rw [hw5]; exact (Below.refl _ _).alloc (Nat.le_refl _) _)
      have c5 : w5.cell? ⟨w.heap.size + 1 + 1 + 1, 1, none⟩ = some (.slice (some ⟨bb, off, none⟩) s.rest.length cap') := S5.kk.cell 1
      have cx5 : w5.cell? ⟨bb, off, none⟩ = some (.int .u8 (x : Int)) := by
        obtain ⟨b2, o2, e2, _, cc⟩ := S5.bx 0 hpos
        injection e2 with e2
        injection e2 with e3 e4 _
        subst e3 e4
        rw [Nat.add_zero] at cc
        rw [cc, HX0.out]
      have v0 : w5.cell? ⟨wr.heap.size, 0, none⟩ = some (.int .u8 128) := kk5.cell 0
      have v1 : w5.cell? ⟨wr.heap.size, 1, none⟩ = some (.int .u8 128) := kk5.cell 1
      have v2 : w5.cell? ⟨wr.heap.size, 2, none⟩ = some (.func (.func 77) #[] #[]) := kk5.cell 2
      have v3 : w5.cell? ⟨wr.heap.size, 3, none⟩ = some (.int .u8 192) := kk5.cell 3
      have v4 : w5.cell? ⟨wr.heap.size, 4, none⟩ = some (.int .u8 64) := kk5.cell 4
      have v5 : w5.cell? ⟨wr.heap.size, 5, none⟩ = some (.func (.func 81) #[] #[]) := kk5.cell 5
      have v6 : w5.cell? ⟨wr.heap.size, 6, none⟩ = some (.int .u8 224) := kk5.cell 6
      have v7 : w5.cell? ⟨wr.heap.size, 7, none⟩ = some (.int .u8 32) := kk5.cell 7
      have v8 : w5.cell? ⟨wr.heap.size, 8, none⟩ = some (.func (.func 83) #[] #[]) := kk5.cell 8
      have v9 : w5.cell? ⟨wr.heap.size, 9, none⟩ = some (.int .u8 240) := kk5.cell 9
      have v10 : w5.cell? ⟨wr.heap.size, 10, none⟩ = some (.int .u8 16) := kk5.cell 10
      have v11 : w5.cell? ⟨wr.heap.size, 11, none⟩ = some (.func (.func 85) #[] #[]) := kk5.cell 11
      have v12 : w5.cell? ⟨wr.heap.size, 12, none⟩ = some (.int .u8 240) := kk5.cell 12
      have v13 : w5.cell? ⟨wr.heap.size, 13, none⟩ = some (.int .u8 0) := kk5.cell 13
      have v14 : w5.cell? ⟨wr.heap.size, 14, none⟩ = some (.func (.func 86) #[] #[]) := kk5.cell 14
      have HS5 := Lib.hid S5
      have hKl5 := S5.kk.lt
      have hkl5 := kk5.lt
      have hbl5 : bb < w5.heap.size := cell_lt cx5
      clear hw5 S5 kk5
      by_cases h128 : 128 ≤ x
      · go_wp2_with fail
        refine wp_loop_rounds 1 ?_
        rw [rounds_succ]
        have ha : Go.bits .and .u8 (x : Int) 128 = 128 := and_m_128_128_256 x (by omega) (by omega)
        have kn := Blk.new w5 108 #[.int .u8 128, .int .u8 128, .nilFunc]
        have n2 : (w5.alloc (.cells #[.int .u8 128, .int .u8 128, .nilFunc] 108)).cell? ⟨w5.heap.size, 2, none⟩ = some .nilFunc := kn.cell 2
        have nf2 : (w5.alloc (.cells #[.int .u8 128, .int .u8 128, .nilFunc] 108)).frozen? ⟨w5.heap.size, 2, none⟩ = false := kn.frozen 2
        go_wp2_with fail
        go_quiet (fail)
        go_wp2_with fail
        have hB6 : Below w5.heap.size w5 ((w5.alloc (.cells #[.int .u8 128, .int .u8 128, .func (.func 77) #[] #[]] 108)).drewN nq) := below_drewN ((Below.refl _ _).alloc (Nat.le_refl _) _) nq
        have K1 := Lib.hid (kind1 HE.out (HS5.out.ext hB6) HOS.out)
        clear kn n2 nf2
        refine K1.out.mono ?_
        intro e w6 hP
        clear K1 hB6
        cases hs : step1 s with
        | error er =>
          rw [hs] at hP
          obtain ⟨he, hT⟩ := hP
          unfold Pan at he
          subst he
          have HTB := Lib.hid hT
          have hstep := Lib.hid (show step lim s = .error er by rw [HST.out, if_pos h128]; exact hs)
          clear hs hT
          go_wp2_with fail
          have hlt := HLT.out
          have hdg := HE.out.dg
          have hdr := HE.out.dr
          have j2 := HTB.out.up.blk HK2.out (by rintro (e | e) <;> omega)
          have j4 := HTB.out.up.blk HK4.out (by rintro (e | e) <;> omega)
          have j5 := HTB.out.up.blk HK5.out (by rintro (e | e) <;> omega)
          refine leaves_cons (f := 68) (args := #[.pointer (some ⟨w.heap.size, 0, none⟩), .pointer (some ⟨w.heap.size + 1, 0, none⟩), .pointer (some ⟨w.heap.size + 1 + 1, 0, none⟩)]) (by simp) (by simp [go_sem]) ?_
          refine (caught w.heap.size (w.heap.size + 1) (w.heap.size + 1 + 1) D _ _ _ (ev er) (HE.out.er er).2.2 [] w6 (j2.cell 0) HTB.out.kd j4 j5).mono ?_
          rintro e u' w'' ⟨rfl, rfl, kd, k4, k5, U⟩
          obtain ⟨o6, ht6⟩ := HTB.out.kt
          refine ⟨_, dec_results rfl rfl k4 k5, ?_⟩
          rw [← HRUN.out, run_fault hstep.out HH0.out]
          exact ⟨rfl, ⟨kd, ⟨o6, ht6.upd U (by rintro (e | e | e) <;> omega) (by rintro (e | e | e) <;> omega)⟩⟩, ((Upd3.of_below HB0.out (fun i => i = D ∨ i = g ∨ i = r)).trans HTB.out.up (fun i hi => Or.inl (Or.inr hi))).trans U (fun i hi => by rcases hi with e | e | e; exact Or.inl (Or.inl e); exact Or.inr (by omega); exact Or.inr (by omega))⟩
        | ok s' =>
          rw [hs] at hP
          obtain ⟨A7, c7, ov7, rfl, hS7⟩ := hP
          have hstep := Lib.hid (show step lim s = .ok s' by rw [HST.out, if_pos h128]; exact hs)
          have HS7 := Lib.hid hS7
          clear hs hS7
          go_wp2_with fail
          go_roundw
          case rel => exact ⟨s', A7, c7, ov7, HS7.out, (run_step hstep.out HH0.out).symm.trans HRUN.out, step_os hstep.out HOS.out⟩
          case measure => rw [HS7.out.restLen, HS.out.restLen]; exact step_rest hstep.out
      ·
        by_cases h64 : 64 ≤ x
        · go_wp2_with fail
          refine wp_loop_rounds 2 ?_
          rw [rounds_succ]
          have ha : Go.bits .and .u8 (x : Int) 128 = 0 := and_m_128_64_128 x (by omega) (by omega)
          have kn := Blk.new w5 108 #[.int .u8 128, .int .u8 128, .nilFunc]
          have n2 : (w5.alloc (.cells #[.int .u8 128, .int .u8 128, .nilFunc] 108)).cell? ⟨w5.heap.size, 2, none⟩ = some .nilFunc := kn.cell 2
          have nf2 : (w5.alloc (.cells #[.int .u8 128, .int .u8 128, .nilFunc] 108)).frozen? ⟨w5.heap.size, 2, none⟩ = false := kn.frozen 2
          go_wp2_with fail
          go_quiet (fail)
          go_wp2_with fail
          have hB6 : Below w5.heap.size w5 ((w5.alloc (.cells #[.int .u8 128, .int .u8 128, .func (.func 77) #[] #[]] 108)).drewN nq) := below_drewN ((Below.refl _ _).alloc (Nat.le_refl _) _) nq
          generalize (w5.alloc (.cells #[.int .u8 128, .int .u8 128, .func (.func 77) #[] #[]] 108)).drewN nq = w50 at *
          have HSn0 := Lib.hid (HS5.out.ext hB6)
          have hsz6 := hB6.size
          have v3 := (hB6.cell (p := ⟨wr.heap.size, 3, none⟩) (cell_lt v3)).trans v3
          have v4 := (hB6.cell (p := ⟨wr.heap.size, 4, none⟩) (cell_lt v4)).trans v4
          have v5 := (hB6.cell (p := ⟨wr.heap.size, 5, none⟩) (cell_lt v5)).trans v5
          have c5 := (hB6.cell (p := ⟨w.heap.size + 1 + 1 + 1, 1, none⟩) (cell_lt c5)).trans c5
          have cx5 := (hB6.cell (p := ⟨bb, off, none⟩) (cell_lt cx5)).trans cx5
          have hKl5 := cell_lt c5
          have hkl5 := cell_lt v3
          have hbl5 : bb < w50.heap.size := cell_lt cx5
          clear ha kn n2 nf2 hB6
          rw [rounds_succ]
          have ha : Go.bits .and .u8 (x : Int) 192 = 64 := and_m_192_64_128 x (by omega) (by omega)
          have kn := Blk.new w50 108 #[.int .u8 192, .int .u8 64, .nilFunc]
          have n2 : (w50.alloc (.cells #[.int .u8 192, .int .u8 64, .nilFunc] 108)).cell? ⟨w50.heap.size, 2, none⟩ = some .nilFunc := kn.cell 2
          have nf2 : (w50.alloc (.cells #[.int .u8 192, .int .u8 64, .nilFunc] 108)).frozen? ⟨w50.heap.size, 2, none⟩ = false := kn.frozen 2
          go_wp2_with fail
          go_quiet (fail)
          go_wp2_with fail
          have hB6 : Below w50.heap.size w50 ((w50.alloc (.cells #[.int .u8 192, .int .u8 64, .func (.func 81) #[] #[]] 108)).drewN nq) := below_drewN ((Below.refl _ _).alloc (Nat.le_refl _) _) nq
          have K1 := Lib.hid (kind2 HE.out (HSn0.out.ext hB6) HOS.out)
          clear kn n2 nf2
          refine K1.out.mono ?_
          intro e w6 hP
          clear K1 hB6
          cases hs : step2 s with
          | error er =>
            rw [hs] at hP
            obtain ⟨he, hT⟩ := hP
            unfold Pan at he
            subst he
            have HTB := Lib.hid hT
            have hstep := Lib.hid (show step lim s = .error er by rw [HST.out, if_neg h128, if_pos h64]; exact hs)
            clear hs hT
            go_wp2_with fail
            have hlt := HLT.out
            have hdg := HE.out.dg
            have hdr := HE.out.dr
            have j2 := HTB.out.up.blk HK2.out (by rintro (e | e) <;> omega)
            have j4 := HTB.out.up.blk HK4.out (by rintro (e | e) <;> omega)
            have j5 := HTB.out.up.blk HK5.out (by rintro (e | e) <;> omega)
            refine leaves_cons (f := 68) (args := #[.pointer (some ⟨w.heap.size, 0, none⟩), .pointer (some ⟨w.heap.size + 1, 0, none⟩), .pointer (some ⟨w.heap.size + 1 + 1, 0, none⟩)]) (by simp) (by simp [go_sem]) ?_
            refine (caught w.heap.size (w.heap.size + 1) (w.heap.size + 1 + 1) D _ _ _ (ev er) (HE.out.er er).2.2 [] w6 (j2.cell 0) HTB.out.kd j4 j5).mono ?_
            rintro e u' w'' ⟨rfl, rfl, kd, k4, k5, U⟩
            obtain ⟨o6, ht6⟩ := HTB.out.kt
            refine ⟨_, dec_results rfl rfl k4 k5, ?_⟩
            rw [← HRUN.out, run_fault hstep.out HH0.out]
            exact ⟨rfl, ⟨kd, ⟨o6, ht6.upd U (by rintro (e | e | e) <;> omega) (by rintro (e | e | e) <;> omega)⟩⟩, ((Upd3.of_below HB0.out (fun i => i = D ∨ i = g ∨ i = r)).trans HTB.out.up (fun i hi => Or.inl (Or.inr hi))).trans U (fun i hi => by rcases hi with e | e | e; exact Or.inl (Or.inl e); exact Or.inr (by omega); exact Or.inr (by omega))⟩
          | ok s' =>
            rw [hs] at hP
            obtain ⟨A7, c7, ov7, rfl, hS7⟩ := hP
            have hstep := Lib.hid (show step lim s = .ok s' by rw [HST.out, if_neg h128, if_pos h64]; exact hs)
            have HS7 := Lib.hid hS7
            clear hs hS7
            go_wp2_with fail
            go_roundw
            case rel => exact ⟨s', A7, c7, ov7, HS7.out, (run_step hstep.out HH0.out).symm.trans HRUN.out, step_os hstep.out HOS.out⟩
            case measure => rw [HS7.out.restLen, HS.out.restLen]; exact step_rest hstep.out
        ·
          by_cases h32 : 32 ≤ x
          · go_wp2_with fail
            refine wp_loop_rounds 3 ?_
            rw [rounds_succ]
            have ha : Go.bits .and .u8 (x : Int) 128 = 0 := and_m_128_32_64 x (by omega) (by omega)
            have kn := Blk.new w5 108 #[.int .u8 128, .int .u8 128, .nilFunc]
            have n2 : (w5.alloc (.cells #[.int .u8 128, .int .u8 128, .nilFunc] 108)).cell? ⟨w5.heap.size, 2, none⟩ = some .nilFunc := kn.cell 2
            have nf2 : (w5.alloc (.cells #[.int .u8 128, .int .u8 128, .nilFunc] 108)).frozen? ⟨w5.heap.size, 2, none⟩ = false := kn.frozen 2
            go_wp2_with fail
            go_quiet (fail)
            go_wp2_with fail
            have hB6 : Below w5.heap.size w5 ((w5.alloc (.cells #[.int .u8 128, .int .u8 128, .func (.func 77) #[] #[]] 108)).drewN nq) := below_drewN ((Below.refl _ _).alloc (Nat.le_refl _) _) nq
            generalize (w5.alloc (.cells #[.int .u8 128, .int .u8 128, .func (.func 77) #[] #[]] 108)).drewN nq = w50 at *
            have HSn0 := Lib.hid (HS5.out.ext hB6)
            have hsz6 := hB6.size
            have v3 := (hB6.cell (p := ⟨wr.heap.size, 3, none⟩) (cell_lt v3)).trans v3
            have v4 := (hB6.cell (p := ⟨wr.heap.size, 4, none⟩) (cell_lt v4)).trans v4
            have v5 := (hB6.cell (p := ⟨wr.heap.size, 5, none⟩) (cell_lt v5)).trans v5
            have v6 := (hB6.cell (p := ⟨wr.heap.size, 6, none⟩) (cell_lt v6)).trans v6
            have v7 := (hB6.cell (p := ⟨wr.heap.size, 7, none⟩) (cell_lt v7)).trans v7
            have v8 := (hB6.cell (p := ⟨wr.heap.size, 8, none⟩) (cell_lt v8)).trans v8
            have c5 := (hB6.cell (p := ⟨w.heap.size + 1 + 1 + 1, 1, none⟩) (cell_lt c5)).trans c5
            have cx5 := (hB6.cell (p := ⟨bb, off, none⟩) (cell_lt cx5)).trans cx5
            have hKl5 := cell_lt c5
            have hkl5 := cell_lt v6
            have hbl5 : bb < w50.heap.size := cell_lt cx5
            clear ha kn n2 nf2 hB6
            rw [rounds_succ]
            have ha : Go.bits .and .u8 (x : Int) 192 = 0 := and_m_192_32_64 x (by omega) (by omega)
            have kn := Blk.new w50 108 #[.int .u8 192, .int .u8 64, .nilFunc]
            have n2 : (w50.alloc (.cells #[.int .u8 192, .int .u8 64, .nilFunc] 108)).cell? ⟨w50.heap.size, 2, none⟩ = some .nilFunc := kn.cell 2
            have nf2 : (w50.alloc (.cells #[.int .u8 192, .int .u8 64, .nilFunc] 108)).frozen? ⟨w50.heap.size, 2, none⟩ = false := kn.frozen 2
            go_wp2_with fail
            go_quiet (fail)
            go_wp2_with fail
            have hB6 : Below w50.heap.size w50 ((w50.alloc (.cells #[.int .u8 192, .int .u8 64, .func (.func 81) #[] #[]] 108)).drewN nq) := below_drewN ((Below.refl _ _).alloc (Nat.le_refl _) _) nq
            generalize (w50.alloc (.cells #[.int .u8 192, .int .u8 64, .func (.func 81) #[] #[]] 108)).drewN nq = w51 at *
            have HSn1 := Lib.hid (HSn0.out.ext hB6)
            have hsz6 := hB6.size
            have v6 := (hB6.cell (p := ⟨wr.heap.size, 6, none⟩) (cell_lt v6)).trans v6
            have v7 := (hB6.cell (p := ⟨wr.heap.size, 7, none⟩) (cell_lt v7)).trans v7
            have v8 := (hB6.cell (p := ⟨wr.heap.size, 8, none⟩) (cell_lt v8)).trans v8
            have c5 := (hB6.cell (p := ⟨w.heap.size + 1 + 1 + 1, 1, none⟩) (cell_lt c5)).trans c5
            have cx5 := (hB6.cell (p := ⟨bb, off, none⟩) (cell_lt cx5)).trans cx5
            have hKl5 := cell_lt c5
            have hkl5 := cell_lt v6
            have hbl5 : bb < w51.heap.size := cell_lt cx5
            clear ha kn n2 nf2 hB6
            rw [rounds_succ]
            have ha : Go.bits .and .u8 (x : Int) 224 = 32 := and_m_224_32_64 x (by omega) (by omega)
            have kn := Blk.new w51 108 #[.int .u8 224, .int .u8 32, .nilFunc]
            have n2 : (w51.alloc (.cells #[.int .u8 224, .int .u8 32, .nilFunc] 108)).cell? ⟨w51.heap.size, 2, none⟩ = some .nilFunc := kn.cell 2
            have nf2 : (w51.alloc (.cells #[.int .u8 224, .int .u8 32, .nilFunc] 108)).frozen? ⟨w51.heap.size, 2, none⟩ = false := kn.frozen 2
            go_wp2_with fail
            go_quiet (fail)
            go_wp2_with fail
            have hB6 : Below w51.heap.size w51 ((w51.alloc (.cells #[.int .u8 224, .int .u8 32, .func (.func 83) #[] #[]] 108)).drewN nq) := below_drewN ((Below.refl _ _).alloc (Nat.le_refl _) _) nq
            have K1 := Lib.hid (kind3 HE.out (HSn1.out.ext hB6))
            clear kn n2 nf2
            refine K1.out.mono ?_
            intro e w6 hP
            clear K1 hB6
            cases hs : step3 lim s with
            | error er =>
              rw [hs] at hP
              obtain ⟨he, hT⟩ := hP
              unfold Pan at he
              subst he
              have HTB := Lib.hid hT
              have hstep := Lib.hid (show step lim s = .error er by rw [HST.out, if_neg h128, if_neg h64, if_pos h32]; exact hs)
              clear hs hT
              go_wp2_with fail
              have hlt := HLT.out
              have hdg := HE.out.dg
              have hdr := HE.out.dr
              have j2 := HTB.out.up.blk HK2.out (by rintro (e | e) <;> omega)
              have j4 := HTB.out.up.blk HK4.out (by rintro (e | e) <;> omega)
              have j5 := HTB.out.up.blk HK5.out (by rintro (e | e) <;> omega)
              refine leaves_cons (f := 68) (args := #[.pointer (some ⟨w.heap.size, 0, none⟩), .pointer (some ⟨w.heap.size + 1, 0, none⟩), .pointer (some ⟨w.heap.size + 1 + 1, 0, none⟩)]) (by simp) (by simp [go_sem]) ?_
              refine (caught w.heap.size (w.heap.size + 1) (w.heap.size + 1 + 1) D _ _ _ (ev er) (HE.out.er er).2.2 [] w6 (j2.cell 0) HTB.out.kd j4 j5).mono ?_
              rintro e u' w'' ⟨rfl, rfl, kd, k4, k5, U⟩
              obtain ⟨o6, ht6⟩ := HTB.out.kt
              refine ⟨_, dec_results rfl rfl k4 k5, ?_⟩
              rw [← HRUN.out, run_fault hstep.out HH0.out]
              exact ⟨rfl, ⟨kd, ⟨o6, ht6.upd U (by rintro (e | e | e) <;> omega) (by rintro (e | e | e) <;> omega)⟩⟩, ((Upd3.of_below HB0.out (fun i => i = D ∨ i = g ∨ i = r)).trans HTB.out.up (fun i hi => Or.inl (Or.inr hi))).trans U (fun i hi => by rcases hi with e | e | e; exact Or.inl (Or.inl e); exact Or.inr (by omega); exact Or.inr (by omega))⟩
            | ok s' =>
              rw [hs] at hP
              obtain ⟨A7, c7, ov7, rfl, hS7⟩ := hP
              have hstep := Lib.hid (show step lim s = .ok s' by rw [HST.out, if_neg h128, if_neg h64, if_pos h32]; exact hs)
              have HS7 := Lib.hid hS7
              clear hs hS7
              go_wp2_with fail
              go_roundw
              case rel => exact ⟨s', A7, c7, ov7, HS7.out, (run_step hstep.out HH0.out).symm.trans HRUN.out, step_os hstep.out HOS.out⟩
              case measure => rw [HS7.out.restLen, HS.out.restLen]; exact step_rest hstep.out
          ·
            by_cases h16 : 16 ≤ x
            · go_wp2_with fail
              refine wp_loop_rounds 4 ?_
              rw [rounds_succ]
              have ha : Go.bits .and .u8 (x : Int) 128 = 0 := and_m_128_16_32 x (by omega) (by omega)
              have kn := Blk.new w5 108 #[.int .u8 128, .int .u8 128, .nilFunc]
              have n2 : (w5.alloc (.cells #[.int .u8 128, .int .u8 128, .nilFunc] 108)).cell? ⟨w5.heap.size, 2, none⟩ = some .nilFunc := kn.cell 2
              have nf2 : (w5.alloc (.cells #[.int .u8 128, .int .u8 128, .nilFunc] 108)).frozen? ⟨w5.heap.size, 2, none⟩ = false := kn.frozen 2
              go_wp2_with fail
              go_quiet (fail)
              go_wp2_with fail
              have hB6 : Below w5.heap.size w5 ((w5.alloc (.cells #[.int .u8 128, .int .u8 128, .func (.func 77) #[] #[]] 108)).drewN nq) := below_drewN ((Below.refl _ _).alloc (Nat.le_refl _) _) nq
              generalize (w5.alloc (.cells #[.int .u8 128, .int .u8 128, .func (.func 77) #[] #[]] 108)).drewN nq = w50 at *
              have HSn0 := Lib.hid (HS5.out.ext hB6)
              have hsz6 := hB6.size
              have v3 := (hB6.cell (p := ⟨wr.heap.size, 3, none⟩) (cell_lt v3)).trans v3
              have v4 := (hB6.cell (p := ⟨wr.heap.size, 4, none⟩) (cell_lt v4)).trans v4
              have v5 := (hB6.cell (p := ⟨wr.heap.size, 5, none⟩) (cell_lt v5)).trans v5
              have v6 := (hB6.cell (p := ⟨wr.heap.size, 6, none⟩) (cell_lt v6)).trans v6
              have v7 := (hB6.cell (p := ⟨wr.heap.size, 7, none⟩) (cell_lt v7)).trans v7
              have v8 := (hB6.cell (p := ⟨wr.heap.size, 8, none⟩) (cell_lt v8)).trans v8
              have v9 := (hB6.cell (p := ⟨wr.heap.size, 9, none⟩) (cell_lt v9)).trans v9
              have v10 := (hB6.cell (p := ⟨wr.heap.size, 10, none⟩) (cell_lt v10)).trans v10
              have v11 := (hB6.cell (p := ⟨wr.heap.size, 11, none⟩) (cell_lt v11)).trans v11
              have c5 := (hB6.cell (p := ⟨w.heap.size + 1 + 1 + 1, 1, none⟩) (cell_lt c5)).trans c5
              have cx5 := (hB6.cell (p := ⟨bb, off, none⟩) (cell_lt cx5)).trans cx5
              have hKl5 := cell_lt c5
              have hkl5 := cell_lt v9
              have hbl5 : bb < w50.heap.size := cell_lt cx5
              clear ha kn n2 nf2 hB6
              rw [rounds_succ]
              have ha : Go.bits .and .u8 (x : Int) 192 = 0 := and_m_192_16_32 x (by omega) (by omega)
              have kn := Blk.new w50 108 #[.int .u8 192, .int .u8 64, .nilFunc]
              have n2 : (w50.alloc (.cells #[.int .u8 192, .int .u8 64, .nilFunc] 108)).cell? ⟨w50.heap.size, 2, none⟩ = some .nilFunc := kn.cell 2
              have nf2 : (w50.alloc (.cells #[.int .u8 192, .int .u8 64, .nilFunc] 108)).frozen? ⟨w50.heap.size, 2, none⟩ = false := kn.frozen 2
              go_wp2_with fail
              go_quiet (fail)
              go_wp2_with fail
              have hB6 : Below w50.heap.size w50 ((w50.alloc (.cells #[.int .u8 192, .int .u8 64, .func (.func 81) #[] #[]] 108)).drewN nq) := below_drewN ((Below.refl _ _).alloc (Nat.le_refl _) _) nq
              generalize (w50.alloc (.cells #[.int .u8 192, .int .u8 64, .func (.func 81) #[] #[]] 108)).drewN nq = w51 at *
              have HSn1 := Lib.hid (HSn0.out.ext hB6)
              have hsz6 := hB6.size
              have v6 := (hB6.cell (p := ⟨wr.heap.size, 6, none⟩) (cell_lt v6)).trans v6
              have v7 := (hB6.cell (p := ⟨wr.heap.size, 7, none⟩) (cell_lt v7)).trans v7
              have v8 := (hB6.cell (p := ⟨wr.heap.size, 8, none⟩) (cell_lt v8)).trans v8
              have v9 := (hB6.cell (p := ⟨wr.heap.size, 9, none⟩) (cell_lt v9)).trans v9
              have v10 := (hB6.cell (p := ⟨wr.heap.size, 10, none⟩) (cell_lt v10)).trans v10
              have v11 := (hB6.cell (p := ⟨wr.heap.size, 11, none⟩) (cell_lt v11)).trans v11
              have c5 := (hB6.cell (p := ⟨w.heap.size + 1 + 1 + 1, 1, none⟩) (cell_lt c5)).trans c5
              have cx5 := (hB6.cell (p := ⟨bb, off, none⟩) (cell_lt cx5)).trans cx5
              have hKl5 := cell_lt c5
              have hkl5 := cell_lt v9
              have hbl5 : bb < w51.heap.size := cell_lt cx5
              clear ha kn n2 nf2 hB6
              rw [rounds_succ]
              have ha : Go.bits .and .u8 (x : Int) 224 = 0 := and_m_224_16_32 x (by omega) (by omega)
              have kn := Blk.new w51 108 #[.int .u8 224, .int .u8 32, .nilFunc]
              have n2 : (w51.alloc (.cells #[.int .u8 224, .int .u8 32, .nilFunc] 108)).cell? ⟨w51.heap.size, 2, none⟩ = some .nilFunc := kn.cell 2
              have nf2 : (w51.alloc (.cells #[.int .u8 224, .int .u8 32, .nilFunc] 108)).frozen? ⟨w51.heap.size, 2, none⟩ = false := kn.frozen 2
              go_wp2_with fail
              go_quiet (fail)
              go_wp2_with fail
              have hB6 : Below w51.heap.size w51 ((w51.alloc (.cells #[.int .u8 224, .int .u8 32, .func (.func 83) #[] #[]] 108)).drewN nq) := below_drewN ((Below.refl _ _).alloc (Nat.le_refl _) _) nq
              generalize (w51.alloc (.cells #[.int .u8 224, .int .u8 32, .func (.func 83) #[] #[]] 108)).drewN nq = w52 at *
              have HSn2 := Lib.hid (HSn1.out.ext hB6)
              have hsz6 := hB6.size
              have v9 := (hB6.cell (p := ⟨wr.heap.size, 9, none⟩) (cell_lt v9)).trans v9
              have v10 := (hB6.cell (p := ⟨wr.heap.size, 10, none⟩) (cell_lt v10)).trans v10
              have v11 := (hB6.cell (p := ⟨wr.heap.size, 11, none⟩) (cell_lt v11)).trans v11
              have c5 := (hB6.cell (p := ⟨w.heap.size + 1 + 1 + 1, 1, none⟩) (cell_lt c5)).trans c5
              have cx5 := (hB6.cell (p := ⟨bb, off, none⟩) (cell_lt cx5)).trans cx5
              have hKl5 := cell_lt c5
              have hkl5 := cell_lt v9
              have hbl5 : bb < w52.heap.size := cell_lt cx5
              clear ha kn n2 nf2 hB6
              rw [rounds_succ]
              have ha : Go.bits .and .u8 (x : Int) 240 = 16 := and_m_240_16_32 x (by omega) (by omega)
              have kn := Blk.new w52 108 #[.int .u8 240, .int .u8 16, .nilFunc]
              have n2 : (w52.alloc (.cells #[.int .u8 240, .int .u8 16, .nilFunc] 108)).cell? ⟨w52.heap.size, 2, none⟩ = some .nilFunc := kn.cell 2
              have nf2 : (w52.alloc (.cells #[.int .u8 240, .int .u8 16, .nilFunc] 108)).frozen? ⟨w52.heap.size, 2, none⟩ = false := kn.frozen 2
              go_wp2_with fail
              go_quiet (fail)
              go_wp2_with fail
              have hB6 : Below w52.heap.size w52 ((w52.alloc (.cells #[.int .u8 240, .int .u8 16, .func (.func 85) #[] #[]] 108)).drewN nq) := below_drewN ((Below.refl _ _).alloc (Nat.le_refl _) _) nq
              have K1 := Lib.hid (kind4 HE.out (HSn2.out.ext hB6) HOS.out)
              clear kn n2 nf2
              refine K1.out.mono ?_
              intro e w6 hP
              clear K1 hB6
              cases hs : step5 true s with
              | error er =>
                rw [hs] at hP
                obtain ⟨he, hT⟩ := hP
                unfold Pan at he
                subst he
                have HTB := Lib.hid hT
                have hstep := Lib.hid (show step lim s = .error er by rw [HST.out, if_neg h128, if_neg h64, if_neg h32, if_pos h16]; exact hs)
                clear hs hT
                go_wp2_with fail
                have hlt := HLT.out
                have hdg := HE.out.dg
                have hdr := HE.out.dr
                have j2 := HTB.out.up.blk HK2.out (by rintro (e | e) <;> omega)
                have j4 := HTB.out.up.blk HK4.out (by rintro (e | e) <;> omega)
                have j5 := HTB.out.up.blk HK5.out (by rintro (e | e) <;> omega)
                refine leaves_cons (f := 68) (args := #[.pointer (some ⟨w.heap.size, 0, none⟩), .pointer (some ⟨w.heap.size + 1, 0, none⟩), .pointer (some ⟨w.heap.size + 1 + 1, 0, none⟩)]) (by simp) (by simp [go_sem]) ?_
                refine (caught w.heap.size (w.heap.size + 1) (w.heap.size + 1 + 1) D _ _ _ (ev er) (HE.out.er er).2.2 [] w6 (j2.cell 0) HTB.out.kd j4 j5).mono ?_
                rintro e u' w'' ⟨rfl, rfl, kd, k4, k5, U⟩
                obtain ⟨o6, ht6⟩ := HTB.out.kt
                refine ⟨_, dec_results rfl rfl k4 k5, ?_⟩
                rw [← HRUN.out, run_fault hstep.out HH0.out]
                exact ⟨rfl, ⟨kd, ⟨o6, ht6.upd U (by rintro (e | e | e) <;> omega) (by rintro (e | e | e) <;> omega)⟩⟩, ((Upd3.of_below HB0.out (fun i => i = D ∨ i = g ∨ i = r)).trans HTB.out.up (fun i hi => Or.inl (Or.inr hi))).trans U (fun i hi => by rcases hi with e | e | e; exact Or.inl (Or.inl e); exact Or.inr (by omega); exact Or.inr (by omega))⟩
              | ok s' =>
                rw [hs] at hP
                obtain ⟨A7, c7, ov7, rfl, hS7⟩ := hP
                have hstep := Lib.hid (show step lim s = .ok s' by rw [HST.out, if_neg h128, if_neg h64, if_neg h32, if_pos h16]; exact hs)
                have HS7 := Lib.hid hS7
                clear hs hS7
                go_wp2_with fail
                go_roundw
                case rel => exact ⟨s', A7, c7, ov7, HS7.out, (run_step hstep.out HH0.out).symm.trans HRUN.out, step_os hstep.out HOS.out⟩
                case measure => rw [HS7.out.restLen, HS.out.restLen]; exact step_rest hstep.out
            ·
              go_wp2_with fail
              refine wp_loop_rounds 5 ?_
              rw [rounds_succ]
              have ha : Go.bits .and .u8 (x : Int) 128 = 0 := and_m_128_0_16 x (by omega) (by omega)
              have kn := Blk.new w5 108 #[.int .u8 128, .int .u8 128, .nilFunc]
              have n2 : (w5.alloc (.cells #[.int .u8 128, .int .u8 128, .nilFunc] 108)).cell? ⟨w5.heap.size, 2, none⟩ = some .nilFunc := kn.cell 2
              have nf2 : (w5.alloc (.cells #[.int .u8 128, .int .u8 128, .nilFunc] 108)).frozen? ⟨w5.heap.size, 2, none⟩ = false := kn.frozen 2
              go_wp2_with fail
              go_quiet (fail)
              go_wp2_with fail
              have hB6 : Below w5.heap.size w5 ((w5.alloc (.cells #[.int .u8 128, .int .u8 128, .func (.func 77) #[] #[]] 108)).drewN nq) := below_drewN ((Below.refl _ _).alloc (Nat.le_refl _) _) nq
              generalize (w5.alloc (.cells #[.int .u8 128, .int .u8 128, .func (.func 77) #[] #[]] 108)).drewN nq = w50 at *
              have HSn0 := Lib.hid (HS5.out.ext hB6)
              have hsz6 := hB6.size
              have v3 := (hB6.cell (p := ⟨wr.heap.size, 3, none⟩) (cell_lt v3)).trans v3
              have v4 := (hB6.cell (p := ⟨wr.heap.size, 4, none⟩) (cell_lt v4)).trans v4
              have v5 := (hB6.cell (p := ⟨wr.heap.size, 5, none⟩) (cell_lt v5)).trans v5
              have v6 := (hB6.cell (p := ⟨wr.heap.size, 6, none⟩) (cell_lt v6)).trans v6
              have v7 := (hB6.cell (p := ⟨wr.heap.size, 7, none⟩) (cell_lt v7)).trans v7
              have v8 := (hB6.cell (p := ⟨wr.heap.size, 8, none⟩) (cell_lt v8)).trans v8
              have v9 := (hB6.cell (p := ⟨wr.heap.size, 9, none⟩) (cell_lt v9)).trans v9
              have v10 := (hB6.cell (p := ⟨wr.heap.size, 10, none⟩) (cell_lt v10)).trans v10
              have v11 := (hB6.cell (p := ⟨wr.heap.size, 11, none⟩) (cell_lt v11)).trans v11
              have v12 := (hB6.cell (p := ⟨wr.heap.size, 12, none⟩) (cell_lt v12)).trans v12
              have v13 := (hB6.cell (p := ⟨wr.heap.size, 13, none⟩) (cell_lt v13)).trans v13
              have v14 := (hB6.cell (p := ⟨wr.heap.size, 14, none⟩) (cell_lt v14)).trans v14
              have c5 := (hB6.cell (p := ⟨w.heap.size + 1 + 1 + 1, 1, none⟩) (cell_lt c5)).trans c5
              have cx5 := (hB6.cell (p := ⟨bb, off, none⟩) (cell_lt cx5)).trans cx5
              have hKl5 := cell_lt c5
              have hkl5 := cell_lt v12
              have hbl5 : bb < w50.heap.size := cell_lt cx5
              clear ha kn n2 nf2 hB6
              rw [rounds_succ]
              have ha : Go.bits .and .u8 (x : Int) 192 = 0 := and_m_192_0_16 x (by omega) (by omega)
              have kn := Blk.new w50 108 #[.int .u8 192, .int .u8 64, .nilFunc]
              have n2 : (w50.alloc (.cells #[.int .u8 192, .int .u8 64, .nilFunc] 108)).cell? ⟨w50.heap.size, 2, none⟩ = some .nilFunc := kn.cell 2
              have nf2 : (w50.alloc (.cells #[.int .u8 192, .int .u8 64, .nilFunc] 108)).frozen? ⟨w50.heap.size, 2, none⟩ = false := kn.frozen 2
              go_wp2_with fail
              go_quiet (fail)
              go_wp2_with fail
              have hB6 : Below w50.heap.size w50 ((w50.alloc (.cells #[.int .u8 192, .int .u8 64, .func (.func 81) #[] #[]] 108)).drewN nq) := below_drewN ((Below.refl _ _).alloc (Nat.le_refl _) _) nq
              generalize (w50.alloc (.cells #[.int .u8 192, .int .u8 64, .func (.func 81) #[] #[]] 108)).drewN nq = w51 at *
              have HSn1 := Lib.hid (HSn0.out.ext hB6)
              have hsz6 := hB6.size
              have v6 := (hB6.cell (p := ⟨wr.heap.size, 6, none⟩) (cell_lt v6)).trans v6
              have v7 := (hB6.cell (p := ⟨wr.heap.size, 7, none⟩) (cell_lt v7)).trans v7
              have v8 := (hB6.cell (p := ⟨wr.heap.size, 8, none⟩) (cell_lt v8)).trans v8
              have v9 := (hB6.cell (p := ⟨wr.heap.size, 9, none⟩) (cell_lt v9)).trans v9
              have v10 := (hB6.cell (p := ⟨wr.heap.size, 10, none⟩) (cell_lt v10)).trans v10
              have v11 := (hB6.cell (p := ⟨wr.heap.size, 11, none⟩) (cell_lt v11)).trans v11
              have v12 := (hB6.cell (p := ⟨wr.heap.size, 12, none⟩) (cell_lt v12)).trans v12
              have v13 := (hB6.cell (p := ⟨wr.heap.size, 13, none⟩) (cell_lt v13)).trans v13
              have v14 := (hB6.cell (p := ⟨wr.heap.size, 14, none⟩) (cell_lt v14)).trans v14
              have c5 := (hB6.cell (p := ⟨w.heap.size + 1 + 1 + 1, 1, none⟩) (cell_lt c5)).trans c5
              have cx5 := (hB6.cell (p := ⟨bb, off, none⟩) (cell_lt cx5)).trans cx5
              have hKl5 := cell_lt c5
              have hkl5 := cell_lt v12
              have hbl5 : bb < w51.heap.size := cell_lt cx5
              clear ha kn n2 nf2 hB6
              rw [rounds_succ]
              have ha : Go.bits .and .u8 (x : Int) 224 = 0 := and_m_224_0_16 x (by omega) (by omega)
              have kn := Blk.new w51 108 #[.int .u8 224, .int .u8 32, .nilFunc]
              have n2 : (w51.alloc (.cells #[.int .u8 224, .int .u8 32, .nilFunc] 108)).cell? ⟨w51.heap.size, 2, none⟩ = some .nilFunc := kn.cell 2
              have nf2 : (w51.alloc (.cells #[.int .u8 224, .int .u8 32, .nilFunc] 108)).frozen? ⟨w51.heap.size, 2, none⟩ = false := kn.frozen 2
              go_wp2_with fail
              go_quiet (fail)
              go_wp2_with fail
              have hB6 : Below w51.heap.size w51 ((w51.alloc (.cells #[.int .u8 224, .int .u8 32, .func (.func 83) #[] #[]] 108)).drewN nq) := below_drewN ((Below.refl _ _).alloc (Nat.le_refl _) _) nq
              generalize (w51.alloc (.cells #[.int .u8 224, .int .u8 32, .func (.func 83) #[] #[]] 108)).drewN nq = w52 at *
              have HSn2 := Lib.hid (HSn1.out.ext hB6)
              have hsz6 := hB6.size
              have v9 := (hB6.cell (p := ⟨wr.heap.size, 9, none⟩) (cell_lt v9)).trans v9
              have v10 := (hB6.cell (p := ⟨wr.heap.size, 10, none⟩) (cell_lt v10)).trans v10
              have v11 := (hB6.cell (p := ⟨wr.heap.size, 11, none⟩) (cell_lt v11)).trans v11
              have v12 := (hB6.cell (p := ⟨wr.heap.size, 12, none⟩) (cell_lt v12)).trans v12
              have v13 := (hB6.cell (p := ⟨wr.heap.size, 13, none⟩) (cell_lt v13)).trans v13
              have v14 := (hB6.cell (p := ⟨wr.heap.size, 14, none⟩) (cell_lt v14)).trans v14
              have c5 := (hB6.cell (p := ⟨w.heap.size + 1 + 1 + 1, 1, none⟩) (cell_lt c5)).trans c5
              have cx5 := (hB6.cell (p := ⟨bb, off, none⟩) (cell_lt cx5)).trans cx5
              have hKl5 := cell_lt c5
              have hkl5 := cell_lt v12
              have hbl5 : bb < w52.heap.size := cell_lt cx5
              clear ha kn n2 nf2 hB6
              rw [rounds_succ]
              have ha : Go.bits .and .u8 (x : Int) 240 = 0 := and_m_240_0_16 x (by omega) (by omega)
              have kn := Blk.new w52 108 #[.int .u8 240, .int .u8 16, .nilFunc]
              have n2 : (w52.alloc (.cells #[.int .u8 240, .int .u8 16, .nilFunc] 108)).cell? ⟨w52.heap.size, 2, none⟩ = some .nilFunc := kn.cell 2
              have nf2 : (w52.alloc (.cells #[.int .u8 240, .int .u8 16, .nilFunc] 108)).frozen? ⟨w52.heap.size, 2, none⟩ = false := kn.frozen 2
              go_wp2_with fail
              go_quiet (fail)
              go_wp2_with fail
              have hB6 : Below w52.heap.size w52 ((w52.alloc (.cells #[.int .u8 240, .int .u8 16, .func (.func 85) #[] #[]] 108)).drewN nq) := below_drewN ((Below.refl _ _).alloc (Nat.le_refl _) _) nq
              generalize (w52.alloc (.cells #[.int .u8 240, .int .u8 16, .func (.func 85) #[] #[]] 108)).drewN nq = w53 at *
              have HSn3 := Lib.hid (HSn2.out.ext hB6)
              have hsz6 := hB6.size
              have v12 := (hB6.cell (p := ⟨wr.heap.size, 12, none⟩) (cell_lt v12)).trans v12
              have v13 := (hB6.cell (p := ⟨wr.heap.size, 13, none⟩) (cell_lt v13)).trans v13
              have v14 := (hB6.cell (p := ⟨wr.heap.size, 14, none⟩) (cell_lt v14)).trans v14
              have c5 := (hB6.cell (p := ⟨w.heap.size + 1 + 1 + 1, 1, none⟩) (cell_lt c5)).trans c5
              have cx5 := (hB6.cell (p := ⟨bb, off, none⟩) (cell_lt cx5)).trans cx5
              have hKl5 := cell_lt c5
              have hkl5 := cell_lt v12
              have hbl5 : bb < w53.heap.size := cell_lt cx5
              clear ha kn n2 nf2 hB6
              rw [rounds_succ]
              have ha : Go.bits .and .u8 (x : Int) 240 = 0 := and_m_240_0_16 x (by omega) (by omega)
              have kn := Blk.new w53 108 #[.int .u8 240, .int .u8 0, .nilFunc]
              have n2 : (w53.alloc (.cells #[.int .u8 240, .int .u8 0, .nilFunc] 108)).cell? ⟨w53.heap.size, 2, none⟩ = some .nilFunc := kn.cell 2
              have nf2 : (w53.alloc (.cells #[.int .u8 240, .int .u8 0, .nilFunc] 108)).frozen? ⟨w53.heap.size, 2, none⟩ = false := kn.frozen 2
              go_wp2_with fail
              go_quiet (fail)
              go_wp2_with fail
              have hB6 : Below w53.heap.size w53 ((w53.alloc (.cells #[.int .u8 240, .int .u8 0, .func (.func 86) #[] #[]] 108)).drewN nq) := below_drewN ((Below.refl _ _).alloc (Nat.le_refl _) _) nq
              have K1 := Lib.hid (kind5 HE.out (HSn3.out.ext hB6) HOS.out)
              clear kn n2 nf2
              refine K1.out.mono ?_
              intro e w6 hP
              clear K1 hB6
              cases hs : step5 false s with
              | error er =>
                rw [hs] at hP
                obtain ⟨he, hT⟩ := hP
                unfold Pan at he
                subst he
                have HTB := Lib.hid hT
                have hstep := Lib.hid (show step lim s = .error er by rw [HST.out, if_neg h128, if_neg h64, if_neg h32, if_neg h16]; exact hs)
                clear hs hT
                go_wp2_with fail
                have hlt := HLT.out
                have hdg := HE.out.dg
                have hdr := HE.out.dr
                have j2 := HTB.out.up.blk HK2.out (by rintro (e | e) <;> omega)
                have j4 := HTB.out.up.blk HK4.out (by rintro (e | e) <;> omega)
                have j5 := HTB.out.up.blk HK5.out (by rintro (e | e) <;> omega)
                refine leaves_cons (f := 68) (args := #[.pointer (some ⟨w.heap.size, 0, none⟩), .pointer (some ⟨w.heap.size + 1, 0, none⟩), .pointer (some ⟨w.heap.size + 1 + 1, 0, none⟩)]) (by simp) (by simp [go_sem]) ?_
                refine (caught w.heap.size (w.heap.size + 1) (w.heap.size + 1 + 1) D _ _ _ (ev er) (HE.out.er er).2.2 [] w6 (j2.cell 0) HTB.out.kd j4 j5).mono ?_
                rintro e u' w'' ⟨rfl, rfl, kd, k4, k5, U⟩
                obtain ⟨o6, ht6⟩ := HTB.out.kt
                refine ⟨_, dec_results rfl rfl k4 k5, ?_⟩
                rw [← HRUN.out, run_fault hstep.out HH0.out]
                exact ⟨rfl, ⟨kd, ⟨o6, ht6.upd U (by rintro (e | e | e) <;> omega) (by rintro (e | e | e) <;> omega)⟩⟩, ((Upd3.of_below HB0.out (fun i => i = D ∨ i = g ∨ i = r)).trans HTB.out.up (fun i hi => Or.inl (Or.inr hi))).trans U (fun i hi => by rcases hi with e | e | e; exact Or.inl (Or.inl e); exact Or.inr (by omega); exact Or.inr (by omega))⟩
              | ok s' =>
                rw [hs] at hP
                obtain ⟨A7, c7, ov7, rfl, hS7⟩ := hP
                have hstep := Lib.hid (show step lim s = .ok s' by rw [HST.out, if_neg h128, if_neg h64, if_neg h32, if_neg h16]; exact hs)
                have HS7 := Lib.hid hS7
                clear hs hS7
                go_wp2_with fail
                go_roundw
                case rel => exact ⟨s', A7, c7, ov7, HS7.out, (run_step hstep.out HH0.out).symm.trans HRUN.out, step_os hstep.out HOS.out⟩
                case measure => rw [HS7.out.restLen, HS.out.restLen]; exact step_rest hstep.out
end Go.Proofs.YtflmgjidnclegaaDoor.Hpk
