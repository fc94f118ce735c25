/-
  The document's encoder in memory: NewEncoder, Resize, Size.
-/
import Derived.Test.YtflmgjidnclegaaDoorHpkRPutM
import Derived.Test.YtflmgjidnclegaaDoorPutM
import Derived.Test.YtflmgjidnclegaaDoorLawsM
import Derived.Test.YtflmgjidnclegaaDoorRefM
namespace Go.Proofs.YtflmgjidnclegaaDoor.Hpk
open Go.RowKit
open Huff (bytesV bytesV_append)
open Tab (Hd hsz tot Hn RTbl RUpd shr addQ findR HnAt)
/-- the document's encoder, in memory -/
structure REnc (w : World) (B X x r : Nat) (s : ES) : Prop where
  kx : ∃ last : Int, Blk w X 110 #[.pointer (some ⟨x, 0, none⟩), .bool s.asked, .int .i64 (s.least : Int), .int .i64 last] ∧ (s.asked = true → last = (s.m : Int))
  kt : RTbl w B x r s.Q s.m
section
variable {w w' : World} {B X x r : Nat} {s : ES}
theorem REnc.lt (h : REnc w B X x r s) : X < w.heap.size ∧ x < w.heap.size := by
  obtain ⟨_, k, _⟩ := h.kx
  exact ⟨k.lt, h.kt.lt⟩
theorem REnc.ne (h : REnc w B X x r s) : X ≠ x := by
  obtain ⟨_, k, _⟩ := h.kx
  obtain ⟨_, _, k2, _⟩ := h.kt.kx
  exact k.ne_ k2 (by decide)
theorem REnc.upd {F : Nat → Prop} (h : REnc w B X x r s) (u : Upd3 w w' F) (hX : ¬ F X) (hx : ¬ F x) (hr : ∀ i, F i → i = r ∨ i = x ∨ i < B ∨ ∃ t cs, Blk w i t cs ∧ t ≠ 23) : REnc w' B X x r s := by
  obtain ⟨l, k, e⟩ := h.kx
  exact ⟨⟨l, u.blk k hX, e⟩, h.kt.upd u hx hr⟩
theorem REnc.below (h : REnc w B X x r s) (hb : Below w.heap.size w w') : REnc w' B X x r s := h.upd (Upd3.of_below hb (fun _ => False)) id id (fun _ h => h.elim)
end
/-- the block of a row that is owned -/
theorem own_blk {w : World} {base size n : Nat} {e : TypeId} {v : Value} {xs : List Value} (h : w.ownsRow base e size v n xs) : ∀ i, v.ownBlock = some i → ∃ cs, Blk w i e cs := by
  intro i hi
  rcases h.2 with ⟨rfl, _⟩ | ⟨g, cap, cur, rfl, _, hh, _⟩
  · cases hi
  · have e : g = i := by injection hi
    subst e
    exact ⟨cur, hh⟩
theorem REnc.grown {w w' : World} {B X x r : Nat} {s : ES} {base n : Nat} {v : Value} {xs : List Value} (h : REnc w B X x r s) (ho : w.ownsRow base 5 1 v n xs) (hX : X < base) (hx : x < base) (hg : w.grownBy w' v.ownBlock) : REnc w' B X x r s := by
  have u : Upd3 w w' (fun i => v.ownBlock = some i) := (Upd3.refl w _).grown hg (fun b e => Or.inl e)
  refine h.upd u (fun e => ?_) (fun e => ?_) (fun i e => ?_)
  · have := (ho.lt _ e).1; omega
  · have := (ho.lt _ e).1; omega
  · obtain ⟨cs, k⟩ := own_blk ho i e
    exact .inr (.inr (.inr ⟨_, cs, k, by decide⟩))
set_option maxRecDepth 100000 in
theorem rnewenc_any (m : Nat) (hm : m ≤ 4096) (w : World) (B r : Nat) :
    Calls Tryd.prog 46 #[.int .i64 (m : Int)] w fun e w' => ∃ X x, e = .returned (.pointer (some ⟨X, 0, none⟩)) ∧ w.heap.size ≤ x ∧ x < X ∧ Below w.heap.size w w' ∧ REnc w' B X x r (es0 m) := by
  go_enter Tryd.func46, Tryd.ntmps46
  go_wp2_with fail
  refine (Tab.rnew_any m hm w B r).mono ?_
  rintro e w1 ⟨rfl, hb, ht⟩
  go_wp2_with fail
  go_ret
  have hlt := ht.lt
  refine ⟨w1.heap.size, w.heap.size, rfl, Nat.le_refl _, hlt, hb.alloc hb.size _, ⟨0, ?_, fun e => by cases e⟩, ?_⟩
  · exact Blk.new w1 110 #[.pointer (some ⟨w.heap.size, 0, none⟩), .bool false, .int .i64 0, .int .i64 0]
  · exact ht.below ((Below.refl _ _).alloc (Nat.le_refl _) _)
def REnd (w : World) (B X x r : Nat) (s : ES) (w' : World) : Prop := REnc w' B X x r s ∧ Upd3 w w' (fun i => i = X ∨ i = x)
set_option maxRecDepth 100000 in
set_option maxHeartbeats 1000000 in
theorem rencresize_any {w : World} {B X x r : Nat} {s : ES} (h : REnc w B X x r s) (hr : r < w.heap.size) (hB : B ≤ w.heap.size) (k : Nat) (hk : k ≤ 4096) :
    Calls Tryd.prog 48 #[.pointer (some ⟨X, 0, none⟩), .int .i64 (k : Int)] w fun e w' => e = .returned (.tuple #[]) ∧ REnd w B X x r (resize k s) w' := by
  have hne := h.ne
  have hlt := h.lt
  obtain ⟨Q, m, least, asked⟩ := s
  obtain ⟨⟨last, kx, hlast⟩, kt⟩ := h
  simp only at kx kt
  have e0 : w.cell? ⟨X, 0, none⟩ = some (.pointer (some ⟨x, 0, none⟩)) := kx.cell 0
  have e1 : w.cell? ⟨X, 1, none⟩ = some (.bool asked) := kx.cell 1
  have e2 : w.cell? ⟨X, 2, none⟩ = some (.int .i64 (least : Int)) := kx.cell 2
  have f1 := kx.frozen 1
  have f2 := kx.frozen 2
  have f3 := kx.frozen 3
  -- the two ends: least is written or not
  have kA := ((kx.set_ 2 (.int .i64 (k : Int))).set_ 1 (.bool true)).set_ 3 (.int .i64 (k : Int))
  have kB := (kx.set_ 1 (.bool true)).set_ 3 (.int .i64 (k : Int))
  have uA : Upd3 w (((w.setCell ⟨X, 2, none⟩ (.int .i64 (k : Int))).setCell ⟨X, 1, none⟩ (.bool true)).setCell ⟨X, 3, none⟩ (.int .i64 (k : Int))) (fun i => i = X) :=
    (((Upd3.refl w (fun i => i = X)).setCell (p := ⟨X, 2, none⟩) (Or.inl rfl) _).setCell (p := ⟨X, 1, none⟩) (Or.inl rfl) _).setCell (p := ⟨X, 3, none⟩) (Or.inl rfl) _
  have uB : Upd3 w ((w.setCell ⟨X, 1, none⟩ (.bool true)).setCell ⟨X, 3, none⟩ (.int .i64 (k : Int))) (fun i => i = X) :=
    ((Upd3.refl w (fun i => i = X)).setCell (p := ⟨X, 1, none⟩) (Or.inl rfl) _).setCell (p := ⟨X, 3, none⟩) (Or.inl rfl) _
  have hF : ∀ i, i = X → i = r ∨ i = x ∨ i < B ∨ ∃ t cs, Blk w i t cs ∧ t ≠ 23 := fun i e => by subst e; exact .inr (.inr (.inr ⟨_, _, kx, by decide⟩))
  have tA := kt.upd uA (fun e => hne e.symm) hF
  have tB := kt.upd uB (fun e => hne e.symm) hF
  have g1 : (w.setCell ⟨X, 2, none⟩ (.int .i64 (k : Int))).frozen? ⟨X, 1, none⟩ = false := (kx.set_ 2 (.int .i64 (k : Int))).frozen 1
  have g1c : (w.setCell ⟨X, 2, none⟩ (.int .i64 (k : Int))).cell? ⟨X, 1, none⟩ = some (.bool asked) := (kx.set_ 2 (.int .i64 (k : Int))).cell 1
  have g2 : ((w.setCell ⟨X, 2, none⟩ (.int .i64 (k : Int))).setCell ⟨X, 1, none⟩ (.bool true)).frozen? ⟨X, 3, none⟩ = false := ((kx.set_ 2 (.int .i64 (k : Int))).set_ 1 (.bool true)).frozen 3
  have g2c : ((w.setCell ⟨X, 2, none⟩ (.int .i64 (k : Int))).setCell ⟨X, 1, none⟩ (.bool true)).cell? ⟨X, 3, none⟩ = some (.int .i64 last) := ((kx.set_ 2 (.int .i64 (k : Int))).set_ 1 (.bool true)).cell 3
  have g3 : (w.setCell ⟨X, 1, none⟩ (.bool true)).frozen? ⟨X, 3, none⟩ = false := (kx.set_ 1 (.bool true)).frozen 3
  have g3c : (w.setCell ⟨X, 1, none⟩ (.bool true)).cell? ⟨X, 3, none⟩ = some (.int .i64 last) := (kx.set_ 1 (.bool true)).cell 3
  have p0 : (((w.setCell ⟨X, 2, none⟩ (.int .i64 (k : Int))).setCell ⟨X, 1, none⟩ (.bool true)).setCell ⟨X, 3, none⟩ (.int .i64 (k : Int))).cell? ⟨X, 0, none⟩ = some (.pointer (some ⟨x, 0, none⟩)) := kA.cell 0
  have p1 : ((w.setCell ⟨X, 1, none⟩ (.bool true)).setCell ⟨X, 3, none⟩ (.int .i64 (k : Int))).cell? ⟨X, 0, none⟩ = some (.pointer (some ⟨x, 0, none⟩)) := kB.cell 0
  have HRA := Lib.hid (Tab.rresize_any tA (by simpa using hr) (by simpa using hB) k hk)
  have HRB := Lib.hid (Tab.rresize_any tB (by simpa using hr) (by simpa using hB) k hk)
  have HKA := Lib.hid kA
  have HKB := Lib.hid kB
  have HUA := Lib.hid uA
  have HUB := Lib.hid uB
  have HNE := Lib.hid hne
  have c3 : w.cell? ⟨X, 3, none⟩ = some (.int .i64 last) := kx.cell 3
  clear kx kt kA kB uA uB tA tB hF hlast hne
  go_enter Tryd.func48, Tryd.ntmps48
  cases asked with
  | false =>
    go_wp2_with fail
    refine HRA.out.mono ?_
    rintro e w1 ⟨rfl, ht, hu⟩
    have hk1 := hu.blk HKA.out (fun e => HNE.out e)
    have hu1 := (HUA.out.mono (G := fun i => i = X ∨ i = x) (fun i h => Or.inl h)).trans hu (fun i h => Or.inl (Or.inr h))
    go_wp2_with fail
    go_end0
    exact ⟨rfl, ⟨⟨(k : Int), by unfold resize; simp only [true_or, if_true]; exact hk1, fun _ => rfl⟩, ht⟩, hu1⟩
  | true =>
    by_cases c : k < least
    · have hd : decide ((k : Int) < (least : Int)) = true := decide_eq_true (by omega)
      go_wp2_with fail
      refine HRA.out.mono ?_
      rintro e w1 ⟨rfl, ht, hu⟩
      have hk1 := hu.blk HKA.out (fun e => HNE.out e)
      have hu1 := (HUA.out.mono (G := fun i => i = X ∨ i = x) (fun i h => Or.inl h)).trans hu (fun i h => Or.inl (Or.inr h))
      go_wp2_with fail
      go_end0
      exact ⟨rfl, ⟨⟨(k : Int), by unfold resize; simp only; rw [if_pos (.inr c)]; exact hk1, fun _ => rfl⟩, ht⟩, hu1⟩
    · have hd : decide ((k : Int) < (least : Int)) = false := decide_eq_false (by omega)
      go_wp2_with fail
      refine HRB.out.mono ?_
      rintro e w1 ⟨rfl, ht, hu⟩
      have hk1 := hu.blk HKB.out (fun e => HNE.out e)
      have hu1 := (HUB.out.mono (G := fun i => i = X ∨ i = x) (fun i h => Or.inl h)).trans hu (fun i h => Or.inl (Or.inr h))
      go_wp2_with fail
      go_end0
      exact ⟨rfl, ⟨⟨(k : Int), by unfold resize; simp only; rw [if_neg (by simp; omega)]; exact hk1, fun _ => rfl⟩, ht⟩, hu1⟩
set_option maxRecDepth 100000 in
set_option maxHeartbeats 1000000 in
theorem rlsize_any (A : Option Addr) (cap : Nat) (L : List Hn) (hl : L.length ≤ 1048576) (hL : tots L ≤ 4611686018427387904) (w : World) (hA : HnAt w A L) :
    Calls Tryd.prog 51 #[.slice A L.length cap] w fun e w' => e = .returned (.int .i64 (tots L : Int)) ∧ Below w.heap.size w w' := by
  have HA := Lib.hid hA
  clear hA
  go_enter Tryd.func51, Tryd.ntmps51
  go_wp2_with fail
  go_loopw [3, 4] (fun s i wr => ∃ k : Nat, i = .int .i64 (k : Int) ∧ s = .int .i64 (tots (L.take k) : Int) ∧ k ≤ L.length ∧ Since w wr) (fun _ i _ => L.length - (intOf i).toNat)
  case atStart => exact ⟨0, rfl, rfl, Nat.zero_le _, Below.refl _ _⟩
  case round =>
    obtain ⟨k, rfl, rfl, hk, hs⟩ := hrel
    by_cases hlt : k < L.length
    · obtain ⟨x, hx⟩ : ∃ x, L[k]? = some x := ⟨_, List.getElem?_eq_getElem hlt⟩
      obtain ⟨b, off, hAe, _, a0, a1, a2⟩ := (HA.out.below hs) k x hx
      subst hAe
      have ht := tots_take L k x hx
      have htl := tots_take_le L (k + 1)
      have HTT := Lib.hid ht
      obtain ⟨n, v, nv⟩ := x
      simp only at a0 a1 a2 HTT ht
      have hd : decide ((k : Int) < (L.length : Int)) = true := decide_eq_true (by omega)
      have hzb : tots (L.take k) + hsz (n, v) ≤ 4611686018427387904 := by omega
      have HSZ := Lib.hid (fun W => Tab.rsize_any n v nv (hsz (n, v)) rfl (by omega) W)
      have HS := Lib.hid hs
      clear hs hx ht
      go_wp2_with fail
      refine (HSZ.out _).mono ?_
      rintro e w2 ⟨rfl, hb2⟩
      have HS2 := Lib.hid (Below.trans HS.out (Below.mono hb2 (Below.size HS.out)))
      generalize hsz (n, v) = z at *
      clear hb2 a0 a1 a2
      go_wp2_with fail
      go_roundw
      case rel => exact ⟨k + 1, by go_num, by rw [HTT.out]; go_num, by omega, HS2.out⟩
      case measure => simp [intOf]; omega
    · have hd : decide ((k : Int) < (L.length : Int)) = false := decide_eq_false (by omega)
      have HS := Lib.hid hs
      have e : L.take k = L := List.take_of_length_le (by omega)
      rw [e]
      clear hs
      go_wp2_with fail
      go_ret
      exact ⟨rfl, HS.out⟩
end Go.Proofs.YtflmgjidnclegaaDoor.Hpk
