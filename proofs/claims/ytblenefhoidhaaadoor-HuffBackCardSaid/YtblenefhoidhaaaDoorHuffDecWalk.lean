/-
  The walk of huff.Decode: what it answers is what decGo says.
-/
import Derived.Test.YtblenefhoidhaaaDoorHuffDec
import Derived.Deep.RegionHeld3
import Derived.StillTailTactics
import Derived.Deep.Cut
import Derived.Laws.BytesArg
namespace Go.Proofs.YtblenefhoidhaaaDoor.Huff
open Go.RowKit Go.Maps

theorem bit_step (code bits y s7 : Nat) (hc : code < 2 ^ bits) (hb : bits < 30) (hy : y < 2 ^ 8) :
    Go.bits .or .u32 (IntKind.u32.wrap ((code : Int) * 2)) (IntKind.u32.wrap (Go.bits .and .u8 ((y : Int) / 2 ^ s7) 1)) = ((code * 2 + y / 2 ^ s7 % 2 : Nat) : Int) := by
  have hp : 2 ^ bits ≤ 536870912 := Nat.pow_le_pow_right (by decide) (by omega : bits ≤ 29)
  have e1 : (code : Int) * 2 = ((code * 2 : Nat) : Int) := by omega
  have e2 : (y : Int) / 2 ^ s7 = ((y / 2 ^ s7 : Nat) : Int) := by simp
  have hle : y / 2 ^ s7 ≤ y := Nat.div_le_self _ _
  have e3 : Go.bits .and .u8 ((y / 2 ^ s7 : Nat) : Int) 1 = ((y / 2 ^ s7 % 2 : Nat) : Int) := by
    have := u8_and_nat (y / 2 ^ s7) 1 (by omega) (by decide)
    rw [Nat.and_one_is_mod] at this
    exact this
  have hm : y / 2 ^ s7 % 2 < 2 := Nat.mod_lt _ (by decide)
  rw [e1, e2, e3, IntKind.wrap_u32', IntKind.wrap_u32']
  rw [show ((code * 2 : Nat) : Int) % 4294967296 = ((code * 2 : Nat) : Int) by omega, show ((y / 2 ^ s7 % 2 : Nat) : Int) % 4294967296 = ((y / 2 ^ s7 % 2 : Nat) : Int) by omega, u32_or_nat _ _ (by omega) (by omega)]
  have := mul_or code 1 (y / 2 ^ s7 % 2) (by omega)
  rw [show (2 : Nat) ^ 1 = 2 from rfl] at this
  rw [this]
theorem bit_step2 (code bits y s7 : Nat) (hc : code < 2 ^ bits) (hb : bits < 30) (hy : y < 2 ^ 8) :
    Go.bits .or .u32 ((code : Int) * 2 % 4294967296) (Go.bits .and .u8 ((y : Int) / 2 ^ s7) 1 % 4294967296) = ((code * 2 + y / 2 ^ s7 % 2 : Nat) : Int) := by
  have := bit_step code bits y s7 hc hb hy
  rwa [IntKind.wrap_u32', IntKind.wrap_u32'] at this
/-- a slice of bytes that lies below the heap's end -/
def BytesAt (w : World) (A : Option Addr) (xs : List UInt8) : Prop :=
  ∀ i, i < xs.length → ∃ b off, A = some ⟨b, off, none⟩ ∧ b < w.heap.size ∧ w.cell? ⟨b, off + i, none⟩ = some (.int .u8 ((xs.getD i 0).toNat : Nat))
theorem BytesAt.below {w w' : World} {A : Option Addr} {xs : List UInt8} (h : BytesAt w A xs) (hb : Below w.heap.size w w') : BytesAt w' A xs := by
  intro i hi
  obtain ⟨b, off, hA, hlt, hc⟩ := h i hi
  exact ⟨b, off, hA, Nat.lt_of_lt_of_le hlt hb.size, (hb.cell (p := ⟨b, off + i, none⟩) hlt).trans hc⟩

/-- what Decode answers -/
def DecPost (W : World) (xs : List UInt8) (v : Value) (e : Ending) (w' : World) : Prop :=
  Below W.heap.size W w' ∧ e = .returned (match dec xs with | some out => .tuple #[.string ⟨out.toArray⟩, .nilIface] | none => .tuple #[.string ⟨#[]⟩, v])

/-- the frame behind the loop: what is written later stands behind letters -/
def frame (f : Nat → Value) (arg m out pt i : Value) : Act := ⟨#[arg, f 1, (.string ⟨#[]⟩), .nilIface, m, f 5, f 6, f 7, f 8, out, pt, i, f 12, f 13, f 14, f 15, f 16, f 17, f 18, f 19, f 20, f 21, f 22, f 23, f 24, f 25, f 26, f 27, f 28, f 29, f 30, f 31, f 32, f 33, f 34, f 35, f 36, f 37, f 38, f 39, f 40, f 41, f 42, f 43, f 44, f 45, f 46, f 47, f 48, f 49, f 50, f 51, f 52, f 53, f 54, f 55, f 56, f 57, f 58, f 59, f 60, f 61, f 62, f 63, f 64, f 65, f 66, f 67, f 68, f 69, f 70, f 71, f 72, f 73, f 74, f 75, f 76, f 77, f 78, f 79, f 80, f 81, f 82, f 83, f 84, f 85, f 86, f 87, f 88, f 89], []⟩

noncomputable def scopeCode : Code := match Tryd.f18.body with
  | some (.seq _ (.scope c)) => c
  | _ => .skip
noncomputable def restCode (l : Nat) : Code := (findLabel scopeCode l).getD .skip
noncomputable def bitCode : Code := match restCode 1 with
  | .seq _ c => c
  | _ => .skip
theorem rest_bit : restCode 1 = .seq .skip bitCode := by kernel_rfl
theorem rest_found0 : findLabel scopeCode 0 = some (restCode 0) := by kernel_rfl
theorem rest_found1 : findLabel scopeCode 1 = some (restCode 1) := by kernel_rfl
theorem rest_found2 : findLabel scopeCode 2 = some (restCode 2) := by kernel_rfl

/-- what holds at the label 'bit' -/
structure AtBit (W : World) (xs : List UInt8) (A : Option Addr) (cap : Nat) (v : Value) (M T : Nat) (w : World) (r code bits : Nat) (out : List UInt8) (ov : Value) : Prop where
  hr : r ≤ 8 * xs.length
  hdec : Hid (decGo xs r code bits out = dec xs)
  hcode : code < 2 ^ bits
  hbits : bits < 30
  hout : out.length * 5 + bits + r ≤ 8 * xs.length
  hown : w.ownsRow W.heap.size 5 1 ov out.length (bytesV out)
  hT : Blk w T 51 #[.int .u32 (code : Int), .int .i64 (bits : Int)]
  hTW : W.heap.size ≤ T
  hM : w.ownsMap Tryd.prog 51 (plainElem (H := Unit) Tryd.prog 3) M 257 (knownD 257)
  hMW : W.heap.size ≤ M
  hB : Below W.heap.size W w

def J (W : World) (xs : List UInt8) (A : Option Addr) (cap : Nat) (v : Value) (M T : Nat) (l : Nat) (a : Act) (w : World) : Prop :=
  match l with
  | 1 => ∃ f r code bits out ov, a = frame f (.slice A xs.length cap) (.map (some M)) ov (.pointer (some ⟨T, 0, none⟩)) (.int .i64 ((8 * xs.length - r : Nat) : Int)) ∧ AtBit W xs A cap v M T w r code bits out ov
  | 2 => ∃ f out i, a = frame f (.slice A xs.length cap) (.map (some M)) out (.pointer (some ⟨T, 0, none⟩)) i ∧ Below W.heap.size W w ∧ dec xs = none
  | 0 => ∃ f code bits out ov i, a = frame f (.slice A xs.length cap) (.map (some M)) ov (.pointer (some ⟨T, 0, none⟩)) i ∧ AtBit W xs A cap v M T w 0 code bits out ov
  | _ => False
def mu (len : Nat) (l : Nat) (a : Act) (_ : World) : Nat :=
  match l with
  | 1 => 8 * len + 3 - (intOf (a.tmps.getD 11 undef)).toNat
  | 2 => 0
  | _ => 1

section
variable {W : World} {xs : List UInt8} {A : Option Addr} {cap : Nat} {v : Value} {M T : Nat} {a : Act} {w : World}
theorem J2_intro (h : a = frame (fun k => a.tmps.getD k undef) (.slice A xs.length cap) (.map (some M)) (a.tmps.getD 9 undef) (.pointer (some ⟨T, 0, none⟩)) (a.tmps.getD 11 undef))
    (hb : Below W.heap.size W w) (hd : dec xs = none) : J W xs A cap v M T 2 a w := ⟨_, _, _, h, hb, hd⟩
theorem J1_intro {r code bits : Nat} {out : List UInt8} {ov : Value} (h : a = frame (fun k => a.tmps.getD k undef) (.slice A xs.length cap) (.map (some M)) ov (.pointer (some ⟨T, 0, none⟩)) (.int .i64 ((8 * xs.length - r : Nat) : Int)))
    (hb : AtBit W xs A cap v M T w r code bits out ov) : J W xs A cap v M T 1 a w := ⟨_, _, _, _, _, _, h, hb⟩
theorem J0_intro {code bits : Nat} {out : List UInt8} {ov i : Value} (h : a = frame (fun k => a.tmps.getD k undef) (.slice A xs.length cap) (.map (some M)) ov (.pointer (some ⟨T, 0, none⟩)) i)
    (hb : AtBit W xs A cap v M T w 0 code bits out ov) : J W xs A cap v M T 0 a w := ⟨_, _, _, _, _, _, h, hb⟩
end
/-- what the code behind the label may count on -/
structure Outs (W : World) (xs : List UInt8) (A : Option Addr) (cap : Nat) (v : Value) (M T : Nat) (r : Nat) (Q : Exit → Act → World → Prop) : Prop where
  h0 : ∀ a w', J W xs A cap v M T 0 a w' → Q (.goto 0) a w'
  h1 : ∀ a w' r' code bits out ov, a = frame (fun k => a.tmps.getD k undef) (.slice A xs.length cap) (.map (some M)) ov (.pointer (some ⟨T, 0, none⟩)) (.int .i64 ((8 * xs.length - r' : Nat) : Int)) →
    AtBit W xs A cap v M T w' r' code bits out ov → r' + 1 = r → Q (.goto 1) a w'
  h2 : ∀ a w', J W xs A cap v M T 2 a w' → Q (.goto 2) a w'
  hret : ∀ a w', a.tmps.getD 2 undef = .string ⟨#[]⟩ → a.tmps.getD 3 undef = v → a.defers = [] → Below W.heap.size W w' → dec xs = none → Q .ret a w'
theorem own_map_ne {w : World} {base : Nat} {e : TypeId} {size n : Nat} {v : Value} {xs : List Value} {P : Program} {k : TypeId} {R : Value → Option (DataW Unit × List MemPlace)} {b m : Nat} {D : DataW Unit} (h : w.ownsRow base e size v n xs)
    (hM : w.ownsMap P k R b m D) : v.ownBlock ≠ some b := by
  obtain ⟨es, clock, hblk, _⟩ := hM
  rcases h.2 with ⟨rfl, _⟩ | ⟨g', cap, cur, rfl, _, hh, _⟩
  · simp [Value.ownBlock]
  · intro he
    have : g' = b := by simpa [Value.ownBlock] using he
    subst this
    rw [hh] at hblk
    cases hblk
theorem atKey_int {D : DataW Unit} {k : Lit} {z : DataW Unit} {s c : Int} (h : D.atKey k z = .lit (.int .i64 s)) (h' : D.atKey k z = .lit (.int .i64 c)) : c = s := by
  rw [h] at h'
  injection h' with h'
  injection h' with _ h'
  exact h'.symm
theorem zero_int (w : World) : (zeroValue 3).run Tryd.prog w = .ok (.int .i64 0) w := by kernel_rfl
set_option maxRecDepth 100000 in
set_option maxHeartbeats 1000000 in
theorem pass_bit (W : World) (xs : List UInt8) (A : Option Addr) (cap : Nat) (v : Value) (M T : Nat) (hlen : xs.length ≤ 34359738368) (hx : BytesAt W A xs) (hv : W.cell? ⟨0, 0, none⟩ = some v) (hg : 0 < W.heap.size)
    (f : Nat → Value) (r code bits : Nat) (out : List UInt8) (ov : Value) (w : World) (h : AtBit W xs A cap v M T w r code bits out ov) (Q : Exit → Act → World → Prop) (hQ : Outs W xs A cap v M T r Q) :
    bitCode.wp Tryd.prog Q (frame f (.slice A xs.length cap) (.map (some M)) ov (.pointer (some ⟨T, 0, none⟩)) (.int .i64 ((8 * xs.length - r : Nat) : Int))) w := by
  conv => arg 2; whnf
  unfold frame
  by_cases hr : r = 0
  · subst hr
    have htest : (((8 * xs.length - 0 : Nat) : Int) == 8 * (xs.length : Int)) = true := beq_iff_eq.2 (by omega)
    generalize hi : 8 * xs.length - 0 = i at *
    clear hi
    go_wp2_with fail
    go_step3
    exact hQ.h0 _ _ (J0_intro rfl h)
  · obtain ⟨r', rfl⟩ : ∃ r', r = r' + 1 := ⟨r - 1, by omega⟩
    have hi1 := h.hr
    obtain ⟨i, hi⟩ : ∃ i, i = 8 * xs.length - (r' + 1) := ⟨_, rfl⟩
    rw [← hi]
    have htest : ((i : Int) == 8 * (xs.length : Int)) = false := beq_eq_false_iff_ne.2 (by omega)
    have Hi := Lib.hid hi
    clear hi
    have hil : (i : Int) < 8 * (xs.length : Int) := by have := Hi.out; omega
    obtain ⟨q, hq⟩ : ∃ q, q = i / 8 := ⟨_, rfl⟩
    obtain ⟨s7, hs7⟩ : ∃ s7, s7 = 7 - i % 8 := ⟨_, rfl⟩
    obtain ⟨m8, hm8⟩ : ∃ m8, m8 = i % 8 := ⟨_, rfl⟩
    have w1 : IntKind.i64.wrap ((i : Int).tdiv 8) = (q : Int) := by rw [Int.tdiv_eq_ediv_of_nonneg (by omega), IntWalk.i64_in _ (by omega)]; omega
    have w2 : IntKind.i64.wrap ((i : Int).tmod 8) = (m8 : Int) := by rw [Int.tmod_eq_emod_of_nonneg (by omega), IntWalk.i64_in _ (by omega)]; omega
    have w2' : (i : Int).tmod 8 = (m8 : Int) := by rw [Int.tmod_eq_emod_of_nonneg (by omega)]; omega
    have w3 : IntKind.i64.wrap (7 - (m8 : Int)) = (s7 : Int) := by rw [IntWalk.i64_in _ (by omega)]; omega
    have w1' : IntKind.i64.wrap ((i : Int) / 8) = (q : Int) := by rw [IntWalk.i64_in _ (by omega)]; omega
    have w2'' : IntKind.i64.wrap ((i : Int) % 8) = (m8 : Int) := by rw [IntWalk.i64_in _ (by omega)]; omega
    have hbit : bitAt xs i = (xs.getD q 0).toNat / 2 ^ s7 % 2 := by rw [hq, hs7]; rfl
    have hq0 : (0 : Int) ≤ (q : Int) := by omega
    have hq1 : (q : Int) < (xs.length : Int) := by omega
    have Hq := Lib.hid hq
    have Hs7 := Lib.hid hs7
    have Hbit := Lib.hid hbit
    have hs7' : s7 ≤ 7 := by omega
    clear hbit hq hs7 hm8
    obtain ⟨b, off, rfl, hb, hc⟩ := hx q (by omega)
    have hcw := (h.hB.cell (p := ⟨b, off + q, none⟩) hb).trans hc
    have hy := (xs.getD q 0).toNat_lt
    generalize (xs.getD q 0).toNat = y at *
    have hcode : w.cell? ⟨T, 0, none⟩ = some (.int .u32 (code : Int)) := h.hT.cell 0
    have hbits : w.cell? ⟨T, 1, none⟩ = some (.int .i64 (bits : Int)) := h.hT.cell 1
    have hfr0 := h.hT.frozen 0
    have hfr1 := h.hT.frozen 1
    have hbl := h.hbits
    have w5 : IntKind.i64.wrap ((bits : Int) + 1) = (bits : Int) + 1 := by rw [IntWalk.i64_in _ (by omega)]
    go_wp2_with fail
    have hown0 := h.hown
    have hM0 := h.hM
    have hT0 := h.hT
    have hB0 := h.hB
    have hcode0 := h.hcode
    have hTW := h.hTW
    have hMW := h.hMW
    have hout := h.hout
    have Hdec := h.hdec
    have hTM : T ≠ M := by
      intro e
      subst e
      obtain ⟨es, clock, hblk, _⟩ := hM0
      unfold Blk at hT0
      rw [hT0] at hblk
      cases hblk
    clear h
    go_still_tail 19, (by kernel_rfl)
    change wpList _ _ _ _ _ w.drew
    go_upto_region 14 with (fail)
    rw [bit_step code bits y s7 hcode0 hbl hy, bit_step2 code bits y s7 hcode0 hbl hy]
    have hc2 : code * 2 + y / 2 ^ s7 % 2 < 2 ^ (bits + 1) := by
      have : y / 2 ^ s7 % 2 < 2 := Nat.mod_lt _ (by decide)
      rw [Nat.pow_succ]; omega
    have hstep : decGo xs (r' + 1) code bits out = match findSym (code * 2 + y / 2 ^ s7 % 2) (bits + 1) with
      | some s => if s = 256 then none else decGo xs r' 0 0 (out ++ [UInt8.ofNat s])
      | none => if bits + 1 < 30 then decGo xs r' (code * 2 + y / 2 ^ s7 % 2) (bits + 1) out else none := by
      rw [← Hbit.out, Hi.out]; rfl
    generalize code * 2 + y / 2 ^ s7 % 2 = code' at *
    have hT1 : Blk ((w.setCell ⟨T, 0, none⟩ (.int .u32 (code' : Int))).setCell ⟨T, 1, none⟩ (.int .i64 ((bits : Int) + 1))).drew T 51 #[.int .u32 (code' : Int), .int .i64 ((bits : Int) + 1)] :=
      ((hT0.set_ 0 (.int .u32 (code' : Int))).set_ 1 (.int .i64 ((bits : Int) + 1))).drew
    have hg1 : w.grownBy ((w.setCell ⟨T, 0, none⟩ (.int .u32 (code' : Int))).setCell ⟨T, 1, none⟩ (.int .i64 ((bits : Int) + 1))).drew (some T) :=
      only_drew (only_setCell (only_setCell (World.grownBy.refl w _) (p := ⟨T, 0, none⟩) (.inl rfl) _) (p := ⟨T, 1, none⟩) (.inl rfl) _)
    have hM1 := hM0.kept hg1 (by simpa using Ne.symm hTM)
    have hO1 := hown0.kept hg1 (.inr (fun e => own_blk_ne hown0 hT0 (by decide) e))
    have hB1 : Below W.heap.size W ((w.setCell ⟨T, 0, none⟩ (.int .u32 (code' : Int))).setCell ⟨T, 1, none⟩ (.int .i64 ((bits : Int) + 1))).drew :=
      ((hB0.setCell (p := ⟨T, 0, none⟩) hTW _).setCell (p := ⟨T, 1, none⟩) hTW _).drew
    have hc32 : code' < 4294967296 := Nat.lt_of_lt_of_le hc2 (Nat.le_trans (Nat.pow_le_pow_right (by decide) (by omega : bits + 1 ≤ 30)) (by decide))
    generalize ((w.setCell ⟨T, 0, none⟩ (.int .u32 (code' : Int))).setCell ⟨T, 1, none⟩ (.int .i64 ((bits : Int) + 1))).drew = w9 at *
    have hcell0 : w9.cell? ⟨T, 0, none⟩ = some (.int .u32 (code' : Int)) := hT1.cell 0
    have hcell1 : w9.cell? ⟨T, 1, none⟩ = some (.int .i64 ((bits : Int) + 1)) := hT1.cell 1
    have hfz0 := hT1.frozen 0
    have hfz1 := hT1.frozen 1
    clear hcw hc hcode hbits hfr0 hfr1 hown0 hM0 hT0 hB0 hg1 hx w1 w1' w2 w2' w2'' w3 w5 hq0 hq1
    cases hfind : findSym code' (bits + 1) with
    | some sy =>
      obtain ⟨hs1, hs2, hs3⟩ := find_some hfind
      obtain ⟨hk1, hk2⟩ := known_some sy hs1 257 (Nat.le_refl _) hs1
      rw [hs2, hs3] at hk1 hk2
      rw [hfind] at hstep
      have Hk2 := Lib.hid hk2
      have Hs := Lib.hid hstep
      have hkw : keyOf Tryd.prog 51 (.agg #[.int .u32 (code' : Int), .int .i64 ((bits : Int) + 1)]) = some (kl code' (bits + 1)) := keyOf_word code' (bits + 1) hc32 (by omega)
      have Hkey := Lib.hid hkw
      clear hkw
      clear hfind hstep hk2 hs2
      have hs3' := Lib.hid hs3
      clear hs3
      by_cases h256 : sy = 256
      · subst h256
        have hnone : dec xs = none := by rw [← Hdec.out, Hs.out]; rfl
        have HN := Lib.hid hnone
        have ht256 : (((256 : Nat) : Int) == 256) = true := by decide
        clear hnone
        go_wp2_with (first | (at_lookup; go_loud (refine wpList_lookup_own_ok_int _ rfl _ _ 49 rfl 51 3 .i64 law Tryd.underlying49 Tryd.underlying3 (zero_int _) M 257 (knownD 257) rfl hM1 _ _ rfl Hkey.out ?_); intro cc hat hwc; rw [hk1]; obtain rfl := atKey_int (Hk2.out _) hat; clear hat hwc))
        go_step3
        show Q (.goto 2) _ _
        refine hQ.h2 _ _ (J2_intro rfl hB1 HN.out)
      · have ht256 : ((sy : Int) == 256) = false := beq_eq_false_iff_ne.2 (by omega)
        have hsy : sy < 256 := by omega
        have hs5 := (bits_ok hs1).1
        have hn1 : out.length + 1 ≤ 140737488355328 := by omega
        have Hne := Lib.hid h256
        clear h256
        go_wp2_with (first
          | (at_lookup; go_loud (refine wpList_lookup_own_ok_int _ rfl _ _ 49 rfl 51 3 .i64 law Tryd.underlying49 Tryd.underlying3 (zero_int _) M 257 (knownD 257) rfl hM1 _ _ rfl Hkey.out ?_); intro cc hat hwc; rw [hk1]; obtain rfl := atKey_int (Hk2.out _) hat; clear hat hwc)
          | (at_builtin; refine append_byte _ _ rfl _ _ rfl _ _ _ _ rfl hO1 _ rfl hn1 hB1.size ?_; intro v1 w2 hO2 hg2; have hT2 := (hT1.alloc (.cells #[.int .u8 _] 5)).grown hg2 (Ne.symm (own_blk_ne hO1 hT1 (by decide))); have k0 : w2.cell? ⟨T, 0, none⟩ = some (.int .u32 (code' : Int)) := hT2.cell 0; have k1 : w2.cell? ⟨T, 1, none⟩ = some (.int .i64 ((bits : Int) + 1)) := hT2.cell 1; have z0 := hT2.frozen 0; have z1 := hT2.frozen 1))
        go_step3
        have e11 : Value.int .i64 ((i : Int) + 1) = .int .i64 ((8 * xs.length - r' : Nat) : Int) := by
          have := Hi.out
          congr 1
          omega
        rw [e11]
        show Q (.goto 1) _ _
        have hU : (UInt8.ofNat sy).toNat = sy := UInt8.toNat_ofNat_of_lt' hsy
        have hO3 : w2.ownsRow W.heap.size 5 1 v1 (out ++ [UInt8.ofNat sy]).length (bytesV (out ++ [UInt8.ofNat sy])) := by
          rw [bytesV_append, List.length_append]
          have : bytesV [UInt8.ofNat sy] = [.int .u8 (sy : Int)] := by simp [bytesV, hU]
          rw [this]
          exact hO2
        have hg3 : w2.grownBy ((w2.setCell ⟨T, 0, none⟩ (.int .u32 0)).setCell ⟨T, 1, none⟩ (.int .i64 0)) (some T) :=
          only_setCell (only_setCell (World.grownBy.refl w2 _) (p := ⟨T, 0, none⟩) (.inl rfl) _) (p := ⟨T, 1, none⟩) (.inl rfl) _
        have hM2 := ((hM1.alloc (.cells #[.int .u8 (sy : Int)] 5)).kept hg2 (by
          intro e
          have := own_map_ne hO1 hM1
          exact this e.symm)).kept hg3 (by simpa using Ne.symm hTM)
        have hB2 := ((hB1.alloc hB1.size (.cells #[.int .u8 (sy : Int)] 5)).grown hg2 (by have := hB1.size; simp; omega) (own_ge hO1))
        refine hQ.h1 _ _ r' 0 0 (out ++ [UInt8.ofNat sy]) v1 rfl ⟨by omega, ?_, by simp, by omega, ?_, ?_, ?_, hTW, hM2, hMW, ?_⟩ rfl
        · have h1 := Hs.out.symm.trans Hdec.out
          have h3 : (if sy = 256 then none else decGo xs r' 0 0 (out ++ [UInt8.ofNat sy])) = dec xs := h1
          rw [if_neg Hne.out] at h3
          exact h3
        · have := hs3'.out; rw [List.length_append]; simp; omega
        · exact hO3.kept hg3 (.inr (fun e => own_blk_ne hO3 hT2 (by decide) e))
        · exact (hT2.set_ 0 (.int .u32 0)).set_ 1 (.int .i64 0)
        · exact (hB2.setCell (p := ⟨T, 0, none⟩) hTW _).setCell (p := ⟨T, 1, none⟩) hTW _
    | none =>
      rw [hfind] at hstep
      have hk1 := known_none (c := code') (n := bits + 1) hc32 (by omega) 257 (Nat.le_refl _) (find_none hfind)
      have Hs := Lib.hid hstep
      have hkw : keyOf Tryd.prog 51 (.agg #[.int .u32 (code' : Int), .int .i64 ((bits : Int) + 1)]) = some (kl code' (bits + 1)) := keyOf_word code' (bits + 1) hc32 (by omega)
      have Hkey := Lib.hid hkw
      clear hkw hfind hstep
      by_cases h30 : bits + 1 < 30
      · go_wp2_with (first
          | (at_lookup; go_loud (refine wpList_lookup_own_ok_int _ rfl _ _ 49 rfl 51 3 .i64 law Tryd.underlying49 Tryd.underlying3 (zero_int _) M 257 (knownD 257) rfl hM1 _ _ rfl Hkey.out ?_); intro cc hat hwc; rw [hk1]; clear hat hwc))
        go_step3
        have e11 : Value.int .i64 ((i : Int) + 1) = .int .i64 ((8 * xs.length - r' : Nat) : Int) := by
          have := Hi.out
          congr 1
          omega
        rw [e11]
        show Q (.goto 1) _ _
        refine hQ.h1 _ _ r' code' (bits + 1) out ov rfl ⟨by omega, ?_, hc2, h30, by omega, hO1, hT1, hTW, hM1, hMW, hB1⟩ rfl
        have h1 := Hs.out.symm.trans Hdec.out
        have h3 : (if bits + 1 < 30 then decGo xs r' code' (bits + 1) out else none) = dec xs := h1
        rw [if_pos h30] at h3
        exact h3
      · have hnone : dec xs = none := by
          have h1 := Hs.out.symm.trans Hdec.out
          have h3 : (if bits + 1 < 30 then decGo xs r' code' (bits + 1) out else none) = dec xs := h1
          rw [if_neg h30] at h3
          exact h3.symm
        have HN := Lib.hid hnone
        clear hnone
        have hvw := (hB1.cell (p := ⟨0, 0, none⟩) hg).trans hv
        go_wp2_with (first
          | (at_lookup; go_loud (refine wpList_lookup_own_ok_int _ rfl _ _ 49 rfl 51 3 .i64 law Tryd.underlying49 Tryd.underlying3 (zero_int _) M 257 (knownD 257) rfl hM1 _ _ rfl Hkey.out ?_); intro cc hat hwc; rw [hk1]; clear hat hwc))
        go_step3
        go_wp2_with fail
        go_quiet (fail)
        go_wp2_with fail
        exact hQ.hret _ _ rfl rfl rfl (below_drewN hB1 _) HN.out

set_option maxRecDepth 100000 in
set_option maxHeartbeats 1000000 in
theorem pass_none (W : World) (xs : List UInt8) (A : Option Addr) (cap : Nat) (v : Value) (M T : Nat) (hv : W.cell? ⟨0, 0, none⟩ = some v) (hg : 0 < W.heap.size)
    (f : Nat → Value) (ov i : Value) (w : World) (hB : Below W.heap.size W w) (Q : Exit → Act → World → Prop)
    (hret : ∀ a w', a.tmps.getD 2 undef = .string ⟨#[]⟩ → a.tmps.getD 3 undef = v → a.defers = [] → Below W.heap.size W w' → Q .ret a w') :
    (restCode 2).wp Tryd.prog Q (frame f (.slice A xs.length cap) (.map (some M)) ov (.pointer (some ⟨T, 0, none⟩)) i) w := by
  conv => arg 2; whnf
  unfold frame
  have hvw := (hB.cell (p := ⟨0, 0, none⟩) hg).trans hv
  go_wp2_with fail
  go_quiet (fail)
  go_wp2_with fail
  exact hret _ _ rfl rfl rfl (below_drewN hB _)

theorem pow_mod (bits : Nat) (h : bits < 8) : ((2 : Int) ^ bits - 1) % 4294967296 = ((2 ^ bits - 1 : Nat) : Int) := by
  have hp : 2 ^ bits ≤ 2 ^ 7 := Nat.pow_le_pow_right (by decide) (by omega)
  have h1 : 1 ≤ 2 ^ bits := Nat.one_le_two_pow
  have e2 : ((2 : Int) ^ bits) = ((2 ^ bits : Nat) : Int) := by simp
  rw [e2]
  omega
theorem conv_own {w : World} {base : Nat} {ov : Value} {out : List UInt8} (h : w.ownsRow base 5 1 ov out.length (bytesV out)) (nq : Nat) :
    (convert 32 9 ov).run Tryd.prog (w.drewN nq) = .ok (.string ⟨out.toArray⟩) (w.drewN nq) := by
  rcases h.2 with ⟨rfl, h0⟩ | ⟨g, cap, cur, rfl, _, _⟩
  · have : out = [] := List.eq_nil_of_length_eq_zero h0
    subst this
    exact run_convert_bytes_nil _ _ _ Tryd.underlying32 Tryd.underlying5 0 0 _ Tryd.underlying9
  · have := run_convert_bytes_arg (P := Tryd.prog) (w.drewN nq) 32 5 Tryd.underlying32 Tryd.underlying5 g 0 out.length cap (out.map fun c => (c.toNat : Int)) (by simp) (fun i hi => by
      have hc := h.cellAt i (by omega)
      rw [Nat.zero_add]
      refine Eq.trans (b := w.cell? ⟨g, i, none⟩) rfl ?_
      rw [hc]
      simp [bytesV, List.getElem?_eq_getElem hi, List.getD]) 9 Tryd.underlying9
    rw [this]
    congr 3
    simp only [strOfNums, List.map_map]
    congr 1
    have : ((fun n : Int => UInt8.ofNat n.toNat) ∘ fun c : UInt8 => (c.toNat : Int)) = id := by
      funext c
      simp
    rw [this, List.map_id]
theorem shl_one (bits : Nat) (h : bits < 8) : IntKind.u32.wrap (IntKind.u32.wrap ((2 : Int) ^ min bits 32) - 1) = ((2 ^ bits - 1 : Nat) : Int) := by
  have hp : 2 ^ bits ≤ 2 ^ 7 := Nat.pow_le_pow_right (by decide) (by omega)
  have h1 : 1 ≤ 2 ^ bits := Nat.one_le_two_pow
  have e : min bits 32 = bits := by omega
  have e2 : ((2 : Int) ^ bits) = ((2 ^ bits : Nat) : Int) := by simp
  rw [e, e2, IntKind.wrap_u32', IntKind.wrap_u32']
  omega

set_option maxRecDepth 100000 in
set_option maxHeartbeats 1000000 in
theorem pass_rest (W : World) (xs : List UInt8) (A : Option Addr) (cap : Nat) (v : Value) (M T : Nat) (hlen : xs.length ≤ 34359738368)
    (f : Nat → Value) (code bits : Nat) (out : List UInt8) (ov i : Value) (w : World) (h : AtBit W xs A cap v M T w 0 code bits out ov) (Q : Exit → Act → World → Prop)
    (h2 : ∀ a w', J W xs A cap v M T 2 a w' → Q (.goto 2) a w')
    (hret : ∀ a w', a.tmps.getD 2 undef = .string ⟨out.toArray⟩ → a.tmps.getD 3 undef = .nilIface → a.defers = [] → Below W.heap.size W w' → dec xs = some out → Q .ret a w') :
    (restCode 0).wp Tryd.prog Q (frame f (.slice A xs.length cap) (.map (some M)) ov (.pointer (some ⟨T, 0, none⟩)) i) w := by
  conv => arg 2; whnf
  unfold frame
  have hcode : w.cell? ⟨T, 0, none⟩ = some (.int .u32 (code : Int)) := h.hT.cell 0
  have hbits : w.cell? ⟨T, 1, none⟩ = some (.int .i64 (bits : Int)) := h.hT.cell 1
  have hB := h.hB
  have hown := h.hown
  have hdec : (if 8 ≤ bits ∨ code ≠ 2 ^ bits - 1 then none else some out) = dec xs := h.hdec.out
  have Hcl := Lib.hid h.hcode
  have hol : out.length ≤ 281474976710656 := by have := h.hout; omega
  clear h
  by_cases h8 : 8 ≤ bits
  · rw [if_pos (.inl h8)] at hdec
    have HN := Lib.hid hdec.symm
    clear hdec
    have ht : decide ((8 : Int) ≤ (bits : Int)) = true := by simp; omega
    go_wp2_with fail
    go_quiet (fail)
    go_wp2_with fail
    go_step3
    refine h2 _ _ (J2_intro rfl (below_drewN hB _) HN.out)
  · have ht : decide ((8 : Int) ≤ (bits : Int)) = false := by simp; omega
    have hsh := shl_one bits (by omega)
    by_cases hc : code = 2 ^ bits - 1
    · rw [if_neg (by omega)] at hdec
      have HS := Lib.hid hdec.symm
      clear hdec
      have ht2 : ((code : Int) != ((2 : Int) ^ bits - 1) % 4294967296) = false := by
        rw [bne_eq_false_iff_eq, pow_mod bits (by omega), hc]
      have hconv := fun nq => conv_own hown nq
      have Hc := Lib.hid hc
      clear hc hsh
      go_wp2_with fail
      go_quiet (fail)
      go_wp2_with fail
      exact hret _ _ rfl rfl rfl (below_drewN hB _) HS.out
    · rw [if_pos (.inr hc)] at hdec
      have HN := Lib.hid hdec.symm
      clear hdec
      have ht2 : ((code : Int) != ((2 : Int) ^ bits - 1) % 4294967296) = true := by
        rw [bne_iff_ne, pow_mod bits (by omega)]
        omega
      clear hc hsh
      go_wp2_with fail
      go_quiet (fail)
      go_wp2_with fail
      go_step3
      refine h2 _ _ (J2_intro rfl (below_drewN hB _) HN.out)

theorem pass_bit' (W : World) (xs : List UInt8) (A : Option Addr) (cap : Nat) (v : Value) (M T : Nat) (hlen : xs.length ≤ 34359738368) (hx : BytesAt W A xs) (hv : W.cell? ⟨0, 0, none⟩ = some v) (hg : 0 < W.heap.size)
    (r code bits : Nat) (out : List UInt8) (ov iv : Value) (w : World) (h : AtBit W xs A cap v M T w r code bits out ov) (Q : Exit → Act → World → Prop) (hQ : Outs W xs A cap v M T r Q) (a : Act)
    (ha : a = frame (fun k => a.tmps.getD k undef) (.slice A xs.length cap) (.map (some M)) ov (.pointer (some ⟨T, 0, none⟩)) iv) (hi : iv = .int .i64 ((8 * xs.length - r : Nat) : Int)) :
    bitCode.wp Tryd.prog Q a w := by
  rw [ha, hi]
  exact pass_bit W xs A cap v M T hlen hx hv hg _ r code bits out ov w h Q hQ
/-- the key of a round of the map's making -/
theorem keyOf_sym (s : Nat) (hs : s < 257) : keyOf Tryd.prog 51 (.agg #[.int .u32 (codeOf s : Int), .int .i64 (bitsOf s : Int)]) = some (kl (codeOf s) (bitsOf s)) :=
  keyOf_word _ _ (sym_small hs).1 (sym_small hs).2
set_option maxRecDepth 100000 in
set_option maxHeartbeats 1000000 in
theorem decode_any (xs : List UInt8) (A : Option Addr) (cap : Nat) (v : Value) (w : World) (hlen : xs.length ≤ 34359738368) (hx : BytesAt w A xs) (hv : w.cell? ⟨0, 0, none⟩ = some v) (hg : 0 < w.heap.size) :
    Calls Tryd.prog 18 #[.slice A xs.length cap] w (DecPost w xs v) := by
  have hmm := @run_makeMap Tryd.prog
  have HC := fun W : World => Lib.hid (codes_any W)
  have hix := fun (W : World) (n : Nat) (h : n < 257) => index_tab (w := W) codeL n codeL_len h
  have HIx := Lib.hid hix
  clear hix
  go_enter Tryd.func18, Tryd.ntmps18
  go_wp2_with fail
  refine wp_scope_multi (fun l a w' => ∃ T, J w xs A cap v w.heap.size T l a w') (mu xs.length) ?_ ?_
  · have hz51 : ∀ W : World, (zeroValue 51).run Tryd.prog W = .ok (.agg #[.int .u32 0, .int .i64 0]) W := fun _ => by kernel_rfl
    go_wp2_with fail
    refine (HC _).out.mono ?_
    rintro e w1 ⟨rfl, hb1⟩
    have hM0 := (World.ownsMap_made w Tryd.prog 51 (plainElem (H := Unit) Tryd.prog 3)).kept (only_of_below hb1 none) (by simp)
    have hB0 : Below w.heap.size w w1 := ((Below.refl _ _).alloc (Nat.le_refl _) _).trans (hb1.mono (by simp))
    clear hb1 hmm HC
    go_wp2_with fail
    go_loopw [16] (fun i wr => ∃ k : Nat, k ≤ 257 ∧ i = .int .i64 (k : Int) ∧ wr.ownsMap Tryd.prog 51 (plainElem (H := Unit) Tryd.prog 3) w.heap.size k (knownD k) ∧ Below w.heap.size w wr) (fun i _ => 257 - (intOf i).toNat)
    case atStart => exact ⟨0, Nat.zero_le _, rfl, hM0, hB0⟩
    case round =>
      obtain ⟨k, hk, rfl, hM, hB⟩ := hrel
      clear hM0 hB0
      by_cases hlt : k < 257
      · have hxk := fun W => HIx.out W k hlt
        have hcd : codeL.getD k 0 = codeOf k := rfl
        rw [hcd] at hxk
        clear hcd
        have Hkey := Lib.hid (keyOf_sym k hlt)
        have Hsucc := Lib.hid (known_succ k)
        have hkm : k < maxLen := by unfold maxLen; omega
        go_wp2_with (first
          | (go_at_call 9; refine (bits_yes k _ hlt).mono ?_; rintro e w' ⟨rfl, rfl⟩)
          | (at_mapUpdate; refine wpList_mapUpdate_own _ rfl _ _ _ 49 rfl 51 3 law Tryd.underlying49 _ w.heap.size k _ rfl hM hkm _ _ _ rfl rfl Hkey.out _ [] (plainElem_int Tryd.underlying3 (wf_int (n := k) (by omega))) ?_; intro w2 hM2 hg2))
        go_roundw
        case rel => exact ⟨k + 1, by omega, by go_num, by rw [Hsucc.out]; exact hM2, hB.grown hg2 hB.size (fun j hj => by cases hj; exact Nat.le_refl _)⟩
        case measure => simp [intOf]; omega
      · obtain rfl : k = 257 := by omega
        clear HIx
        go_wp2_with fail
        go_step3
        have hat : AtBit w xs A cap v w.heap.size wr.heap.size (wr.alloc (.cells #[.int .u32 0, .int .i64 0] 51)) (8 * xs.length) 0 0 [] (.slice none 0 0) :=
          ⟨Nat.le_refl _, rfl, by decide, by decide, by simp, ⟨rfl, .inl ⟨rfl, rfl⟩⟩, Blk.new _ _ _, hB.size, hM.alloc _, Nat.le_refl _, hB.alloc hB.size _⟩
        go_step
        go_step
        refine pass_bit' w xs A cap v w.heap.size wr.heap.size hlen hx hv hg (8 * xs.length) 0 0 [] (.slice none 0 0) (.int .i64 0) _ hat _ ⟨?_, ?_, ?_, ?_⟩ _ rfl (by simp)
        · intro a2 w2 h2
          exact ⟨_, h2⟩
        · intro a2 w2 r' code' bits' out' ov' ha2 hat2 hr
          exact ⟨_, ⟨_, _, _, _, _, _, ha2, hat2⟩⟩
        · intro a2 w2 h2
          exact ⟨_, h2⟩
        · intro a2 w2 h2 h3 hd hB hdec
          refine bodyPost_ret (results_tmp2 rfl _ _ _) hd ⟨hB, ?_⟩
          rw [hdec, h2, h3]
  · rintro l a w' ⟨T, hJ⟩
    match l, hJ with
    | 0, hJ =>
      obtain ⟨f, code, bits, out, ov, i, rfl, hat⟩ := hJ
      refine ⟨_, rest_found0, pass_rest w xs A cap v _ _ hlen f code bits out ov i w' hat _ ?_ ?_⟩
      · intro a2 w2 h2
        exact ⟨⟨T, h2⟩, by simp [mu]⟩
      · intro a2 w2 h2 h3 hd hB hdec
        refine bodyPost_ret (results_tmp2 rfl _ _ _) hd ⟨hB, ?_⟩
        rw [hdec, h2, h3]
    | 1, hJ =>
      obtain ⟨f, r, code, bits, out, ov, rfl, hat⟩ := hJ
      refine ⟨_, rest_found1, ?_⟩
      rw [rest_bit]
      refine wp_seq (wp_skip (pass_bit w xs A cap v _ _ hlen hx hv hg f r code bits out ov w' hat _ ⟨?_, ?_, ?_, ?_⟩))
      · intro a2 w2 h2
        exact ⟨⟨T, h2⟩, by simp [mu, frame, intOf]; omega⟩
      · intro a2 w2 r' code' bits' out' ov' ha2 hat2 hr
        refine ⟨⟨T, ⟨_, _, _, _, _, _, ha2, hat2⟩⟩, ?_⟩
        have h1 : intOf (a2.tmps.getD 11 undef) = ((8 * xs.length - r' : Nat) : Int) := by rw [ha2]; rfl
        have h3 := hat.hr
        have h4 := hat2.hr
        simp only [mu]
        rw [h1]
        show _ < 8 * xs.length + 3 - (intOf (Value.int .i64 ((8 * xs.length - r : Nat) : Int))).toNat
        simp only [intOf]
        omega
      · intro a2 w2 h2
        exact ⟨⟨T, h2⟩, by simp [mu, frame, intOf]; omega⟩
      · intro a2 w2 h2 h3 hd hB hdec
        refine bodyPost_ret (results_tmp2 rfl _ _ _) hd ⟨hB, ?_⟩
        rw [hdec, h2, h3]
    | 2, hJ =>
      obtain ⟨f, out, i, rfl, hB, hdec⟩ := hJ
      refine ⟨_, rest_found2, pass_none w xs A cap v _ _ hv hg f out i w' hB _ ?_⟩
      intro a2 w2 h2 h3 hd hB2
      refine bodyPost_ret (results_tmp2 rfl _ _ _) hd ⟨hB2, ?_⟩
      rw [hdec, h2, h3]
end Go.Proofs.YtblenefhoidhaaaDoor.Huff
