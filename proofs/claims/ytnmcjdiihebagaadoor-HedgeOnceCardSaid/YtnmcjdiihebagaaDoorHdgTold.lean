/-
  The hedge's Failed of a try that runs, its code fine, no throttle: all ways in one.
-/
import Derived.Test.YtnmcjdiihebagaaDoorHdgToldB1
import Derived.Test.YtnmcjdiihebagaaDoorHdgToldB2
import Derived.Test.YtnmcjdiihebagaaDoorHdgToldB3
import Derived.Test.YtnmcjdiihebagaaDoorHdgToldB4
namespace Go.Proofs.YtnmcjdiihebagaaDoor.Hdg
open Go.RowKit
open Pol (intsV IntsAt codeOk)
theorem failed_more (B g : Nat) (T D : Int) (A : Option Addr) (nf cf : Nat) (fine : List Int) (now started : Int) (nx : Bool) (due : Int) (rv : Value) (run : List Int) (ans : Int) (code : Int) (try_ cd push n : Int) (w : World) (h : Blk w g 91 (hcC T D (.slice A nf cf) (.pointer none) now started (nxV g nx) due rv ans false code))
    (hr : w.ownsRow B 3 1 rv run.length (intsV run)) (hB : B ≤ w.heap.size) (hl : run.length ≤ 400) (hm : try_ ∈ run) (hst : 0 ≤ started ∧ started ≤ 5) (hT : T ≤ 5) (hnx : nx = true → started < T) (hD : 0 ≤ D ∧ D ≤ 1000000) (hnow : 0 ≤ now ∧ now ≤ 1125899906842624) (hn : n ≤ 1125899906842624) (hp : push ≤ 1125899906842624)
    (hfl : fine.length = nf) (hf6 : nf ≤ 1000000) (hfx : IntsAt w A fine) (hfd : ∀ ad, A = some ad → ad.block ≠ g ∧ rv.ownBlock ≠ some ad.block) (hcd : cd ∈ fine) (hat : ans ≠ try_) :
    Calls Tryd.prog 25 #[.pointer (some ⟨g, 0, none⟩), .int .i64 try_, .int .i64 cd, .int .i64 push, .int .i64 n] w (ToldPost w B g T D (.slice A nf cf) rv ⟨now, started, nx, due, run, ans, false, code⟩ (max now n)) := by
  by_cases p2 : push = -2
  · exact failed_moreA B g T D A nf cf fine now started nx due rv run ans code try_ cd push n w h hr hB hl hm hst hT hnx hD hnow hn hp hfl hf6 hfx hfd hcd hat p2
  · by_cases p0 : 0 ≤ push
    · exact failed_moreB B g T D A nf cf fine now started nx due rv run ans code try_ cd push n w h hr hB hl hm hst hT hnx hD hnow hn hp hfl hf6 hfx hfd hcd hat ⟨p2, p0⟩
    · cases nx with
      | true => exact failed_moreC B g T D A nf cf fine now started true due rv run ans code try_ cd push n w h hr hB hl hm hst hT hnx hD hnow hn hp hfl hf6 hfx hfd hcd hat ⟨p2, p0, rfl⟩
      | false => exact failed_moreD B g T D A nf cf fine now started false due rv run ans code try_ cd push n w h hr hB hl hm hst hT hnx hD hnow hn hp hfl hf6 hfx hfd hcd hat ⟨p2, p0, rfl⟩
end Go.Proofs.YtnmcjdiihebagaaDoor.Hdg
