/- The tied card of UtfWrites. -/
import Derived.Test.YtkiigheleoncfaaDoorUtfWrites
import Derived.Test.YtkiigheleoncfaaDoorCards
import Derived.Test.YtkiigheleoncfaaDoorTie
import Derived.SevenTiedAt
namespace Go.Proofs.YtkiigheleoncfaaDoor
open Go
theorem utfWrites_holds : Rows.UtfWritesCardSaid :=
  Claim7.holds_tied_plain_at .later [] [.handle] true (true, "036fd0e44612152ae4021c0c004d661553b7933b21db583081d60d2559cb3915") true
    utfWrites_row (fun _ h => by cases h) (by kernel_rfl) (fun _ h => by cases h) utfWrites_row_tie rfl ⟨rfl, rfl⟩ (by kernel_rfl) rfl
    (fun f fn hf hfn => by
      obtain rfl : f = 3 := Option.some.inj ((show Tryd.prog.funcNamed "rosetta/rosettalaw.UtfWrites" = some 3 by kernel_rfl).symm.trans hf) |>.symm
      obtain rfl : fn = Tryd.f3 := (Option.some.inj (Tryd.func3.symm.trans hfn)).symm
      exact ⟨by kernel_rfl, fun j t ht => by
        rw [Tryd.params3] at ht
        have hm : t ∈ [22, 23] := by simpa using Array.mem_of_getElem? ht
        have hall : ([22, 23].all fun u => !Tryd.prog.wantsStandIn u) = true := by kernel_rfl
        exact (show Tryd.prog.wantsStandIn t = false by simpa using List.all_eq_true.1 hall t hm)⟩)
    (by kernel_rfl)
#print axioms utfWrites_holds
end Go.Proofs.YtkiigheleoncfaaDoor
