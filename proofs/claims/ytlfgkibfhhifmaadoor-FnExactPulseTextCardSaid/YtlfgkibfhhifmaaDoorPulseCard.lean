/- FnExactPulseText: the tied card. -/
import Derived.Test.YtlfgkibfhhifmaaDoorPulseRow
import Derived.Test.YtlfgkibfhhifmaaDoorCards
import Derived.Test.YtlfgkibfhhifmaaDoorTie
import Derived.SevenTiedAt
namespace Go.Proofs.YtlfgkibfhhifmaaDoor
open Go
theorem fnExactPulseText_card_holds : Rows.FnExactPulseTextCardSaid :=
  Claim7.holds_tied_plain_at .later [] [.data, .data, .data] true (true, "d0ebe83963120d45674e1aa7bdbda292ed1fbff9d7f0285fd59835d5ca0dfab6") true
    pulse_over (fun _ h => by cases h) (by kernel_rfl) (fun _ h => by cases h) fnExactPulseText_row_tie rfl ⟨rfl, rfl⟩ (by kernel_rfl) rfl
    (fun f fn hf hfn => by
      obtain rfl : f = 5 := Option.some.inj ((show Tryd.prog.funcNamed "loop.example/g01403/laws.FnExactPulseText" = some 5 by kernel_rfl).symm.trans hf) |>.symm
      obtain rfl : fn = Tryd.f5 := (Option.some.inj (Tryd.func5.symm.trans hfn)).symm
      exact ⟨by kernel_rfl, fun j t ht => by
        rw [Tryd.params5] at ht
        have hm : t ∈ [34] := by simpa using Array.mem_of_getElem? ht
        have hall : ([34].all fun u => !Tryd.prog.wantsStandIn u) = true := by kernel_rfl
        exact (show Tryd.prog.wantsStandIn t = false by simpa using List.all_eq_true.1 hall t hm)⟩)
    (by kernel_rfl)
#print axioms fnExactPulseText_card_holds
end Go.Proofs.YtlfgkibfhhifmaaDoor
