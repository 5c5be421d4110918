/- FnExactJournalOf: the tied card. -/
import Derived.Test.YtlfgkibfhhifmaaDoorJourRow
import Derived.Test.YtlfgkibfhhifmaaDoorCards
import Derived.Test.YtlfgkibfhhifmaaDoorTie
import Derived.SevenTiedAt
namespace Go.Proofs.YtlfgkibfhhifmaaDoor
open Go
theorem fnExactJournalOf_card_holds : Rows.FnExactJournalOfCardSaid :=
  Claim7.holds_tied_plain_at .later [] [.data, .data, .data] true (true, "d0ebe83963120d45674e1aa7bdbda292ed1fbff9d7f0285fd59835d5ca0dfab6") true
    journal_over (fun _ h => by cases h) (by kernel_rfl) (fun _ h => by cases h) fnExactJournalOf_row_tie rfl ⟨rfl, rfl⟩ (by kernel_rfl) rfl
    (fun f fn hf hfn => by
      obtain rfl : f = 3 := Option.some.inj ((show Tryd.prog.funcNamed "loop.example/g01403/laws.FnExactJournalOf" = some 3 by kernel_rfl).symm.trans hf) |>.symm
      obtain rfl : fn = Tryd.f3 := (Option.some.inj (Tryd.func3.symm.trans hfn)).symm
      exact ⟨by kernel_rfl, fun j t ht => by
        rw [Tryd.params3] at ht
        have hm : t ∈ [22] := by simpa using Array.mem_of_getElem? ht
        have hall : ([22].all fun u => !Tryd.prog.wantsStandIn u) = true := by kernel_rfl
        exact (show Tryd.prog.wantsStandIn t = false by simpa using List.all_eq_true.1 hall t hm)⟩)
    (by kernel_rfl)
#print axioms fnExactJournalOf_card_holds
end Go.Proofs.YtlfgkibfhhifmaaDoor
