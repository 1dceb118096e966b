/- BookCounters: the row's tied card. No condition of its own. -/
import Derived.Test.YtbjiioclhgdeeaaGreatDoorMB19
import Derived.Test.YtbjiioclhgdeeaaGreatDoorCards
import Derived.Test.YtbjiioclhgdeeaaGreatDoorTie
import Derived.SevenTiedAt
namespace Go.Proofs.YtbjiioclhgdeeaaGreatDoor.RowBookCounters
open Go.Proofs
theorem cw : Rows.bookCountersRow.wfByText (OpenSpec.ofChange Rows.bookCountersSpec) = true := by kernel_rfl
theorem cm : Tryz.pinned.checked.prog.mainIs = some ((true, "518618951f011b64a2a166f40926d99827e0143f7ee434f359a20c3e2b46ff27").1, (true, "518618951f011b64a2a166f40926d99827e0143f7ee434f359a20c3e2b46ff27").2.toList) := by kernel_rfl
theorem cl : true = Tryz.pinned.checked.prog.looks [] := by kernel_rfl
theorem cg : false = Rows.bookCountersRow.goesBy Tryz.pinned.checked.prog := by kernel_rfl
end Go.Proofs.YtbjiioclhgdeeaaGreatDoor.RowBookCounters
namespace Go.Proofs.YtbjiioclhgdeeaaGreatDoor
theorem bookCounters_card : Rows.BookCountersCardSaid :=
 Claim7.holds_tied_plain_at .later [] [.data, .data, .data, .data, .sentinel, .sentinel, .pinned] true (true, "518618951f011b64a2a166f40926d99827e0143f7ee434f359a20c3e2b46ff27") true
  RowBookCounters.over (fun _ h => by cases h) RowBookCounters.cw (fun _ h => by cases h) bookCounters_row_tie rfl ⟨rfl, rfl⟩ RowBookCounters.cm rfl
  (fun f fn hf hfn => by
   obtain rfl : f = 3 := Option.some.inj ((show Tryz.prog.funcNamed "klaxon/klaxonlaw17.BookCounters" = some 3 by kernel_rfl).symm.trans hf) |>.symm
   obtain rfl : fn = Tryz.f3 := (Option.some.inj (Tryz.func3.symm.trans hfn)).symm
   exact ⟨RowBookCounters.cl, fun j t ht => by
    rw [Tryz.params3] at ht
    have h3 : t = 3 ∨ t = 22 := by
     rcases j with _ | _ | _ | j
     ·left; simpa using ht.symm
     ·right; simpa using ht.symm
     ·right; simpa using ht.symm
     ·simp at ht
    rcases h3 with rfl | rfl
    ·exact (show Tryz.prog.wantsStandIn 3 = false by kernel_rfl)
    ·exact (show Tryz.prog.wantsStandIn 22 = false by kernel_rfl)⟩)
  RowBookCounters.cg
#print axioms bookCounters_card
end Go.Proofs.YtbjiioclhgdeeaaGreatDoor
