/-
  No cell of these rows narrows 'for every input' (looked for: loops, veiled, ifaces, maps, wideKeys, modest, calm, conditions, laid).
  DERIVED. THE GIVEN ROWS OF THIS SEAT. 9 by the template 'for every input the law returns true; each argument reads behind the call as it read before'; 0 by the template 'total and deterministic' (their statements: YtocmciilifenhaaTotals.lean).
  GIVEN WITH THE SEED: the statements are not yours to turn. If you find one false, say at which input.
  Laid BY PROGRAM, IN A SANDBOX (cutbox-rows.mjs): the forced cells as the released guide's own fill.sh prints them over the translation 891d35d14eb94eb1… (all of the seat's roots in one cut). By AI agents, Wed Nov 11 2026. No macro, syntax, notation, axiom, sorry.
-/
import Derived.Test.YtocmciilifenhaaChecked
import GoSem.Claim
import GoSem.ClaimJoined
import GoSem.ClaimMapViews
import Derived.JoinedTies
import Derived.KernelRfl
namespace Go.Proofs.Ytocmciilifenhaa
/- THE CELL 'sum', in the pinned program and in every row, IS THE sha256 OF THE DUMP (.gsa) THAT YtocmciilifenhaaProg.lean LOADS. Nothing in Lean hashes anything: it is a label: what it is worth is what the hold of that sum in a sandbox is worth. -/
noncomputable def Try.pinned : Pinned := { name := "ytocmciilifenhaa", sum := "891d35d14eb94eb1dd4ccafe93d17093589f0cdcfb4591006e48fdd0027684ad", checked := Try.checked }
namespace Rows
def none {H : Type} : Left H := { results := [], args := [] }

/-- 'klaxonlaw22.StreamWants': WHATEVER THE INPUT: true; the input reads as it did. -/
def streamWantsSpec : ChangeSpec := { name := "streamWants", fn := fun _ => fun
  | [d1, d2, d3] => { results := [.lit (.bool true)], args := [d1, d2, d3] }
  | _ => none }
def streamWantsRow : OpenClaim := { program := "ytocmciilifenhaa", sum := "891d35d14eb94eb1dd4ccafe93d17093589f0cdcfb4591006e48fdd0027684ad", func := "klaxon/klaxonlaw22.StreamWants", spec := "streamWants", apart := false }
def StreamWantsSaid : Prop := streamWantsRow.holds Try.pinned (OpenSpec.ofChange streamWantsSpec)

/-- ITS FALSE NEIGHBOUR: 'it returns false'. Refute it at one input. -/
def streamWantsWrong : ChangeSpec := { name := "streamWants", fn := fun _ => fun
  | [d1, d2, d3] => { results := [.lit (.bool false)], args := [d1, d2, d3] }
  | _ => none }
def StreamWantsWrongFalsely : Prop := streamWantsRow.holds Try.pinned (OpenSpec.ofChange streamWantsWrong)

/-- 'klaxonlaw24.BackoffWaits': WHATEVER THE INPUT: true; the input reads as it did. -/
def backoffWaitsSpec : ChangeSpec := { name := "backoffWaits", fn := fun _ => fun
  | [d1, d2, d3] => { results := [.lit (.bool true)], args := [d1, d2, d3] }
  | _ => none }
def backoffWaitsRow : OpenClaim := { program := "ytocmciilifenhaa", sum := "891d35d14eb94eb1dd4ccafe93d17093589f0cdcfb4591006e48fdd0027684ad", func := "klaxon/klaxonlaw24.BackoffWaits", spec := "backoffWaits", apart := false }
def BackoffWaitsSaid : Prop := backoffWaitsRow.holds Try.pinned (OpenSpec.ofChange backoffWaitsSpec)

/-- ITS FALSE NEIGHBOUR: 'it returns false'. Refute it at one input. -/
def backoffWaitsWrong : ChangeSpec := { name := "backoffWaits", fn := fun _ => fun
  | [d1, d2, d3] => { results := [.lit (.bool false)], args := [d1, d2, d3] }
  | _ => none }
def BackoffWaitsWrongFalsely : Prop := backoffWaitsRow.holds Try.pinned (OpenSpec.ofChange backoffWaitsWrong)

/-- 'klaxonlaw24.BackoffBounds': WHATEVER THE INPUT: true; the input reads as it did. -/
def backoffBoundsSpec : ChangeSpec := { name := "backoffBounds", fn := fun _ => fun
  | [d1, d2, d3, d4, d5] => { results := [.lit (.bool true)], args := [d1, d2, d3, d4, d5] }
  | _ => none }
def backoffBoundsRow : OpenClaim := { program := "ytocmciilifenhaa", sum := "891d35d14eb94eb1dd4ccafe93d17093589f0cdcfb4591006e48fdd0027684ad", func := "klaxon/klaxonlaw24.BackoffBounds", spec := "backoffBounds", apart := false }
def BackoffBoundsSaid : Prop := backoffBoundsRow.holds Try.pinned (OpenSpec.ofChange backoffBoundsSpec)

/-- ITS FALSE NEIGHBOUR: 'it returns false'. Refute it at one input. -/
def backoffBoundsWrong : ChangeSpec := { name := "backoffBounds", fn := fun _ => fun
  | [d1, d2, d3, d4, d5] => { results := [.lit (.bool false)], args := [d1, d2, d3, d4, d5] }
  | _ => none }
def BackoffBoundsWrongFalsely : Prop := backoffBoundsRow.holds Try.pinned (OpenSpec.ofChange backoffBoundsWrong)

/-- 'klaxonlaw24.BackoffCap': WHATEVER THE INPUT: true; the input reads as it did. -/
def backoffCapSpec : ChangeSpec := { name := "backoffCap", fn := fun _ => fun
  | [d1, d2] => { results := [.lit (.bool true)], args := [d1, d2] }
  | _ => none }
def backoffCapRow : OpenClaim := { program := "ytocmciilifenhaa", sum := "891d35d14eb94eb1dd4ccafe93d17093589f0cdcfb4591006e48fdd0027684ad", func := "klaxon/klaxonlaw24.BackoffCap", spec := "backoffCap", apart := false }
def BackoffCapSaid : Prop := backoffCapRow.holds Try.pinned (OpenSpec.ofChange backoffCapSpec)

/-- ITS FALSE NEIGHBOUR: 'it returns false'. Refute it at one input. -/
def backoffCapWrong : ChangeSpec := { name := "backoffCap", fn := fun _ => fun
  | [d1, d2] => { results := [.lit (.bool false)], args := [d1, d2] }
  | _ => none }
def BackoffCapWrongFalsely : Prop := backoffCapRow.holds Try.pinned (OpenSpec.ofChange backoffCapWrong)

/-- 'klaxonlaw24.BackoffDoubles': WHATEVER THE INPUT: true; the input reads as it did. -/
def backoffDoublesSpec : ChangeSpec := { name := "backoffDoubles", fn := fun _ => fun
  | [d1, d2] => { results := [.lit (.bool true)], args := [d1, d2] }
  | _ => none }
def backoffDoublesRow : OpenClaim := { program := "ytocmciilifenhaa", sum := "891d35d14eb94eb1dd4ccafe93d17093589f0cdcfb4591006e48fdd0027684ad", func := "klaxon/klaxonlaw24.BackoffDoubles", spec := "backoffDoubles", apart := false }
def BackoffDoublesSaid : Prop := backoffDoublesRow.holds Try.pinned (OpenSpec.ofChange backoffDoublesSpec)

/-- ITS FALSE NEIGHBOUR: 'it returns false'. Refute it at one input. -/
def backoffDoublesWrong : ChangeSpec := { name := "backoffDoubles", fn := fun _ => fun
  | [d1, d2] => { results := [.lit (.bool false)], args := [d1, d2] }
  | _ => none }
def BackoffDoublesWrongFalsely : Prop := backoffDoublesRow.holds Try.pinned (OpenSpec.ofChange backoffDoublesWrong)

/-- 'klaxonlaw24.BackoffDue': WHATEVER THE INPUT: true; the input reads as it did. -/
def backoffDueSpec : ChangeSpec := { name := "backoffDue", fn := fun _ => fun
  | [d1, d2, d3, d4] => { results := [.lit (.bool true)], args := [d1, d2, d3, d4] }
  | _ => none }
def backoffDueRow : OpenClaim := { program := "ytocmciilifenhaa", sum := "891d35d14eb94eb1dd4ccafe93d17093589f0cdcfb4591006e48fdd0027684ad", func := "klaxon/klaxonlaw24.BackoffDue", spec := "backoffDue", apart := false }
def BackoffDueSaid : Prop := backoffDueRow.holds Try.pinned (OpenSpec.ofChange backoffDueSpec)

/-- ITS FALSE NEIGHBOUR: 'it returns false'. Refute it at one input. -/
def backoffDueWrong : ChangeSpec := { name := "backoffDue", fn := fun _ => fun
  | [d1, d2, d3, d4] => { results := [.lit (.bool false)], args := [d1, d2, d3, d4] }
  | _ => none }
def BackoffDueWrongFalsely : Prop := backoffDueRow.holds Try.pinned (OpenSpec.ofChange backoffDueWrong)

/-- 'klaxonlaw25.PushPlays': WHATEVER THE INPUT: true; the input reads as it did. -/
def pushPlaysSpec : ChangeSpec := { name := "pushPlays", fn := fun _ => fun
  | [d1, d2] => { results := [.lit (.bool true)], args := [d1, d2] }
  | _ => none }
def pushPlaysRow : OpenClaim := { program := "ytocmciilifenhaa", sum := "891d35d14eb94eb1dd4ccafe93d17093589f0cdcfb4591006e48fdd0027684ad", func := "klaxon/klaxonlaw25.PushPlays", spec := "pushPlays", apart := false }
def PushPlaysSaid : Prop := pushPlaysRow.holds Try.pinned (OpenSpec.ofChange pushPlaysSpec)

/-- ITS FALSE NEIGHBOUR: 'it returns false'. Refute it at one input. -/
def pushPlaysWrong : ChangeSpec := { name := "pushPlays", fn := fun _ => fun
  | [d1, d2] => { results := [.lit (.bool false)], args := [d1, d2] }
  | _ => none }
def PushPlaysWrongFalsely : Prop := pushPlaysRow.holds Try.pinned (OpenSpec.ofChange pushPlaysWrong)

/-- 'klaxonlaw25.PushOne': WHATEVER THE INPUT: true; the input reads as it did. -/
def pushOneSpec : ChangeSpec := { name := "pushOne", fn := fun _ => fun
  | [d1, d2, d3, d4] => { results := [.lit (.bool true)], args := [d1, d2, d3, d4] }
  | _ => none }
def pushOneRow : OpenClaim := { program := "ytocmciilifenhaa", sum := "891d35d14eb94eb1dd4ccafe93d17093589f0cdcfb4591006e48fdd0027684ad", func := "klaxon/klaxonlaw25.PushOne", spec := "pushOne", apart := false }
def PushOneSaid : Prop := pushOneRow.holds Try.pinned (OpenSpec.ofChange pushOneSpec)

/-- ITS FALSE NEIGHBOUR: 'it returns false'. Refute it at one input. -/
def pushOneWrong : ChangeSpec := { name := "pushOne", fn := fun _ => fun
  | [d1, d2, d3, d4] => { results := [.lit (.bool false)], args := [d1, d2, d3, d4] }
  | _ => none }
def PushOneWrongFalsely : Prop := pushOneRow.holds Try.pinned (OpenSpec.ofChange pushOneWrong)

/-- 'klaxonlaw25.PushVerdicts': WHATEVER THE INPUT: true; the input reads as it did. -/
def pushVerdictsSpec : ChangeSpec := { name := "pushVerdicts", fn := fun _ => fun
  | [d1, d2] => { results := [.lit (.bool true)], args := [d1, d2] }
  | _ => none }
def pushVerdictsRow : OpenClaim := { program := "ytocmciilifenhaa", sum := "891d35d14eb94eb1dd4ccafe93d17093589f0cdcfb4591006e48fdd0027684ad", func := "klaxon/klaxonlaw25.PushVerdicts", spec := "pushVerdicts", inPlace := ["internal/bytealg.IndexByteString"], unfollowed := true, recurses := true, apart := false }
def PushVerdictsSaid : Prop := pushVerdictsRow.holds Try.pinned (OpenSpec.ofChange pushVerdictsSpec)

/-- ITS FALSE NEIGHBOUR: 'it returns false'. Refute it at one input. -/
def pushVerdictsWrong : ChangeSpec := { name := "pushVerdicts", fn := fun _ => fun
  | [d1, d2] => { results := [.lit (.bool false)], args := [d1, d2] }
  | _ => none }
def PushVerdictsWrongFalsely : Prop := pushVerdictsRow.holds Try.pinned (OpenSpec.ofChange pushVerdictsWrong)

/- THE SECOND FORM. 'bulk': how many values and letters a reading holds, each counted each time it is reached (what is shared counts as often as it is met; a slice's spare places count too). A statement '..UptoSaid' is the law's where the arguments, and the package variables that the reading takes, are together of bulk at most 1048576: NARROWER than '..Said'. Prove '..Said' where nothing that the law and all that it calls make is longer than what came in: it says more and counts as full. Else prove '..UptoSaid'. A law counts once. -/
mutual
def uptoBulk {H : Type} : DataW H → Nat
  | .lit (.string bytes) => bytes.length + 1
  | .lit _ => 1
  | .nil => 1
  | .ptr d => uptoBulk d + 1
  | .slice elems spare => uptoBulkAll elems + uptoBulkAll spare + 1
  | .agg parts => uptoBulkAll parts + 1
  | .iface _ d => uptoBulk d + 1
  | .map entries => uptoBulkEntries entries + 1
  | .held _ => 1
def uptoBulkAll {H : Type} : List (DataW H) → Nat
  | [] => 0
  | d :: r => uptoBulk d + uptoBulkAll r
def uptoBulkEntries {H : Type} : List (Lit × DataW H) → Nat
  | [] => 0
  | x :: r => uptoBulkEntry x + uptoBulkEntries r
def uptoBulkEntry {H : Type} : Lit × DataW H → Nat
  | (.string bytes, d) => bytes.length + uptoBulk d + 1
  | (_, d) => uptoBulk d + 1
 end
def uptoSmall : (H : Type) → List (DataW H) → Bool := fun _ ds => decide (uptoBulkAll ds ≤ 1048576)
def OpenSpec.upto (s : _root_.Go.ChangeSpec) : _root_.Go.OpenSpec := { _root_.Go.OpenSpec.ofChange s with cond := some uptoSmall }

/-- 'klaxonlaw22.StreamWants', WHERE WHAT IT READS IS OF BULK AT MOST 1048576: true; the input reads as it did. -/
def streamWantsUptoRow : OpenClaim := { program := "ytocmciilifenhaa", sum := "891d35d14eb94eb1dd4ccafe93d17093589f0cdcfb4591006e48fdd0027684ad", func := "klaxon/klaxonlaw22.StreamWants", spec := "streamWants", apart := false, narrowed := true }
def StreamWantsUptoSaid : Prop := streamWantsUptoRow.holds Try.pinned (OpenSpec.upto streamWantsSpec)

/-- 'klaxonlaw24.BackoffWaits', WHERE WHAT IT READS IS OF BULK AT MOST 1048576: true; the input reads as it did. -/
def backoffWaitsUptoRow : OpenClaim := { program := "ytocmciilifenhaa", sum := "891d35d14eb94eb1dd4ccafe93d17093589f0cdcfb4591006e48fdd0027684ad", func := "klaxon/klaxonlaw24.BackoffWaits", spec := "backoffWaits", apart := false, narrowed := true }
def BackoffWaitsUptoSaid : Prop := backoffWaitsUptoRow.holds Try.pinned (OpenSpec.upto backoffWaitsSpec)

/-- 'klaxonlaw24.BackoffBounds', WHERE WHAT IT READS IS OF BULK AT MOST 1048576: true; the input reads as it did. -/
def backoffBoundsUptoRow : OpenClaim := { program := "ytocmciilifenhaa", sum := "891d35d14eb94eb1dd4ccafe93d17093589f0cdcfb4591006e48fdd0027684ad", func := "klaxon/klaxonlaw24.BackoffBounds", spec := "backoffBounds", apart := false, narrowed := true }
def BackoffBoundsUptoSaid : Prop := backoffBoundsUptoRow.holds Try.pinned (OpenSpec.upto backoffBoundsSpec)

/-- 'klaxonlaw24.BackoffCap', WHERE WHAT IT READS IS OF BULK AT MOST 1048576: true; the input reads as it did. -/
def backoffCapUptoRow : OpenClaim := { program := "ytocmciilifenhaa", sum := "891d35d14eb94eb1dd4ccafe93d17093589f0cdcfb4591006e48fdd0027684ad", func := "klaxon/klaxonlaw24.BackoffCap", spec := "backoffCap", apart := false, narrowed := true }
def BackoffCapUptoSaid : Prop := backoffCapUptoRow.holds Try.pinned (OpenSpec.upto backoffCapSpec)

/-- 'klaxonlaw24.BackoffDoubles', WHERE WHAT IT READS IS OF BULK AT MOST 1048576: true; the input reads as it did. -/
def backoffDoublesUptoRow : OpenClaim := { program := "ytocmciilifenhaa", sum := "891d35d14eb94eb1dd4ccafe93d17093589f0cdcfb4591006e48fdd0027684ad", func := "klaxon/klaxonlaw24.BackoffDoubles", spec := "backoffDoubles", apart := false, narrowed := true }
def BackoffDoublesUptoSaid : Prop := backoffDoublesUptoRow.holds Try.pinned (OpenSpec.upto backoffDoublesSpec)

/-- 'klaxonlaw24.BackoffDue', WHERE WHAT IT READS IS OF BULK AT MOST 1048576: true; the input reads as it did. -/
def backoffDueUptoRow : OpenClaim := { program := "ytocmciilifenhaa", sum := "891d35d14eb94eb1dd4ccafe93d17093589f0cdcfb4591006e48fdd0027684ad", func := "klaxon/klaxonlaw24.BackoffDue", spec := "backoffDue", apart := false, narrowed := true }
def BackoffDueUptoSaid : Prop := backoffDueUptoRow.holds Try.pinned (OpenSpec.upto backoffDueSpec)

/-- 'klaxonlaw25.PushPlays', WHERE WHAT IT READS IS OF BULK AT MOST 1048576: true; the input reads as it did. -/
def pushPlaysUptoRow : OpenClaim := { program := "ytocmciilifenhaa", sum := "891d35d14eb94eb1dd4ccafe93d17093589f0cdcfb4591006e48fdd0027684ad", func := "klaxon/klaxonlaw25.PushPlays", spec := "pushPlays", apart := false, narrowed := true }
def PushPlaysUptoSaid : Prop := pushPlaysUptoRow.holds Try.pinned (OpenSpec.upto pushPlaysSpec)

/-- 'klaxonlaw25.PushOne', WHERE WHAT IT READS IS OF BULK AT MOST 1048576: true; the input reads as it did. -/
def pushOneUptoRow : OpenClaim := { program := "ytocmciilifenhaa", sum := "891d35d14eb94eb1dd4ccafe93d17093589f0cdcfb4591006e48fdd0027684ad", func := "klaxon/klaxonlaw25.PushOne", spec := "pushOne", apart := false, narrowed := true }
def PushOneUptoSaid : Prop := pushOneUptoRow.holds Try.pinned (OpenSpec.upto pushOneSpec)

/-- 'klaxonlaw25.PushVerdicts', WHERE WHAT IT READS IS OF BULK AT MOST 1048576: true; the input reads as it did. -/
def pushVerdictsUptoRow : OpenClaim := { program := "ytocmciilifenhaa", sum := "891d35d14eb94eb1dd4ccafe93d17093589f0cdcfb4591006e48fdd0027684ad", func := "klaxon/klaxonlaw25.PushVerdicts", spec := "pushVerdicts", inPlace := ["internal/bytealg.IndexByteString"], unfollowed := true, recurses := true, apart := false, narrowed := true }
def PushVerdictsUptoSaid : Prop := pushVerdictsUptoRow.holds Try.pinned (OpenSpec.upto pushVerdictsSpec)

end Rows
end Go.Proofs.Ytocmciilifenhaa
