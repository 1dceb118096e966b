/- InspectScopes: any call with a text, the listed variables as listed, returns true and leaves all as it was; the row, and its tied card. No condition of its own. -/
import Derived.Test.YtfchdibbjaeocaaDoorRows
import Derived.Test.YtfchdibbjaeocaaDoorKL
import Derived.Test.YtfchdibbjaeocaaDoorScR
import Derived.Test.YtfchdibbjaeocaaDoorCards
import Derived.Test.YtfchdibbjaeocaaDoorTie
import Derived.Lib.LaidTab
import Derived.LaidSub
import Derived.MakeChecks
import Derived.JoinedOf
import Derived.SevenTiedAt
namespace Go.Proofs.YtfchdibbjaeocaaDoor.RowInspectScopes
open Go.Deep Go.ChangeMaps Go.ChangeShapes Go.WideShapes Go.ChangeAt Go.RowKit Go.Kx Go.Proofs

def laid : List (String × DataW Unit) := [("unicode/utf8.acceptRanges", Rows.laid_unicode_utf8_acceptRanges), ("unicode/utf8.first", Rows.laid_unicode_utf8_first)]
theorem own : ownKnob Tryd.prog.godebug = none := by kernel_rfl
theorem laidOut : laidOutB Tryd.prog = true := by kernel_rfl
theorem gd (W : World) : Gd W fun _ => False := by
  intro g cs hg
  cases hg
def litsOf : DataW Unit → List Value
  | .agg l => l.flatMap fun
    | .lit (.int k v) => [Value.int k v]
    | .agg m => m.filterMap fun
      | .lit (.int k v) => some (Value.int k v)
      | _ => none
    | _ => []
  | _ => []
/-- A world that meets the condition. -/
noncomputable def laidWorld (os : Os) : World :=
  let w0 := World.holding Tryd.prog os ⟨#[], #[], []⟩
  { w0 with heap := (w0.heap.modify 5 fun
      | .cells _ t z => .cells (litsOf Rows.laid_unicode_utf8_acceptRanges).toArray t z
      | o => o).modify 4 fun
      | .cells _ t z => .cells (litsOf Rows.laid_unicode_utf8_first).toArray t z
      | o => o }
theorem laidWorld_met (os : Os) (args : Array Value) : laidMetH Tryd.prog laid ((laidWorld os).forCall (fun _ _ => 0) ⟨#[], args, []⟩).memory := by
  rw [Go.MakeChecks.laidMetH_plain _ _ _ (by kernel_rfl)]
  exact laidMet_of_run' 8 (by kernel_rfl) (by kernel_rfl)
set_option maxRecDepth 100000 in
theorem walk : LawWalkL Tryd.prog 5 Tryd.f5 laid := by
  intro H enc W args base ds p hA hval hsz hL
  rw [Tryd.params5] at hA hval
  obtain ⟨v0, d0, hargs, rfl, h0⟩ := trodAll_one hA
  obtain rfl : args = #[v0] := by cases args; simp_all
  obtain ⟨s, rfl, rfl, _, wk⟩ := open_string Tryd.underlying9 (hval 0 9 v0 rfl rfl) h0
  exact law_of (gd W) (Sco.Pg.law_ s (heapOf W)) (.cons rfl .nil) (fun e _ _ h => h.1)
theorem spec (H : Type) (ds : List (DataW H)) (hl : ds.length = 1) : Rows.inspectScopesSpec.fn H ds = { results := [.lit (.bool true)], args := ds } := by
  match ds, hl with
  | [_], _ => rfl
set_option maxRecDepth 100000 in
theorem lifted (os : Os) (started : os.Started) (H : Type) (enc : TypeId × Value → H) :
    ReturnsInHanded {} Tryd.checked os 5 .any (fun w args => (Rows.inspectScopesSpec.pre enc Tryd.prog Tryd.f5 Rows.inspectScopesRow.domain false w args ∧ laidMetH Tryd.prog laid w) ∧ sizedMet enc Tryd.prog Tryd.f5 (OpenSpec.ofChange Rows.inspectScopesSpec) false w args) (Rows.inspectScopesSpec.post enc Tryd.prog Tryd.f5 false true false false) :=
  law_lifted_laid (C := Tryd.checked) (s := Rows.inspectScopesSpec) (conds := Rows.inspectScopesRow.domain) (tb := 4) own laidOut (by kernel_rfl) Tryd.func5 rfl (by kernel_rfl) Tryd.underlying4 (by kernel_rfl) spec walk os started H enc
    (ChangeSpec.witness_at (enc := enc) (C := Tryd.checked) (os := os) (X := fun w _ => laidMetH Tryd.prog laid w) false (laidWorld os) #[.string ⟨#[]⟩] 8 rfl (by kernel_rfl) (by kernel_rfl) (by kernel_rfl) (by kernel_rfl) (by kernel_rfl) (laidWorld_met os _))
theorem over : Rows.inspectScopesRow.holds Tryd.pinned (OpenSpec.ofChange Rows.inspectScopesSpec) :=
  OpenClaim.holds_of_wide 5 Tryd.f5 rfl rfl rfl rfl rfl rfl rfl ⟨rfl, rfl, rfl, rfl, rfl⟩ rfl rfl rfl rfl rfl (by kernel_rfl) Tryd.func5 (by kernel_rfl)
    (of_decide_eq_true (by kernel_rfl)) (by unfold Func.isWrapper; first | (rw [if_pos (by decide +kernel)]; kernel_rfl) | (rw [if_neg (by decide +kernel)]; exact ⟨rfl, rfl⟩))
    (fun os started H enc _ => lifted os started H enc)
end Go.Proofs.YtfchdibbjaeocaaDoor.RowInspectScopes
namespace Go.Proofs.YtfchdibbjaeocaaDoor
theorem inspectScopes_card : Rows.InspectScopesCardSaid :=
  Claim7.holds_tied_plain_at .later [] [.data, .pinned] true (true, "e5e59c7188cb92cbb772a41309ca1a1ff3a78735763d525a7a96e0a331283bf9") true
    RowInspectScopes.over (fun _ h => by cases h) (by kernel_rfl) (fun _ h => by cases h) inspectScopes_row_tie rfl ⟨rfl, rfl⟩ (by kernel_rfl) rfl
    (fun f fn hf hfn => by
      obtain rfl : f = 5 := Option.some.inj ((show Tryd.prog.funcNamed "klaxon/klaxonlaw20.InspectScopes" = some 5 by kernel_rfl).symm.trans hf) |>.symm
      obtain rfl : fn = Tryd.f5 := (Option.some.inj (Tryd.func5.symm.trans hfn)).symm
      exact ⟨by kernel_rfl, fun j t ht => by
        rw [Tryd.params5] at ht
        have h3 : t = 9 := by
          rcases j with _ | j
          · simpa using ht.symm
          · simp at ht
        subst h3
        exact (show Tryd.prog.wantsStandIn 9 = false by kernel_rfl)⟩)
    (by kernel_rfl)
#print axioms inspectScopes_card
end Go.Proofs.YtfchdibbjaeocaaDoor
