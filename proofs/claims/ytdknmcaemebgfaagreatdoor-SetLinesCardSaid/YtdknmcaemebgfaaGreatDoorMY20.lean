/- SetLines: any call with arguments that read as data, the listed variables as listed, returns true and leaves all as it was; the row, and its tied card. No condition of its own. -/
import Derived.Test.YtdknmcaemebgfaaGreatDoorMY19
import Derived.Test.YtdknmcaemebgfaaGreatDoorCards
import Derived.Test.YtdknmcaemebgfaaGreatDoorTie
import Derived.JoinedOf
import Derived.SevenTiedAt
namespace Go.Proofs.YtdknmcaemebgfaaGreatDoor.RowSetLines
open Go.Deep Go.ChangeMaps Go.ChangeShapes Go.WideShapes Go.ChangeAt Go.RowKit Go.Kx Go.Proofs RowLaid

set_option maxRecDepth 100000 in
theorem walk : LawWalkL Tryz.prog 7 Tryz.f7 laid := by
 intro H enc W args base ds p hA hval hsz hL
 rw [Tryz.params7] at hA hval
 obtain ⟨v0, vs0, d0, ds0, p0, q0, hargs, rfl, rfl, h0, r0⟩ := trodAll_cons hA
 obtain ⟨rfl, rfl, rfl⟩ := trodAll_nil r0
 obtain rfl : args = #[v0] := by cases args; simp_all
 obtain ⟨c, rfl, hfc⟩ := open_cl (hval 0 25 v0 rfl rfl) h0
 exact law_of (gd hL) (Ln.setLines c hfc.n hfc.k (heapOf W) (errH hL) (u8H hL)) (.cons (is_cl c) .nil) (fun e _ _ h => h)
theorem spec (H : Type) (ds : List (DataW H)) (hl : ds.length = 1) : Rows.setLinesSpec.fn H ds = { results := [.lit (.bool true)], args := ds } := by
 match ds, hl with
 | [_], _ => rfl
set_option maxRecDepth 100000 in
theorem lifted (os : Os) (started : os.Started) (H : Type) (enc : TypeId × Value → H) :
  ReturnsInHanded {} Tryz.checked os 7 .any (fun w args => (Rows.setLinesSpec.pre enc Tryz.prog Tryz.f7 Rows.setLinesRow.domain false w args ∧ laidMetH Tryz.prog laid w) ∧ sizedMet enc Tryz.prog Tryz.f7 (OpenSpec.ofChange Rows.setLinesSpec) false w args) (Rows.setLinesSpec.post enc Tryz.prog Tryz.f7 false true false false) :=
 law_lifted_laid (C := Tryz.checked) (s := Rows.setLinesSpec) (conds := Rows.setLinesRow.domain) (tb := 4) own laidOut (by kernel_rfl) Tryz.func7 rfl (by kernel_rfl) Tryz.underlying4 (by kernel_rfl) spec walk os started H enc
  (ChangeSpec.witness_at (enc := enc) (C := Tryz.checked) (os := os) (X := fun w _ => laidMetH Tryz.prog laid w) false (laidWorld os) #[.agg #[.string ⟨#[]⟩, .string ⟨#[]⟩, .string ⟨#[]⟩, .int .i64 0, .string ⟨#[]⟩, .string ⟨#[]⟩, .string ⟨#[]⟩, .string ⟨#[]⟩, .int .i64 0, .string ⟨#[]⟩]] 8 rfl (by kernel_rfl) (by kernel_rfl) (by kernel_rfl) (by kernel_rfl) (by kernel_rfl) (laidWorld_met os _))
theorem over : Rows.setLinesRow.holds Tryz.pinned (OpenSpec.ofChange Rows.setLinesSpec) :=
 OpenClaim.holds_of_wide 7 Tryz.f7 rfl rfl rfl rfl rfl rfl rfl ⟨rfl, rfl, rfl, rfl, rfl⟩ rfl rfl rfl rfl rfl (by kernel_rfl) Tryz.func7 (by kernel_rfl)
  (of_decide_eq_true (by kernel_rfl)) (by unfold Func.isWrapper; first | (rw [if_pos (by decide +kernel)]; kernel_rfl) | (rw [if_neg (by decide +kernel)]; exact ⟨rfl, rfl⟩))
  (fun os started H enc _ => lifted os started H enc)
end Go.Proofs.YtdknmcaemebgfaaGreatDoor.RowSetLines
namespace Go.Proofs.YtdknmcaemebgfaaGreatDoor
theorem setLines_card : Rows.SetLinesCardSaid :=
 Claim7.holds_tied_plain_at .later [] [.data, .data, .data, .data, .sentinel, .sentinel, .pinned] true (true, "edcc968d0c138d5e9ab7697d3977bc0490529bebd8073c354ce3bca9625a6416") true
  RowSetLines.over (fun _ h => by cases h) (by kernel_rfl) (fun _ h => by cases h) setLines_row_tie rfl ⟨rfl, rfl⟩ (by kernel_rfl) rfl
  (fun f fn hf hfn => by
   obtain rfl : f = 7 := Option.some.inj ((show Tryz.prog.funcNamed "klaxon/klaxonlaw13.SetLines" = some 7 by kernel_rfl).symm.trans hf) |>.symm
   obtain rfl : fn = Tryz.f7 := (Option.some.inj (Tryz.func7.symm.trans hfn)).symm
   exact ⟨by kernel_rfl, fun j t ht => by
    rw [Tryz.params7] at ht
    have h3 : t = 25 := by
     rcases j with _ | j
     ·simpa using ht.symm
     ·simp at ht
    subst h3
    exact (show Tryz.prog.wantsStandIn 25 = false by kernel_rfl)⟩)
  (by kernel_rfl)
#print axioms setLines_card
end Go.Proofs.YtdknmcaemebgfaaGreatDoor
