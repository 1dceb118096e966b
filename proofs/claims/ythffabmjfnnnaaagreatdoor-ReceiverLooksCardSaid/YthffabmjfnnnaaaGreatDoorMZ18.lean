/- ReceiverLooks: any call with a text, the listed variables as listed, returns true and leaves all as it was; the row, and its tied card. No condition of its own. -/
import Derived.Test.YthffabmjfnnnaaaGreatDoorMZ17
import Derived.Test.YthffabmjfnnnaaaGreatDoorCards
import Derived.Test.YthffabmjfnnnaaaGreatDoorTie
import Derived.JoinedOf
import Derived.SevenTiedAt
namespace Go.Proofs.YthffabmjfnnnaaaGreatDoor.RowReceiverLooks
open Go.Deep Go.ChangeMaps Go.ChangeShapes Go.WideShapes Go.ChangeAt Go.RowKit Go.Kx Go.Proofs RowLaid
set_option maxRecDepth 100000 in
theorem walk : LawWalkL Tryz.prog 3 Tryz.f3 laid := by
 intro H enc W args base ds p hA hval hsz hL
 rw [Tryz.params3] at hA hval
 obtain ⟨v0, d0, hargs, rfl, h0⟩ := trodAll_one hA
 obtain rfl : args = #[v0] := by cases args; simp_all
 obtain ⟨s, rfl, rfl, _, wk⟩ := open_string Tryz.underlying9 (hval 0 9 v0 rfl rfl) h0
 exact law_of (gd hL) (L30.looks_ s (heapOf W) (errH hL)) (.cons rfl .nil) (fun e _ _ h => h)
theorem spec (H : Type) (ds : List (DataW H)) (hl : ds.length = 1) : Rows.receiverLooksSpec.fn H ds = { results := [.lit (.bool true)], args := ds } := by
 match ds, hl with
 | [_], _ => rfl
set_option maxRecDepth 100000 in
theorem lifted (os : Os) (started : os.Started) (H : Type) (enc : TypeId × Value → H) :
  ReturnsInHanded {} Tryz.checked os 3 .any (fun w args => (Rows.receiverLooksSpec.pre enc Tryz.prog Tryz.f3 Rows.receiverLooksRow.domain false w args ∧ laidMetH Tryz.prog laid w) ∧ sizedMet enc Tryz.prog Tryz.f3 (OpenSpec.ofChange Rows.receiverLooksSpec) false w args) (Rows.receiverLooksSpec.post enc Tryz.prog Tryz.f3 false true false false) :=
 law_lifted_laid (C := Tryz.checked) (s := Rows.receiverLooksSpec) (conds := Rows.receiverLooksRow.domain) (tb := 4) own laidOut (by kernel_rfl) Tryz.func3 rfl (by kernel_rfl) Tryz.underlying4 (by kernel_rfl) spec walk os started H enc
  (ChangeSpec.witness_at (enc := enc) (C := Tryz.checked) (os := os) (X := fun w _ => laidMetH Tryz.prog laid w) false (laidWorld os) #[.string ⟨#[]⟩] 8 rfl (by kernel_rfl) (by kernel_rfl) (by kernel_rfl) (by kernel_rfl) (by kernel_rfl) (laidWorld_met os _))
theorem over : Rows.receiverLooksRow.holds Tryz.pinned (OpenSpec.ofChange Rows.receiverLooksSpec) :=
 OpenClaim.holds_of_wide 3 Tryz.f3 rfl rfl rfl rfl rfl rfl rfl ⟨rfl, rfl, rfl, rfl, rfl⟩ rfl rfl rfl rfl rfl (by kernel_rfl) Tryz.func3 (by kernel_rfl)
  (of_decide_eq_true (by kernel_rfl)) (by unfold Func.isWrapper; first | (rw [if_pos (by decide +kernel)]; kernel_rfl) | (rw [if_neg (by decide +kernel)]; exact ⟨rfl, rfl⟩))
  (fun os started H enc _ => lifted os started H enc)
end Go.Proofs.YthffabmjfnnnaaaGreatDoor.RowReceiverLooks
namespace Go.Proofs.YthffabmjfnnnaaaGreatDoor
theorem receiverLooks_card : Rows.ReceiverLooksCardSaid :=
 Claim7.holds_tied_plain_at .later [] [.data, .data, .data, .data, .sentinel, .sentinel, .pinned] true (true, "ec4676953b341a6ffbd6d55efb6a9835fe98844d95c0faef2bbf0aaa47ff7310") true
  RowReceiverLooks.over (fun _ h => by cases h) (by kernel_rfl) (fun _ h => by cases h) receiverLooks_row_tie rfl ⟨rfl, rfl⟩ (by kernel_rfl) rfl
  (fun f fn hf hfn => by
   obtain rfl : f = 3 := Option.some.inj ((show Tryz.prog.funcNamed "klaxon/klaxonlaw30.ReceiverLooks" = some 3 by kernel_rfl).symm.trans hf) |>.symm
   obtain rfl : fn = Tryz.f3 := (Option.some.inj (Tryz.func3.symm.trans hfn)).symm
   exact ⟨by kernel_rfl, fun j t ht => by
    rw [Tryz.params3] at ht
    have h3 : t = 9 := by
     rcases j with _ | j
     ·simpa using ht.symm
     ·simp at ht
    subst h3
    exact (show Tryz.prog.wantsStandIn 9 = false by kernel_rfl)⟩)
  (by kernel_rfl)
#print axioms receiverLooks_card
end Go.Proofs.YthffabmjfnnnaaaGreatDoor
