/- SetNames: any call with arguments that read as data, the listed variables as listed, returns true and leaves all as it was; the row, and its tied card. No condition of its own. -/
import Derived.Test.YtfchdibbjaeocaaGreatDoorMN16
import Derived.Test.YtfchdibbjaeocaaGreatDoorCards
import Derived.Test.YtfchdibbjaeocaaGreatDoorTie
import Derived.JoinedOf
import Derived.SevenTiedAt
/- SetNames: any call with arguments that read as data, the listed variables as listed, returns true and leaves all as it was; the row, and its tied card. No condition of its own. -/
namespace Go.Proofs.YtfchdibbjaeocaaGreatDoor.RowSetNames
open Go.Deep Go.ChangeMaps Go.ChangeShapes Go.WideShapes Go.ChangeAt Go.RowKit Go.Kx Go.Proofs RowLaid

set_option maxRecDepth 100000 in
theorem walk : LawWalkL Tryz.prog 8 Tryz.f8 laid := by
  intro H enc W args base ds p hA hval hsz hL
  rw [Tryz.params8] at hA hval
  obtain ⟨v0, vs0, d0, ds0, p0, q0, hargs, rfl, rfl, h0, r0⟩ := trodAll_cons hA
  obtain ⟨v1, vs1, d1, ds1, p1, q1, rfl, rfl, rfl, h1, r1⟩ := trodAll_cons r0
  obtain ⟨rfl, rfl, rfl⟩ := trodAll_nil r1
  obtain rfl : args = #[v0, v1] := by cases args; simp_all
  obtain ⟨k, rfl, rfl, _, wk⟩ := open_int Tryz.underlying3 (hval 0 3 v0 rfl rfl) h0
  obtain ⟨s, rfl, rfl, _, ws⟩ := open_string Tryz.underlying9 (hval 1 9 v1 rfl rfl) h1
  have hk : IntKind.i64.min ≤ k ∧ k ≤ IntKind.i64.max := by simpa [Lit.wf] using wk
  rw [show IntKind.i64.min = -9223372036854775808 by decide, show IntKind.i64.max = 9223372036854775807 by decide] at hk
  exact law_of (gd hL) (L13.setNames k hk.1 hk.2 s (heapOf W) (errH hL)) (.cons rfl (.cons rfl .nil)) (fun e _ _ h => h)
theorem spec (H : Type) (ds : List (DataW H)) (hl : ds.length = 2) : Rows.setNamesSpec.fn H ds = { results := [.lit (.bool true)], args := ds } := by
  match ds, hl with
  | [_, _], _ => rfl
set_option maxRecDepth 100000 in
theorem lifted (os : Os) (started : os.Started) (H : Type) (enc : TypeId × Value → H) :
    ReturnsInHanded {} Tryz.checked os 8 .any (fun w args => (Rows.setNamesSpec.pre enc Tryz.prog Tryz.f8 Rows.setNamesRow.domain false w args ∧ laidMetH Tryz.prog laid w) ∧ sizedMet enc Tryz.prog Tryz.f8 (OpenSpec.ofChange Rows.setNamesSpec) false w args) (Rows.setNamesSpec.post enc Tryz.prog Tryz.f8 false true false false) :=
  law_lifted_laid (C := Tryz.checked) (s := Rows.setNamesSpec) (conds := Rows.setNamesRow.domain) (tb := 4) own laidOut (by kernel_rfl) Tryz.func8 rfl (by kernel_rfl) Tryz.underlying4 (by kernel_rfl) spec walk os started H enc
    (ChangeSpec.witness_at (enc := enc) (C := Tryz.checked) (os := os) (X := fun w _ => laidMetH Tryz.prog laid w) false (laidWorld os) #[.int .i64 0, .string ⟨#[]⟩] 8 rfl (by kernel_rfl) (by kernel_rfl) (by kernel_rfl) (by kernel_rfl) (by kernel_rfl) (laidWorld_met os _))
theorem over : Rows.setNamesRow.holds Tryz.pinned (OpenSpec.ofChange Rows.setNamesSpec) :=
  OpenClaim.holds_of_wide 8 Tryz.f8 rfl rfl rfl rfl rfl rfl rfl ⟨rfl, rfl, rfl, rfl, rfl⟩ rfl rfl rfl rfl rfl (by kernel_rfl) Tryz.func8 (by kernel_rfl)
    (of_decide_eq_true (by kernel_rfl)) (by unfold Func.isWrapper; first | (rw [if_pos (by decide +kernel)]; kernel_rfl) | (rw [if_neg (by decide +kernel)]; exact ⟨rfl, rfl⟩))
    (fun os started H enc _ => lifted os started H enc)
end Go.Proofs.YtfchdibbjaeocaaGreatDoor.RowSetNames
namespace Go.Proofs.YtfchdibbjaeocaaGreatDoor
theorem setNames_card : Rows.SetNamesCardSaid :=
  Claim7.holds_tied_plain_at .later [] [.data, .data, .data, .data, .sentinel, .sentinel, .pinned] true (true, "f13b97b84cdc3754a716503188d89966f67a35ff2fe0f07f6bab0a3a6b74aa9f") true
    RowSetNames.over (fun _ h => by cases h) (by kernel_rfl) (fun _ h => by cases h) setNames_row_tie rfl ⟨rfl, rfl⟩ (by kernel_rfl) rfl
    (fun f fn hf hfn => by
      obtain rfl : f = 8 := Option.some.inj ((show Tryz.prog.funcNamed "klaxon/klaxonlaw13.SetNames" = some 8 by kernel_rfl).symm.trans hf) |>.symm
      obtain rfl : fn = Tryz.f8 := (Option.some.inj (Tryz.func8.symm.trans hfn)).symm
      exact ⟨by kernel_rfl, fun j t ht => by
        rw [Tryz.params8] at ht
        have h3 : t = 3 ∨ t = 9 := by
          rcases j with _ | _ | j
          · left; simpa using ht.symm
          · right; simpa using ht.symm
          · simp at ht
        rcases h3 with rfl | rfl
        · exact (show Tryz.prog.wantsStandIn 3 = false by kernel_rfl)
        · exact (show Tryz.prog.wantsStandIn 9 = false by kernel_rfl)⟩)
    (by kernel_rfl)
#print axioms setNames_card
end Go.Proofs.YtfchdibbjaeocaaGreatDoor
