/- RingSigns: any call with arguments that read as data, the listed variables as listed, returns true and leaves all as it was; the row, and its tied card. No condition of its own. -/
import Derived.Test.YtfchdibbjaeocaaGreatDoorMS18
import Derived.Test.YtfchdibbjaeocaaGreatDoorCards
import Derived.Test.YtfchdibbjaeocaaGreatDoorTie
import Derived.JoinedOf
import Derived.SevenTiedAt
namespace Go.Proofs.YtfchdibbjaeocaaGreatDoor.RowRingSigns
open Go.Deep Go.ChangeMaps Go.ChangeShapes Go.WideShapes Go.ChangeAt Go.RowKit Go.Kx Go.Proofs RowLaid

set_option maxRecDepth 100000 in
theorem walk : LawWalkL Tryz.prog 11 Tryz.f11 laid := by
  intro H enc W args base ds p hA hval hsz hL
  rw [Tryz.params11] at hA hval
  obtain ⟨v0, vs0, d0, ds0, p0, q0, hargs, rfl, rfl, h0, r0⟩ := trodAll_cons hA
  obtain ⟨v1, vs1, d1, ds1, p1, q1, rfl, rfl, rfl, h1, r1⟩ := trodAll_cons r0
  obtain ⟨v2, vs2, d2, ds2, p2, q2, rfl, rfl, rfl, h2, r2⟩ := trodAll_cons r1
  obtain ⟨v3, vs3, d3, ds3, p3, q3, rfl, rfl, rfl, h3, r3⟩ := trodAll_cons r2
  obtain ⟨rfl, rfl, rfl⟩ := trodAll_nil r3
  obtain rfl : args = #[v0, v1, v2, v3] := by cases args; simp_all
  obtain ⟨a, rfl, rfl, _, wa⟩ := open_int Tryz.underlying5 (hval 0 5 v0 rfl rfl) h0
  obtain ⟨c, rfl⟩ : ∃ c : UInt8, a = (c.toNat : Int) := by
    have h1 : IntKind.u8.min ≤ a ∧ a ≤ IntKind.u8.max := by simpa [Lit.wf] using wa
    rw [show IntKind.u8.min = 0 by decide, show IntKind.u8.max = 255 by decide] at h1
    refine ⟨UInt8.ofNat a.toNat, ?_⟩
    rw [UInt8.toNat_ofNat']
    omega
  obtain ⟨count, rfl, rfl, _, wc⟩ := open_int Tryz.underlying3 (hval 1 3 v1 rfl rfl) h1
  obtain ⟨turns, rfl, rfl, _, wt⟩ := open_int Tryz.underlying3 (hval 2 3 v2 rfl rfl) h2
  obtain ⟨jti, rfl, rfl, _, ws⟩ := open_string Tryz.underlying9 (hval 3 9 v3 rfl rfl) h3
  have hw : -9223372036854775808 ≤ turns ∧ turns ≤ 9223372036854775807 := by
    have h1 : IntKind.i64.min ≤ turns ∧ turns ≤ IntKind.i64.max := by simpa [Lit.wf] using wt
    rwa [show IntKind.i64.min = -9223372036854775808 by decide, show IntKind.i64.max = 9223372036854775807 by decide] at h1
  exact law_of (gd hL) (Rr.ringSigns c count turns hw jti (heapOf W) (errH hL)) (.cons rfl (.cons rfl (.cons rfl (.cons rfl .nil)))) (fun e _ _ h => h)
theorem spec (H : Type) (ds : List (DataW H)) (hl : ds.length = 4) : Rows.ringSignsSpec.fn H ds = { results := [.lit (.bool true)], args := ds } := by
  match ds, hl with
  | [_, _, _, _], _ => rfl
set_option maxRecDepth 100000 in
theorem lifted (os : Os) (started : os.Started) (H : Type) (enc : TypeId × Value → H) :
    ReturnsInHanded {} Tryz.checked os 11 .any (fun w args => (Rows.ringSignsSpec.pre enc Tryz.prog Tryz.f11 Rows.ringSignsRow.domain false w args ∧ laidMetH Tryz.prog laid w) ∧ sizedMet enc Tryz.prog Tryz.f11 (OpenSpec.ofChange Rows.ringSignsSpec) false w args) (Rows.ringSignsSpec.post enc Tryz.prog Tryz.f11 false true false false) :=
  law_lifted_laid (C := Tryz.checked) (s := Rows.ringSignsSpec) (conds := Rows.ringSignsRow.domain) (tb := 4) own laidOut (by kernel_rfl) Tryz.func11 rfl (by kernel_rfl) Tryz.underlying4 (by kernel_rfl) spec walk os started H enc
    (ChangeSpec.witness_at (enc := enc) (C := Tryz.checked) (os := os) (X := fun w _ => laidMetH Tryz.prog laid w) false (laidWorld os) #[.int .u8 0, .int .i64 0, .int .i64 0, .string ⟨#[]⟩] 8 rfl (by kernel_rfl) (by kernel_rfl) (by kernel_rfl) (by kernel_rfl) (by kernel_rfl) (laidWorld_met os _))
theorem over : Rows.ringSignsRow.holds Tryz.pinned (OpenSpec.ofChange Rows.ringSignsSpec) :=
  OpenClaim.holds_of_wide 11 Tryz.f11 rfl rfl rfl rfl rfl rfl rfl ⟨rfl, rfl, rfl, rfl, rfl⟩ rfl rfl rfl rfl rfl (by kernel_rfl) Tryz.func11 (by kernel_rfl)
    (of_decide_eq_true (by kernel_rfl)) (by unfold Func.isWrapper; first | (rw [if_pos (by decide +kernel)]; kernel_rfl) | (rw [if_neg (by decide +kernel)]; exact ⟨rfl, rfl⟩))
    (fun os started H enc _ => lifted os started H enc)
end Go.Proofs.YtfchdibbjaeocaaGreatDoor.RowRingSigns
namespace Go.Proofs.YtfchdibbjaeocaaGreatDoor
theorem ringSigns_card : Rows.RingSignsCardSaid :=
  Claim7.holds_tied_plain_at .later [] [.data, .data, .data, .data, .sentinel, .sentinel, .pinned] true (true, "f13b97b84cdc3754a716503188d89966f67a35ff2fe0f07f6bab0a3a6b74aa9f") true
    RowRingSigns.over (fun _ h => by cases h) (by kernel_rfl) (fun _ h => by cases h) ringSigns_row_tie rfl ⟨rfl, rfl⟩ (by kernel_rfl) rfl
    (fun f fn hf hfn => by
      obtain rfl : f = 11 := Option.some.inj ((show Tryz.prog.funcNamed "klaxon/klaxonlaw14.RingSigns" = some 11 by kernel_rfl).symm.trans hf) |>.symm
      obtain rfl : fn = Tryz.f11 := (Option.some.inj (Tryz.func11.symm.trans hfn)).symm
      exact ⟨by kernel_rfl, fun j t ht => by
        rw [Tryz.params11] at ht
        have h3 : t = 5 ∨ t = 3 ∨ t = 9 := by
          rcases j with _ | _ | _ | _ | j
          · left; simpa using ht.symm
          · right; left; simpa using ht.symm
          · right; left; simpa using ht.symm
          · right; right; simpa using ht.symm
          · simp at ht
        rcases h3 with rfl | rfl | rfl
        · exact (show Tryz.prog.wantsStandIn 5 = false by kernel_rfl)
        · exact (show Tryz.prog.wantsStandIn 3 = false by kernel_rfl)
        · exact (show Tryz.prog.wantsStandIn 9 = false by kernel_rfl)⟩)
    (by kernel_rfl)
#print axioms ringSigns_card
end Go.Proofs.YtfchdibbjaeocaaGreatDoor
