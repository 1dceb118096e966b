/- RingOwn: any call with an argument that reads as data, the listed variables as listed, returns true and leaves all as it was; the row, and its tied card. No condition of its own. -/
import Derived.Test.YtjpjpdmceliofaaDoorRingG
import Derived.Test.YtjpjpdmceliofaaDoorRingM
import Derived.Test.YtjpjpdmceliofaaDoorCards
import Derived.Test.YtjpjpdmceliofaaDoorTie
import Derived.JoinedOf
import Derived.SevenTiedAt
namespace Go.Proofs.YtjpjpdmceliofaaDoor.RowRingOwn
open Go.ChangeShapes Go.WideShapes Go.ChangeAt Go.RowKit Go.Kx Go.Proofs RowRing

set_option maxRecDepth 100000 in
theorem walk : LawWalkL Tryd.prog 4 Tryd.f4 laid := by
  intro H enc W args base ds p hA hval hsz hL
  rw [Tryd.params4] at hA hval
  obtain ⟨v0, d0, hargs, rfl, h0⟩ := trodAll_one hA
  obtain rfl : args = #[v0] := by cases args; simp_all
  obtain ⟨a, rfl, _, _, wa⟩ := open_int Tryd.underlying5 (hval 0 5 v0 rfl rfl) h0
  obtain ⟨c, rfl⟩ : ∃ c : UInt8, a = (c.toNat : Int) := by
    have h1 : IntKind.u8.min ≤ a ∧ a ≤ IntKind.u8.max := by simpa [Lit.wf] using wa
    rw [show IntKind.u8.min = 0 by decide, show IntKind.u8.max = 255 by decide] at h1
    refine ⟨UInt8.ofNat a.toNat, ?_⟩
    rw [UInt8.toNat_ofNat']
    omega
  exact law_of (gd hL) (Ring.Law.ringOwn c (heapOf W) (errH hL)) (.cons rfl .nil) (fun e _ _ h => h)
theorem spec (H : Type) (ds : List (DataW H)) (hl : ds.length = 1) : Rows.ringOwnSpec.fn H ds = { results := [.lit (.bool true)], args := ds } := by
  match ds, hl with
  | [_], _ => rfl
set_option maxRecDepth 100000 in
theorem lifted (os : Os) (started : os.Started) (H : Type) (enc : TypeId × Value → H) :
    ReturnsInHanded {} Tryd.checked os 4 .any (fun w args => (Rows.ringOwnSpec.pre enc Tryd.prog Tryd.f4 Rows.ringOwnRow.domain false w args ∧ laidMetH Tryd.prog laid w) ∧ sizedMet enc Tryd.prog Tryd.f4 (OpenSpec.ofChange Rows.ringOwnSpec) false w args) (Rows.ringOwnSpec.post enc Tryd.prog Tryd.f4 false true false false) :=
  law_lifted_laid (C := Tryd.checked) (s := Rows.ringOwnSpec) (conds := Rows.ringOwnRow.domain) (tb := 4) own laidOut (by kernel_rfl) Tryd.func4 rfl (by kernel_rfl) Tryd.underlying4 (by kernel_rfl) spec walk os started H enc
    (ChangeSpec.witness_at (enc := enc) (C := Tryd.checked) (os := os) (X := fun w _ => laidMetH Tryd.prog laid w) false (laidWorld os) #[.int .u8 0] 8 rfl (by kernel_rfl) (by kernel_rfl) (by kernel_rfl) (by kernel_rfl) (by kernel_rfl) (laidWorld_met os _))
theorem over : Rows.ringOwnRow.holds Tryd.pinned (OpenSpec.ofChange Rows.ringOwnSpec) :=
  OpenClaim.holds_of_wide 4 Tryd.f4 rfl rfl rfl rfl rfl rfl rfl ⟨rfl, rfl, rfl, rfl, rfl⟩ rfl rfl rfl rfl rfl (by kernel_rfl) Tryd.func4 (by kernel_rfl)
    (of_decide_eq_true (by kernel_rfl)) (by unfold Func.isWrapper; first | (rw [if_pos (by decide +kernel)]; kernel_rfl) | (rw [if_neg (by decide +kernel)]; exact ⟨rfl, rfl⟩))
    (fun os started H enc _ => lifted os started H enc)
end Go.Proofs.YtjpjpdmceliofaaDoor.RowRingOwn
namespace Go.Proofs.YtjpjpdmceliofaaDoor
theorem ringOwn_card : Rows.RingOwnCardSaid :=
  Claim7.holds_tied_plain_at .later [] [.data, .data, .data, .sentinel, .sentinel] true (true, "e5e59c7188cb92cbb772a41309ca1a1ff3a78735763d525a7a96e0a331283bf9") true
    RowRingOwn.over (fun _ h => by cases h) (by kernel_rfl) (fun _ h => by cases h) ringOwn_row_tie rfl ⟨rfl, rfl⟩ (by kernel_rfl) rfl
    (fun f fn hf hfn => by
      obtain rfl : f = 4 := Option.some.inj ((show Tryd.prog.funcNamed "klaxon/klaxonlaw14.RingOwn" = some 4 by kernel_rfl).symm.trans hf) |>.symm
      obtain rfl : fn = Tryd.f4 := (Option.some.inj (Tryd.func4.symm.trans hfn)).symm
      exact ⟨by kernel_rfl, fun j t ht => by
        rw [Tryd.params4] at ht
        have h3 : t = 5 := by
          rcases j with _ | j
          · simpa using ht.symm
          · simp at ht
        subst h3
        exact (show Tryd.prog.wantsStandIn 5 = false by kernel_rfl)⟩)
    (by kernel_rfl)
#print axioms ringOwn_card
end Go.Proofs.YtjpjpdmceliofaaDoor
