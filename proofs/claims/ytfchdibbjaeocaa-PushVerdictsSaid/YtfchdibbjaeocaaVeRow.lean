/- PushVerdicts: any call with arguments that read as data returns true and leaves all as it was. No condition of its own. -/
import Derived.Test.YtfchdibbjaeocaaRows
import Derived.Test.YtfchdibbjaeocaaK16
import Derived.Test.YtfchdibbjaeocaaKLaw
import Derived.Test.YtfchdibbjaeocaaVeB
import Derived.Lib.SmallJoins
namespace Go.Proofs.Ytfchdibbjaeocaa.RowPushVerdicts
open Go.ChangeShapes Go.WideShapes Go.ChangeAt Go.RowKit Go.Joins Go.Kx Go.Deep Go.Proofs
theorem own : ownKnob Try.prog.godebug = none := by kernel_rfl
theorem laidOut : laidOutB Try.prog = true := by kernel_rfl
theorem open8 {H : Type} {enc : TypeId × Value → H} {w : World} {base : Nat} {spare : Nat → Bool} {held : Bool} {n : Nat} {cs : List Value} {x : DataW H × List MemPlace} (h : DataW.trod enc Try.prog w base spare held n 5 cs = some x) : ∃ y : UInt8, cs = [Value.int .u8 y.toNat] := by
  obtain ⟨a, e, _, wa⟩ := DataW.trod_int Try.underlying5 h
  subst e
  have h1 : IntKind.u8.min ≤ a ∧ a ≤ IntKind.u8.max := by simpa [Lit.wf] using wa
  rw [show IntKind.u8.min = 0 by decide, show IntKind.u8.max = 255 by decide] at h1
  refine ⟨UInt8.ofNat a.toNat, ?_⟩
  rw [UInt8.toNat_ofNat']
  congr 2
  omega
theorem flat8 (os : List UInt8) : os.flatMap (fun b : UInt8 => [Value.int .u8 b.toNat]) = bCells os := by
  unfold bCells
  induction os with
  | nil => rfl
  | cons b r ih => rw [List.flatMap_cons, ih]; rfl

set_option maxRecDepth 100000 in
theorem walk : LawWalk Try.prog 3 Try.f3 (fun _ _ => True) := by
  intro H enc W args base ds p hA hval hsz _
  rw [Try.params3] at hA hval
  obtain ⟨v0, vs0, d0, ds0, p0, q0, hargs, rfl, rfl, h0, r0⟩ := trodAll_cons hA
  obtain ⟨v1, vs1, d1, ds1, p1, q1, rfl, rfl, rfl, h1, r1⟩ := trodAll_cons r0
  obtain ⟨rfl, rfl, rfl⟩ := trodAll_nil r1
  obtain rfl : args = #[v0, v1] := by cases args; simp_all
  obtain ⟨st, rfl, rfl, rfl, w1⟩ := open_int Try.underlying3 (hval 0 3 v0 rfl rfl) h0
  obtain ⟨A0, len, cap, rfl⟩ := okWide_slice Try.underlying22 (hval 1 22 v1 rfl rfl)
  obtain ⟨fs, hs⟩ := h1
  obtain ⟨A, cap', os, hcs, hrd⟩ := rd_slice (fun b : UInt8 => [Value.int .u8 b.toNat]) (sz := 1) (fun _ => rfl) (by decide) Try.underlying22 (by kernel_rfl) (fun n cs x h => open8 h) hs
  injection hcs with hcs _
  injection hcs with e1 e2 e3
  subst e1 e2 e3
  refine law_of (fun _ _ h => absurd h (by simp [Gl])) (Ver.verdicts st os A0 os.length cap (heapOf W) ⟨rfl, fun e => ?_, fun a e => ?_⟩) (.cons rfl (.cons rfl .nil)) (fun e _ _ h => h)
  · rcases hrd with rfl | ⟨b, o, h, _⟩
    · rfl
    · rw [e] at h; cases h
  · rcases hrd with rfl | hrd
    · exact .inl rfl
    · rw [flat8, e] at hrd
      exact .inr hrd
theorem spec (H : Type) (ds : List (DataW H)) (hl : ds.length = 2) : Rows.pushVerdictsSpec.fn H ds = { results := [.lit (.bool true)], args := ds } := by
  match ds, hl with
  | [_, _], _ => rfl
set_option maxRecDepth 100000 in
theorem lifted (os : Os) (started : os.Started) (H : Type) (enc : TypeId × Value → H) :
    ReturnsInHanded {} Try.checked os 3 .any (Rows.pushVerdictsSpec.pre6 enc Try.prog Try.f3 Rows.pushVerdictsRow.domain false) (Rows.pushVerdictsSpec.post enc Try.prog Try.f3 false true false false) :=
  law_lifted (C := Try.checked) (s := Rows.pushVerdictsSpec) (conds := Rows.pushVerdictsRow.domain) (tb := 4) own laidOut (by kernel_rfl) Try.func3 rfl (by kernel_rfl) Try.underlying4 (by kernel_rfl) spec walk os started H enc
    (ChangeSpec.witness6 (enc := enc) (C := Try.checked) false ⟨#[], #[.int .i64 0, .slice none 0 0], []⟩ 8 (by kernel_rfl) (by kernel_rfl) (by kernel_rfl) (by kernel_rfl))
theorem over : Rows.pushVerdictsRow.holds Try.pinned (OpenSpec.ofChange Rows.pushVerdictsSpec) :=
  OpenClaim.holds_of_wide 3 Try.f3 rfl rfl rfl rfl rfl rfl rfl ⟨rfl, rfl, rfl, rfl, rfl⟩ rfl rfl rfl rfl rfl (by kernel_rfl) Try.func3 (by kernel_rfl)
    (of_decide_eq_true (by kernel_rfl)) (by unfold Func.isWrapper; first | (rw [if_pos (by decide +kernel)]; kernel_rfl) | (rw [if_neg (by decide +kernel)]; exact ⟨rfl, rfl⟩))
    (fun os started H enc _ => lifted os started H enc)
end Go.Proofs.Ytfchdibbjaeocaa.RowPushVerdicts
namespace Go.Proofs.Ytfchdibbjaeocaa
theorem pushVerdicts_holds : Rows.PushVerdictsSaid := RowPushVerdicts.over
#print axioms pushVerdicts_holds
end Go.Proofs.Ytfchdibbjaeocaa
