/- BackoffCap: any call with arguments that read as data returns true and leaves all as it was. No condition of its own. -/
import Derived.Test.YtocmciilifenhaaRows
import Derived.Test.YtocmciilifenhaaKLaw
import Derived.Test.YtocmciilifenhaaPureBackoffCap
import Derived.Lib.SmallJoins
namespace Go.Proofs.Ytocmciilifenhaa.RowBackoffCap
open Go.ChangeShapes Go.WideShapes Go.ChangeAt Go.RowKit Go.Joins Go.Kx
theorem own : ownKnob Try.prog.godebug = none := by kernel_rfl
theorem laidOut : laidOutB Try.prog = true := by kernel_rfl
theorem cells37 : Try.prog.cellsOf 37 = 2 := by kernel_rfl

theorem hi_of {x : Int} (w : (Lit.int .i64 x).wf = true) : x ≤ 9223372036854775807 := by
  simp [Lit.wf, IntKind.min, IntKind.max, IntKind.signed, IntKind.bits] at w; omega

set_option maxRecDepth 100000 in
theorem walk : LawWalk Try.prog 6 Try.f6 (fun _ _ => True) := by
  intro H enc W args base ds p hA hval hsz _
  rw [Try.params6] at hA hval
  obtain ⟨v0, vs0, d0, ds0, p0, q0, hargs, rfl, rfl, h0, r0⟩ := trodAll_cons hA
  obtain ⟨v1, vs1, d1, ds1, p1, q1, rfl, rfl, rfl, h1, r1⟩ := trodAll_cons r0
  obtain ⟨rfl, rfl, rfl⟩ := trodAll_nil r1
  obtain rfl : args = #[v0, v1] := by cases args; simp_all
  obtain ⟨c0, c1, y0, y1, m, rfl, rfl, rfl, hy0, hy1⟩ := open_agg2 Try.underlying37 (by kernel_rfl) cells37 (hval 0 37 v0 rfl rfl) h0
  obtain ⟨b, e0, rfl, wb⟩ := DataW.trod_int Try.underlying3 hy0
  obtain ⟨c, e1, rfl, wc⟩ := DataW.trod_int Try.underlying3 hy1
  simp only [List.cons.injEq, and_true] at e0 e1
  subst e0 e1
  obtain ⟨a1, rfl, rfl, rfl, w1⟩ := open_int Try.underlying3 (hval 1 3 v1 rfl rfl) h1
  obtain ⟨k, hk⟩ := PureBackoffCap.law b c a1 (hi_of w1)
  refine (PBackoffCap.klaxonlaw24_BackoffCap.calls k b c a1 true W hk).mono ?_
  rintro e w' ⟨rfl, hb⟩
  exact ⟨rfl, hb⟩

theorem spec (H : Type) (ds : List (DataW H)) (hl : ds.length = 2) : Rows.backoffCapSpec.fn H ds = { results := [.lit (.bool true)], args := ds } := by
  match ds, hl with
  | [_, _], _ => rfl
set_option maxRecDepth 100000 in
theorem lifted (os : Os) (started : os.Started) (H : Type) (enc : TypeId × Value → H) :
    ReturnsInHanded {} Try.checked os 6 .any (Rows.backoffCapSpec.pre6 enc Try.prog Try.f6 Rows.backoffCapRow.domain false) (Rows.backoffCapSpec.post enc Try.prog Try.f6 false true false false) :=
  law_lifted (C := Try.checked) (s := Rows.backoffCapSpec) (conds := Rows.backoffCapRow.domain) (tb := 4) own laidOut (by kernel_rfl) Try.func6 rfl (by kernel_rfl) Try.underlying4 (by kernel_rfl) spec walk os started H enc
    (ChangeSpec.witness6 (enc := enc) (C := Try.checked) false ⟨#[], #[.agg #[.int .i64 0, .int .i64 0], .int .i64 0], []⟩ 8 (by kernel_rfl) (by kernel_rfl) (by kernel_rfl) (by kernel_rfl))
theorem over : Rows.backoffCapRow.holds Try.pinned (OpenSpec.ofChange Rows.backoffCapSpec) :=
  OpenClaim.holds_of_wide 6 Try.f6 rfl rfl rfl rfl rfl rfl rfl ⟨rfl, rfl, rfl, rfl, rfl⟩ rfl rfl rfl rfl rfl (by kernel_rfl) Try.func6 (by kernel_rfl)
    (of_decide_eq_true (by kernel_rfl)) (by unfold Func.isWrapper; first | (rw [if_pos (by decide +kernel)]; kernel_rfl) | (rw [if_neg (by decide +kernel)]; exact ⟨rfl, rfl⟩))
    (fun os started H enc _ => lifted os started H enc)
end Go.Proofs.Ytocmciilifenhaa.RowBackoffCap
namespace Go.Proofs.Ytocmciilifenhaa
theorem backoffCap_holds : Rows.BackoffCapSaid := RowBackoffCap.over
#print axioms backoffCap_holds
end Go.Proofs.Ytocmciilifenhaa
