/- PushOne: any call with arguments that read as data returns true and leaves all as it was. No condition of its own. -/
import Derived.Test.YtocmciilifenhaaRows
import Derived.Test.YtocmciilifenhaaK16
import Derived.Test.YtocmciilifenhaaPushL
import Derived.Lib.SmallJoins
namespace Go.Proofs.Ytocmciilifenhaa.RowPushOne
open Go.ChangeShapes Go.WideShapes Go.ChangeAt Go.RowKit Go.Joins Go.Kx Go.Kx.Push Go.Deep Go.Proofs
theorem own : ownKnob Try.prog.godebug = none := by kernel_rfl
theorem laidOut : laidOutB Try.prog = true := by kernel_rfl
theorem cells57 : Try.prog.cellsOf 57 = 6 := by kernel_rfl
theorem cells3 : Try.prog.cellsOf 3 = 1 := by kernel_rfl
theorem cells4 : Try.prog.cellsOf 4 = 1 := by kernel_rfl
theorem cells9 : Try.prog.cellsOf 9 = 1 := by kernel_rfl
theorem list6 {l : List Value} (h : l.length = 6) : ∃ a b c d e f, l = [a, b, c, d, e, f] := by
  match l, h with
  | [a, b, c, d, e, f], _ => exact ⟨a, b, c, d, e, f, rfl⟩
theorem open57 {H : Type} {enc : TypeId × Value → H} {w : World} {base : Nat} {spare : Nat → Bool} {held : Bool} {n : Nat} {cs : List Value} {x : DataW H × List MemPlace} (h : DataW.trod enc Try.prog w base spare held n 57 cs = some x) : ∃ y : Opr, cs = y.cells := by
  obtain ⟨xs, n, _, _, hl, hlen, hf⟩ := DataW.trod_struct Try.underlying57 h
  rw [cells57] at hl
  obtain ⟨c0, c1, c2, c3, c4, c5, rfl⟩ := list6 hl
  obtain ⟨y0, g0⟩ := field_at hlen hf 0 3 0 rfl
  obtain ⟨y1, g1⟩ := field_at hlen hf 1 3 1 rfl
  obtain ⟨y2, g2⟩ := field_at hlen hf 2 9 2 rfl
  obtain ⟨y3, g3⟩ := field_at hlen hf 3 4 3 rfl
  obtain ⟨y4, g4⟩ := field_at hlen hf 4 3 4 rfl
  obtain ⟨y5, g5⟩ := field_at hlen hf 5 3 5 rfl
  simp only [cells9, cells3, cells4, List.drop_zero, List.drop_succ_cons, List.take_succ_cons, List.take_zero] at g0 g1 g2 g3 g4 g5
  obtain ⟨a0, e0, _⟩ := DataW.trod_int Try.underlying3 g0
  obtain ⟨a1, e1, _⟩ := DataW.trod_int Try.underlying3 g1
  obtain ⟨a2, e2, _⟩ := DataW.trod_string Try.underlying9 g2
  obtain ⟨a3, e3, _⟩ := DataW.trod_bool Try.underlying4 g3
  obtain ⟨a4, e4, _⟩ := DataW.trod_int Try.underlying3 g4
  obtain ⟨a5, e5, _⟩ := DataW.trod_int Try.underlying3 g5
  simp only [List.cons.injEq, and_true] at e0 e1 e2 e3 e4 e5
  subst e0 e1 e2 e3 e4 e5
  exact ⟨⟨a0, a1, a2, a3, a4, a5⟩, rfl⟩

set_option maxRecDepth 100000 in
theorem walk : LawWalk Try.prog 10 Try.f10 (fun _ _ => True) := by
  intro H enc W args base ds p hA hval hsz _
  rw [Try.params10] at hA hval
  obtain ⟨v0, vs0, d0, ds0, p0, q0, hargs, rfl, rfl, h0, r0⟩ := trodAll_cons hA
  obtain ⟨v1, vs1, d1, ds1, p1, q1, rfl, rfl, rfl, h1, r1⟩ := trodAll_cons r0
  obtain ⟨v2, vs2, d2, ds2, p2, q2, rfl, rfl, rfl, h2, r2⟩ := trodAll_cons r1
  obtain ⟨v3, vs3, d3, ds3, p3, q3, rfl, rfl, rfl, h3, r3⟩ := trodAll_cons r2
  obtain ⟨rfl, rfl, rfl⟩ := trodAll_nil r3
  obtain rfl : args = #[v0, v1, v2, v3] := by cases args; simp_all
  obtain ⟨st, rfl, rfl, rfl, w1⟩ := open_int Try.underlying3 (hval 1 3 v1 rfl rfl) h1
  obtain ⟨first, rfl⟩ := okWide_string Try.underlying9 (hval 2 9 v2 rfl rfl)
  obtain ⟨second, rfl⟩ := okWide_string Try.underlying9 (hval 3 9 v3 rfl rfl)
  obtain ⟨A0, len, cap, rfl⟩ := okWide_slice Try.underlying49 (hval 0 49 v0 rfl rfl)
  obtain ⟨fs, hs⟩ := h0
  obtain ⟨A, cap', os, hcs, hrd⟩ := rd_slice Opr.cells (fun _ => rfl) (by decide) Try.underlying49 cells57 (fun n cs x h => open57 h) hs
  injection hcs with hcs _
  injection hcs with e1 e2 e3
  subst e1 e2 e3
  exact law_of (one_ A0 os.length cap os st first second (heapOf W) ⟨rfl, hrd⟩) (.cons rfl (.cons rfl (.cons rfl (.cons rfl .nil)))) (fun e _ _ h => h.1)

theorem spec (H : Type) (ds : List (DataW H)) (hl : ds.length = 4) : Rows.pushOneSpec.fn H ds = { results := [.lit (.bool true)], args := ds } := by
  match ds, hl with
  | [_, _, _, _], _ => rfl
set_option maxRecDepth 100000 in
theorem lifted (os : Os) (started : os.Started) (H : Type) (enc : TypeId × Value → H) :
    ReturnsInHanded {} Try.checked os 10 .any (Rows.pushOneSpec.pre6 enc Try.prog Try.f10 Rows.pushOneRow.domain false) (Rows.pushOneSpec.post enc Try.prog Try.f10 false true false false) :=
  law_lifted (C := Try.checked) (s := Rows.pushOneSpec) (conds := Rows.pushOneRow.domain) (tb := 4) own laidOut (by kernel_rfl) Try.func10 rfl (by kernel_rfl) Try.underlying4 (by kernel_rfl) spec walk os started H enc
    (ChangeSpec.witness6 (enc := enc) (C := Try.checked) false ⟨#[], #[.slice none 0 0, .int .i64 0, .string ByteArray.empty, .string ByteArray.empty], []⟩ 8 (by kernel_rfl) (by kernel_rfl) (by kernel_rfl) (by kernel_rfl))
theorem over : Rows.pushOneRow.holds Try.pinned (OpenSpec.ofChange Rows.pushOneSpec) :=
  OpenClaim.holds_of_wide 10 Try.f10 rfl rfl rfl rfl rfl rfl rfl ⟨rfl, rfl, rfl, rfl, rfl⟩ rfl rfl rfl rfl rfl (by kernel_rfl) Try.func10 (by kernel_rfl)
    (of_decide_eq_true (by kernel_rfl)) (by unfold Func.isWrapper; first | (rw [if_pos (by decide +kernel)]; kernel_rfl) | (rw [if_neg (by decide +kernel)]; exact ⟨rfl, rfl⟩))
    (fun os started H enc _ => lifted os started H enc)
end Go.Proofs.Ytocmciilifenhaa.RowPushOne
namespace Go.Proofs.Ytocmciilifenhaa
theorem pushOne_holds : Rows.PushOneSaid := RowPushOne.over
#print axioms pushOne_holds
end Go.Proofs.Ytocmciilifenhaa
