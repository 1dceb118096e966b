/- StreamWants: any call with arguments that read as data returns true and leaves all as it was. No condition of its own. -/
import Derived.Test.YtocmciilifenhaaRows
import Derived.Test.YtocmciilifenhaaKLaw
import Derived.Test.YtocmciilifenhaaPureStreamWants
import Derived.Lib.SmallJoins
import Derived.Deep.Slices
namespace Go.Proofs.Ytocmciilifenhaa.RowStreamWants
open Go.ChangeShapes Go.WideShapes Go.ChangeAt Go.RowKit Go.Joins Go.Kx Go.Deep Go.Proofs.Ytocmciilifenhaa.PStreamWants Go.Proofs.YtocmciilifenhaaW.PrintWords
theorem own : ownKnob Try.prog.godebug = none := by kernel_rfl
theorem laidOut : laidOutB Try.prog = true := by kernel_rfl

theorem kd_slice {α : Type} (d : Kd α) {H : Type} {enc : TypeId × Value → H} {P : Program} {w : World} {t e : TypeId} (ht : P.underlying t = some (.slice e)) (hs : d.sz = P.cellsOf e)
    (hel : ∀ n cs x, DataW.trod enc P w 0 (fun _ => true) true n e cs = some x → ∃ y, d.K w y cs) {fuel : Nat} {cs : List Value} {x : DataW H × List MemPlace}
    (h : DataW.trod enc P w 0 (fun _ => true) true fuel t cs = some x) : ∃ (A : Option Addr) (c : Nat) (xs : List α), cs = [.slice A xs.length c] ∧ xs.length ≤ c ∧ d.C w A xs.length xs := by
  rcases open_slice ht h with ⟨rfl, _⟩ | ⟨a, len, cap, m, n, D, Pl, rfl, _, hl, hm, hmm, _, hx⟩
  · exact ⟨none, 0, [], rfl, Nat.le_refl _, rfl, by simp, fun h => absurd h (by simp)⟩
  · have hle : len ≤ m := by rw [hmm]; split <;> omega
    have hex : ∀ i, i < len → ∃ y, ∃ cs', w.cells? 0 (a.add (i * P.cellsOf e)) (P.cellsOf e) = some cs' ∧ d.K w y cs' := fun i hi => by
      obtain ⟨cs', h1, h2⟩ := hx i (by omega)
      obtain ⟨y, hy⟩ := hel _ _ _ h2
      exact ⟨y, cs', h1, hy⟩
    have hlist : ∀ k, k ≤ len → ∃ xs : List α, xs.length = k ∧ ∀ j p, xs[j]? = some p → ∃ cs', w.cells? 0 (a.add (j * P.cellsOf e)) (P.cellsOf e) = some cs' ∧ d.K w p cs' := by
      intro k
      induction k with
      | zero => exact fun _ => ⟨[], rfl, fun j p h => by simp at h⟩
      | succ k ih =>
        intro hk
        obtain ⟨xs, hl, hxs⟩ := ih (by omega)
        obtain ⟨y, hy⟩ := hex k (by omega)
        refine ⟨xs ++ [y], by simp [hl], fun j p hj => ?_⟩
        by_cases hjk : j < k
        · rw [List.getElem?_append_left (by omega)] at hj; exact hxs j p hj
        · have hjl := (List.getElem?_eq_some_iff.1 hj).1
          simp at hjl
          obtain rfl : j = k := by omega
          rw [List.getElem?_append_right (by omega), hl] at hj
          simp at hj; subst hj; exact hy
    obtain ⟨xs, hxl, hxs⟩ := hlist len (Nat.le_refl _)
    subst hxl
    refine ⟨some a, cap, xs, rfl, hl, rfl, by unfold maxLen at hm; omega, fun _ => ⟨a, rfl, fun j p hj => ?_⟩⟩
    obtain ⟨cs', h1, h2⟩ := hxs j p hj
    obtain ⟨_, hlen, hc⟩ := World.cells?_some h1
    refine ⟨cs', by rw [hlen, hs], h2, fun i u hi => ?_⟩
    have hil := (List.getElem?_eq_some_iff.1 hi).1
    rw [hs, ← Addr.add_add, hc i (by omega)]; exact hi

section
variable {H : Type} {enc : TypeId × Value → H} {P : Program} {w : World} {base : Nat} {spare : Nat → Bool} {held : Bool}
/-- The reading of a struct's field. -/
theorem field_at {fs : Array Field} {cs : List Value} {xs : List (DataW H × List MemPlace)} {n : Nat} (hl : xs.length = fs.size)
    (hf : ∀ (i : Nat) (f : Field), fs[i]? = some f → DataW.trod enc P w base spare held n f.type ((cs.drop f.offset).take (P.cellsOf f.type)) = xs[i]?) (i t off : Nat) (h : (fs[i]?).map (fun f => (f.type, f.offset)) = some (t, off)) :
    ∃ y, DataW.trod enc P w base spare held n t ((cs.drop off).take (P.cellsOf t)) = some y := by
  obtain ⟨f, hfi, he⟩ := Option.map_eq_some_iff.1 h
  have hi := (Array.getElem?_eq_some_iff.1 hfi).1
  injection he with e1 e2
  subst e1 e2
  exact ⟨xs[i], by rw [hf i f hfi, List.getElem?_eq_getElem (by omega)]⟩
end
theorem list3 {l : List Value} (h : l.length = 3) : ∃ a b c, l = [a, b, c] := by
  match l, h with
  | [a, b, c], _ => exact ⟨a, b, c, rfl⟩
theorem list9 {l : List Value} (h : l.length = 9) : ∃ a b c d e f g i j, l = [a, b, c, d, e, f, g, i, j] := by
  match l, h with
  | [a, b, c, d, e, f, g, i, j], _ => exact ⟨a, b, c, d, e, f, g, i, j, rfl⟩

theorem cells27 : Try.prog.cellsOf 27 = 3 := by kernel_rfl
theorem cells25 : Try.prog.cellsOf 25 = 9 := by kernel_rfl
theorem cells9 : Try.prog.cellsOf 9 = 1 := by kernel_rfl
theorem cells3 : Try.prog.cellsOf 3 = 1 := by kernel_rfl
theorem cells4 : Try.prog.cellsOf 4 = 1 := by kernel_rfl
theorem cells22 : Try.prog.cellsOf 22 = 1 := by kernel_rfl
theorem cells23 : Try.prog.cellsOf 23 = 1 := by kernel_rfl

section
variable {H : Type} {enc : TypeId × Value → H} {w : World} {base : Nat} {spare : Nat → Bool} {held : Bool}
theorem open27 {n : Nat} {cs : List Value} {x : DataW H × List MemPlace} (h : DataW.trod enc Try.prog w base spare held n 27 cs = some x) : ∃ y : S27, cs = [.string y.f0, .string y.f1, .string y.f2] := by
  obtain ⟨xs, n, _, _, hl, hlen, hf⟩ := DataW.trod_struct Try.underlying27 h
  rw [cells27] at hl
  obtain ⟨a, b, c, rfl⟩ := list3 hl
  obtain ⟨y0, h0⟩ := field_at hlen hf 0 9 0 rfl
  obtain ⟨y1, h1⟩ := field_at hlen hf 1 9 1 rfl
  obtain ⟨y2, h2⟩ := field_at hlen hf 2 9 2 rfl
  simp only [cells9, List.drop_zero, List.drop_succ_cons, List.take_succ_cons, List.take_zero] at h0 h1 h2
  obtain ⟨s0, e0, _⟩ := DataW.trod_string Try.underlying9 h0
  obtain ⟨s1, e1, _⟩ := DataW.trod_string Try.underlying9 h1
  obtain ⟨s2, e2, _⟩ := DataW.trod_string Try.underlying9 h2
  simp only [List.cons.injEq, and_true] at e0 e1 e2
  exact ⟨⟨s0, s1, s2⟩, by rw [e0, e1, e2]⟩
end

set_option maxRecDepth 100000 in
theorem walk : LawWalk Try.prog 3 Try.f3 (fun _ _ => True) := by
  intro H enc W args base ds p hA hval hsz _
  rw [Try.params3] at hA hval
  obtain ⟨v0, vs0, d0, ds0, p0, q0, hargs, rfl, rfl, h0, r0⟩ := trodAll_cons hA
  obtain ⟨v1, vs1, d1, ds1, p1, q1, rfl, rfl, rfl, h1, r1⟩ := trodAll_cons r0
  obtain ⟨v2, vs2, d2, ds2, p2, q2, rfl, rfl, rfl, h2, r2⟩ := trodAll_cons r1
  obtain ⟨rfl, rfl, rfl⟩ := trodAll_nil r2
  obtain rfl : args = #[v0, v1, v2] := by cases args; simp_all
  obtain ⟨kind, rfl, rfl, rfl, w1⟩ := open_int Try.underlying3 (hval 1 3 v1 rfl rfl) h1
  obtain ⟨cs, rfl, hcs⟩ := okWide_struct Try.underlying25 (hval 0 25 v0 rfl rfl)
  obtain ⟨cu, rfl, hcu⟩ := okWide_struct Try.underlying27 (hval 2 27 v2 rfl rfl)
  obtain ⟨fu, hu⟩ := h2
  obtain ⟨⟨x0, x1, x2⟩, hx⟩ := open27 (show DataW.trod enc Try.prog W 0 _ true fu 27 cu.toList = _ from hu)
  obtain rfl : cu = #[.string x0, .string x1, .string x2] := by cases cu; simpa using hx
  obtain ⟨fs, hs⟩ := h0
  obtain ⟨xs, n, _, _, hl, hlen, hf⟩ := DataW.trod_struct Try.underlying25 (show DataW.trod enc Try.prog W 0 _ true fs 25 cs.toList = _ from hs)
  rw [cells25] at hl
  obtain ⟨c0, c1, c2, c3, c4, c5, c6, c7, c8, hcl⟩ := list9 hl
  rw [hcl] at hf
  obtain ⟨y0, g0⟩ := field_at hlen hf 0 3 0 rfl
  obtain ⟨y1, g1⟩ := field_at hlen hf 1 9 1 rfl
  obtain ⟨y2, g2⟩ := field_at hlen hf 2 9 2 rfl
  obtain ⟨y3, g3⟩ := field_at hlen hf 3 9 3 rfl
  obtain ⟨y4, g4⟩ := field_at hlen hf 4 4 4 rfl
  obtain ⟨y5, g5⟩ := field_at hlen hf 5 22 5 rfl
  obtain ⟨y6, g6⟩ := field_at hlen hf 6 3 6 rfl
  obtain ⟨y7, g7⟩ := field_at hlen hf 7 4 7 rfl
  obtain ⟨y8, g8⟩ := field_at hlen hf 8 23 8 rfl
  clear hf hval hA hsz
  simp only [cells9, cells3, cells4, cells22, cells23, List.drop_zero, List.drop_succ_cons, List.take_succ_cons, List.take_zero] at g0 g1 g2 g3 g4 g5 g6 g7 g8
  obtain ⟨a0, e0, _⟩ := DataW.trod_int Try.underlying3 g0
  obtain ⟨a1, e1, _⟩ := DataW.trod_string Try.underlying9 g1
  obtain ⟨a2, e2, _⟩ := DataW.trod_string Try.underlying9 g2
  obtain ⟨a3, e3, _⟩ := DataW.trod_string Try.underlying9 g3
  obtain ⟨a4, e4, _⟩ := DataW.trod_bool Try.underlying4 g4
  obtain ⟨A5, n5, l5, e5, hc5, hr5⟩ := kd_slice (Kd.int .i64) Try.underlying22 cells3.symm (fun n cs x h => by obtain ⟨z, hz, _⟩ := DataW.trod_int Try.underlying3 h; exact ⟨z, hz⟩) g5
  obtain ⟨a6, e6, _⟩ := DataW.trod_int Try.underlying3 g6
  obtain ⟨a7, e7, _⟩ := DataW.trod_bool Try.underlying4 g7
  obtain ⟨A8, n8, l8, e8, hc8, hr8⟩ := kd_slice k27 Try.underlying23 cells27.symm (fun n cs x h => by obtain ⟨z, hz⟩ := open27 h; exact ⟨z, by rw [hz]; exact k27_mk W z⟩) g8
  simp only [List.cons.injEq, and_true] at e0 e1 e2 e3 e4 e5 e6 e7 e8
  subst e0 e1 e2 e3 e4 e5 e6 e7 e8
  obtain rfl : cs = #[.int .i64 a0, .string a1, .string a2, .string a3, .bool a4, .slice A5 l5.length n5, .int .i64 a6, .bool a7, .slice A8 l8.length n8] := by cases cs; simpa using hcl
  obtain ⟨k, hk⟩ := PureStreamWants.law a0 a1 a2 a3 a4 l5 a6 a7 l8 kind x0 x1 x2
  refine (klaxonlaw22_StreamWants.calls k a0 a1 a2 a3 a4 A5 n5 l5 a6 a7 A8 n8 l8 kind x0 x1 x2 true W hr5 hc5 hr8 hc8 hk).mono ?_
  rintro e w' ⟨rfl, hb⟩
  exact ⟨rfl, hb⟩

theorem spec (H : Type) (ds : List (DataW H)) (hl : ds.length = 3) : Rows.streamWantsSpec.fn H ds = { results := [.lit (.bool true)], args := ds } := by
  match ds, hl with
  | [_, _, _], _ => rfl
set_option maxRecDepth 100000 in
theorem lifted (os : Os) (started : os.Started) (H : Type) (enc : TypeId × Value → H) :
    ReturnsInHanded {} Try.checked os 3 .any (Rows.streamWantsSpec.pre6 enc Try.prog Try.f3 Rows.streamWantsRow.domain false) (Rows.streamWantsSpec.post enc Try.prog Try.f3 false true false false) :=
  law_lifted (C := Try.checked) (s := Rows.streamWantsSpec) (conds := Rows.streamWantsRow.domain) (tb := 4) own laidOut (by kernel_rfl) Try.func3 rfl (by kernel_rfl) Try.underlying4 (by kernel_rfl) spec walk os started H enc
    (ChangeSpec.witness6 (enc := enc) (C := Try.checked) false ⟨#[], #[.agg #[.int .i64 0, .string ByteArray.empty, .string ByteArray.empty, .string ByteArray.empty, .bool false, .slice none 0 0, .int .i64 0, .bool false, .slice none 0 0], .int .i64 0, .agg #[.string ByteArray.empty, .string ByteArray.empty, .string ByteArray.empty]], []⟩ 8 (by kernel_rfl) (by kernel_rfl) (by kernel_rfl) (by kernel_rfl))
theorem over : Rows.streamWantsRow.holds Try.pinned (OpenSpec.ofChange Rows.streamWantsSpec) :=
  OpenClaim.holds_of_wide 3 Try.f3 rfl rfl rfl rfl rfl rfl rfl ⟨rfl, rfl, rfl, rfl, rfl⟩ rfl rfl rfl rfl rfl (by kernel_rfl) Try.func3 (by kernel_rfl)
    (of_decide_eq_true (by kernel_rfl)) (by unfold Func.isWrapper; first | (rw [if_pos (by decide +kernel)]; kernel_rfl) | (rw [if_neg (by decide +kernel)]; exact ⟨rfl, rfl⟩))
    (fun os started H enc _ => lifted os started H enc)
end Go.Proofs.Ytocmciilifenhaa.RowStreamWants
namespace Go.Proofs.Ytocmciilifenhaa
theorem streamWants_holds : Rows.StreamWantsSaid := RowStreamWants.over
#print axioms streamWants_holds
end Go.Proofs.Ytocmciilifenhaa
