/- A builder of texts (a program without WriteByte): writing, its text. No condition of its own. -/
import Derived.Test.YtfchdibbjaeocaaDoorBuA
namespace Go.Kx.Bu
open Go.Proofs Go.Kx Go.RowKit
set_option maxRecDepth 20000
def T : Tab := [(74, { k := TK.st [(0, 72, 1), (1, 22, 1)], agg := true, size := 2, bytes := 32, zero := [Z.p, Z.sl] }), (5, { k := TK.int IntKind.u8, agg := false, size := 1, bytes := 1, zero := [Z.i IntKind.u8] }), (72, { k := TK.ptr 74, agg := false, size := 1, bytes := 8, zero := [Z.p] }), (9, { k := TK.string, agg := false, size := 1, bytes := 16, zero := [Z.s] }), (3, { k := TK.int IntKind.i64, agg := false, size := 1, bytes := 8, zero := [Z.i IntKind.i64] }), (61, { k := TK.ifc, agg := false, size := 1, bytes := 16, zero := [Z.ifc] }), (22, { k := TK.slice 5, agg := false, size := 1, bytes := 24, zero := [Z.sl] }), (102, { k := TK.ptr 5, agg := false, size := 1, bytes := 8, zero := [Z.p] })]
set_option maxRecDepth 100000 in
theorem tab : TabOk Tryd.prog T := tabOk_mk (ts := [74, 5, 72, 9, 3, 61, 22, 102]) (by kernel_rfl)
theorem mixed : Tryd.prog.follows .mixedOrders = true := by kernel_rfl
abbrev me : SV := .si (.ce (.ptr 0 0))
def bX : Bool → SC
  | true => .ptr 0 0
  | false => .val (.pointer none)
/-- A builder, written or not; its bytes are block 1. -/
def bB (w : Bool) (c : SC) : SB := .box 74 [bX w, c]
def rB (bs : List UInt8) : SB := .row 5 1 bs.length (bCells bs)
theorem copyCheck_ (b : Bool) (bs : List UInt8) (H : Hp) : CallO Tryd.prog 77 [me] H [bB b (.self 1), rB bs] fun e H' G' => e = .ret (.tu []) ∧ H' = H ∧ G' = [bB true (.self 1), rB bs] := by
  intro w0 M hgd H0 ρ w vs hs hv
  have hl : ρ.length = 2 := hs.len
  obtain ⟨r0, r1, rfl⟩ : ∃ r0 r1, ρ = [r0, r1] := by
    match ρ, hl with
    | [a, b], _ => exact ⟨a, b, rfl⟩
  obtain ⟨g, ys, rfl, hg, hys⟩ := hs.ok 0 _ r0 rfl rfl
  obtain ⟨y0, y1, rfl, h0, h1⟩ : ∃ y0 y1, ys = [y0, y1] ∧ (bX b).Is [.pointer (some ⟨g, 0, none⟩), r1] y0 ∧ (SC.self 1).Is [.pointer (some ⟨g, 0, none⟩), r1] y1 := by
    cases hys with | cons a b => cases b with | cons c d => cases d; exact ⟨_, _, rfl, a, c⟩
  obtain rfl : vs = [.pointer (some ⟨g, 0, none⟩)] := by
    cases hv with | cons a b =>
      cases b
      obtain ⟨r, hr, hp⟩ := a
      have hr : Value.pointer (some ⟨g, 0, none⟩) = r := Option.some.inj hr
      subst hr
      have hp : Value.pointer (some ⟨g, 0, none⟩) = _ := Option.some.inj hp
      rw [← hp]
  cases b with
  | true =>
    obtain ⟨r, hr, hp⟩ := h0
    have hr : Value.pointer (some ⟨g, 0, none⟩) = r := Option.some.inj hr
    subst hr
    have hp : Value.pointer (some ⟨g, 0, none⟩) = y0 := Option.some.inj hp
    subst hp
    refine (cc_used g w (by simp [World.cell?, hg])).mono fun e w' ⟨he, hw⟩ => ?_
    subst he hw
    exact ⟨.tu [], _, H, _, hs, .refl _, ⟨[], rfl, .nil⟩, .refl _, rfl, rfl, rfl⟩
  | false =>
    obtain rfl : y0 = .pointer none := h0
    refine (cc_fresh g w (by simp [World.cell?, hg]) (by simp [World.shape?, hg]) (by simp [World.frozen?, hg])).mono fun e w' ⟨he, hw⟩ => ?_
    subst he hw
    have hh : (w.setCell ⟨g, 0, none⟩ (.pointer (some ⟨g, 0, none⟩))).heap[g]? = some (.cells #[.pointer (some ⟨g, 0, none⟩), y1] 74 (0, 0)) := by
      unfold World.setCell
      simp only [Array.getElem?_modify, if_true, hg]; rfl
    have hn : ∀ j, j ≠ g → (w.setCell ⟨g, 0, none⟩ (.pointer (some ⟨g, 0, none⟩))).heap[j]? = w.heap[j]? := fun j hj => by
      unfold World.setCell
      simp only [Array.getElem?_modify]
      rw [if_neg (by omega)]
    have hsz : (w.setCell ⟨g, 0, none⟩ (.pointer (some ⟨g, 0, none⟩))).heap.size = w.heap.size := by unfold World.setCell; simp
    have hs2 := hs.turn (k := 0) (s' := bB true (.self 1)) rfl rfl (g := g) rfl (w' := w.setCell ⟨g, 0, none⟩ (.pointer (some ⟨g, 0, none⟩))) rfl rfl rfl (Nat.le_of_eq hsz.symm) (fun j _ hne => hn j hne) ⟨g, [.pointer (some ⟨g, 0, none⟩), y1], rfl, hh, .cons ⟨_, rfl, rfl⟩ (.cons h1 .nil)⟩ (.inl rfl)
    exact ⟨.tu [], _, H, _, hs2, .refl _, ⟨[], rfl, .nil⟩, .refl _, rfl, rfl, rfl⟩
theorem byteCells_eq (s : ByteArray) : byteCells s = bCells s.data.toList := by rw [byteCells_map]; unfold bCells; rw [List.map_map]; rfl
theorem writeString (b : Bool) (bs : List UInt8) (s : ByteArray) (hn : bs.length ≤ 10000000) (hs : s.size ≤ 10000000) (H : Hp) : CallO Tryd.prog 47 [me, pv (.string s)] H [bB b (.self 1), rB bs] fun e H' G' => e = .ret (.tu [.ce (.val (.int .i64 s.size)), .ce (.val .nilIface)]) ∧ H.Le H' ∧ G' = [bB true (.self 2), .dead, rB (bs ++ s.data.toList)] := by
  refine CallO.of_body tab Tryd.func47 rfl (nt := Tryd.f47.ntmps) rfl (by kernel_rfl) ?_
  cases b
  all_goals
    (conv => whnf)
    first
      | refine ⟨⟨_, Tryd.func77, rfl, by kernel_rfl⟩, CallS.use (copyCheck_ true bs H) [0, 1] rfl rfl ⟨rfl, rfl, trivial⟩ ?_⟩
      | refine ⟨⟨_, Tryd.func77, rfl, by kernel_rfl⟩, CallS.use (copyCheck_ false bs H) [0, 1] rfl rfl ⟨rfl, rfl, trivial⟩ ?_⟩
    rintro e H2 G' hle ⟨rfl, rfl, rfl⟩
    (conv => whnf)
    refine ⟨by show _ * 2 ≤ _; omega, ?_⟩
    (conv => whnf)
    refine ⟨rfl, .refl _, ?_⟩
    rw [byteCells_eq, bCells_append]
    show [_, _, SB.row _ 1 _ _] = [_, _, SB.row _ 1 _ _]
    rw [List.length_append, Array.length_toList]; rfl
theorem strSize (bs : List UInt8) : (strOf bs).size = bs.length := by show bs.toArray.size = _; rw [List.size_toArray]
theorem string_ (b : Bool) (bs : List UInt8) (hn : bs.length ≤ 10000000) (H : Hp) : CallO Tryd.prog 48 [me] H [bB b (.self 1), rB bs] fun e H' G' => H' = H ∧ e = .ret (pv (.string ⟨bs.toArray⟩)) ∧ (G' = [bB b (.self 1), .dead] ∨ G' = [bB b (.self 1), rB bs]) := by
  refine CallO.of_body tab Tryd.func48 rfl (nt := Tryd.f48.ntmps) rfl (by kernel_rfl) ?_
  cases b
  all_goals
    (conv => whnf)
    refine WS.draw tab mixed (.take 0 (.take 1 (.take 2 (.take 3 (.take 5 (.take 6 (.take 7 (.take 8 (.alt 4 (.alt 9 (.alt 10 (.take 11 .done) .no) .no) (.alt 9 (.alt 4 (.alt 10 (.take 11 .done) .no) .no) .no)))))))))) (by kernel_rfl) [1] ?_
    (conv => whnf)
    repeat' (first
      | exact trivial
      | exact rfl
      | exact .inl rfl
      | exact .inr rfl
      | (have hb0 : bs = [] := List.eq_nil_of_length_eq_zero (by omega)
         subst hb0
         rfl)
      | (refine ⟨strOf bs, cells_str bs, by rw [strSize], by rw [strSize]; omega, ?_⟩; (conv => whnf))
      | (intro A; (conv => whnf))
      | (exfalso; omega)
      | (refine And.intro (fun h => ?_) (fun h => ?_) <;> (conv => whnf))
      | (refine And.intro ?_ ?_ <;> (conv => whnf)))
end Go.Kx.Bu
