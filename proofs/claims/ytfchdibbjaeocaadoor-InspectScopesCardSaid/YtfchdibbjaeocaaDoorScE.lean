/- Scope texts: the library's Trim and Split, and the program's names. No condition of its own. -/
import Derived.Test.YtfchdibbjaeocaaDoorScD
import Derived.Test.YtfchdibbjaeocaaDoorScL
import Derived.Shelf.Strings.SlTrimAscii
import Derived.Shelf.Strings.Split
namespace Go.Kx.Sco
open Go.Proofs Go.Kx Go.RowKit Go.Sort
set_option maxRecDepth 20000
set_option linter.unusedSimpArgs false
namespace Pg
def T : Tab := [(74, { k := TK.st [(0, 72, 1), (1, 22, 1)], agg := true, size := 2, bytes := 32, zero := [Z.p, Z.sl] }), (5, { k := TK.int IntKind.u8, agg := false, size := 1, bytes := 1, zero := [Z.i IntKind.u8] }), (9, { k := TK.string, agg := false, size := 1, bytes := 16, zero := [Z.s] }), (4, { k := TK.bool, agg := false, size := 1, bytes := 1, zero := [Z.b] }), (3, { k := TK.int IntKind.i64, agg := false, size := 1, bytes := 8, zero := [Z.i IntKind.i64] }), (29, { k := TK.slice 9, agg := false, size := 1, bytes := 24, zero := [Z.sl] }), (25, { k := TK.int IntKind.i64, agg := false, size := 1, bytes := 8, zero := [Z.i IntKind.i64] }), (44, { k := TK.func, agg := false, size := 1, bytes := 8, zero := [Z.fn] }), (20, { k := TK.ifc, agg := false, size := 1, bytes := 16, zero := [Z.ifc] }), (72, { k := TK.ptr 74, agg := false, size := 1, bytes := 8, zero := [Z.p] }), (22, { k := TK.slice 5, agg := false, size := 1, bytes := 24, zero := [Z.sl] })]
set_option maxRecDepth 100000 in
theorem tab : TabOk Tryd.prog T := tabOk_mk (ts := [74, 5, 9, 4, 3, 29, 25, 44, 20, 72, 22]) (by kernel_rfl)
def setL : List UInt8 := [65, 66, 67, 68, 69, 70, 71, 72, 73, 74, 75, 76, 77, 78, 79, 80, 81, 82, 83, 84, 85, 86, 87, 88, 89, 90, 97, 98, 99, 100, 101, 102, 103, 104, 105, 106, 107, 108, 109, 110, 111, 112, 113, 114, 115, 116, 117, 118, 119, 120, 121, 122, 48, 49, 50, 51, 52, 53, 54, 55, 56, 57, 45, 46, 95]
theorem setL_is (c : UInt8) : setL.contains c = RefN.isNm c := by
  have h : ∀ n : Fin 256, setL.contains (UInt8.ofNat n.val) = RefN.isNm (UInt8.ofNat n.val) := by decide +kernel
  have h1 := h ⟨c.toNat, c.toNat_lt⟩
  simpa using h1
theorem dw_nil {p : UInt8 → Bool} : ∀ {l : List UInt8}, l.dropWhile p = [] ↔ ∀ x ∈ l, p x = true
  | [] => by simp
  | a :: r => by
    rw [List.dropWhile_cons]
    cases h : p a with
    | true => simp only [if_true, List.mem_cons, forall_eq_or_imp, h, true_and]; exact dw_nil
    | false => simp [h]
theorem trimS_nil (l : List UInt8) : (Lib.trimS l setL = []) ↔ l.all RefN.isNm = true := by
  have hp : ∀ x, (setL.contains x = true) ↔ RefN.isNm x = true := fun x => by rw [setL_is]
  unfold Lib.trimS Lib.trimLeftS Lib.trimRightS
  rw [dw_nil, List.all_eq_true]
  constructor
  · intro h
    have hn : l.reverse.dropWhile (setL.contains ·) = [] := by
      cases hd : l.reverse.dropWhile (setL.contains ·) with
      | nil => rfl
      | cons a r =>
        have h1 := List.head?_dropWhile_not (setL.contains ·) l.reverse
        rw [hd] at h1 h
        have h2 := h a (by simp)
        simp only [List.head?_cons] at h1
        rw [h2] at h1
        cases h1
    rw [dw_nil] at hn
    exact fun x hx => (hp x).1 (hn x (by simpa using hx))
  · intro h x hx
    have : x ∈ l := by
      have h1 := List.mem_reverse.1 hx
      have h2 := (List.dropWhile_sublist _).mem h1
      simpa using h2
    exact (hp x).2 (h x this)
theorem trim_ (s : ByteArray) (hs : s.size ≤ 1000000) (H : Hp) : CallO Tryd.prog 43 [pv (.string s), pv (.string ⟨setL.toArray⟩)] H [] fun e H' G' => e = .ret (pv (.string ⟨(Lib.trimS s.data.toList setL).toArray⟩)) ∧ H' = H ∧ G' = [] := by
  refine (CallO.of_calls (P := Tryd.prog) (args := [.string s, .string ⟨setL.toArray⟩]) (R := fun v => v = .string ⟨(Lib.trimS s.data.toList setL).toArray⟩) fun w _ _ => (Any.strings_Trim_laid Tryd.laysTrim (by kernel_rfl) s ⟨setL.toArray⟩ w (by omega) (by decide) (ascii_of_all (by decide))).mono ?_).mono ?_
  · rintro e w' ⟨rfl, hb⟩
    exact ⟨_, rfl, rfl, hb.os, hb.tape, hb.output, hb.size, fun k hk _ => hb.block k hk⟩
  · rintro e H' G' hle ⟨v, rfl, rfl, rfl, rfl⟩
    exact ⟨rfl, rfl, rfl⟩
theorem name_ (s : ByteArray) (hs : s.size ≤ 1000000) (H : Hp) : CallO Tryd.prog 30 [pv (.string s)] H [] fun e H' G' => e = .ret (pv (.bool (RefN.isName s))) ∧ H' = H ∧ G' = [] := by
  have hst := trimS_nil s.data.toList
  have hsl : s.data.toList.length = s.size := by rw [Array.length_toList]; rfl
  refine CallO.of_body tab Tryd.func30 rfl (nt := Tryd.f30.ntmps) rfl (by kernel_rfl) ?_
  (conv => whnf)
  refine br.of (fun h1 => ?_) (fun h1 => ?_) <;> (conv => whnf)
  · simp only [Bool.not_eq_true', strEq_false] at h1
    have h0 : 1 ≤ s.size := by
      rcases Nat.eq_zero_or_pos s.size with h | h
      · refine absurd ?_ h1
        have : s.data.toList = [] := List.eq_nil_of_length_eq_zero (by omega)
        have h3 : s.data = #[] := Array.toList_inj.1 this
        cases s; simpa using h3
      · exact h
    refine br.of (fun h2 => ?_) (fun h2 => ?_) <;> (conv => whnf)
    · have h2 := of_decide_eq_true h2
      refine ⟨⟨_, Tryd.func43, rfl, by kernel_rfl⟩, CallS.use (trim_ s hs H) [] rfl rfl trivial ?_⟩
      rintro e H1 G' hle1 ⟨rfl, rfl, rfl⟩
      (conv => whnf)
      refine ⟨congrArg (fun b => SE.ret (pv (.bool b))) ?_, rfl, rfl⟩
      rw [Bool.eq_iff_iff]
      have hx : strEq ⟨(Lib.trimS s.data.toList setL).toArray⟩ ⟨#[]⟩ = true ↔ s.data.toList.all RefN.isNm = true := by
        rw [strEq_iff, ← hst]
        constructor
        · intro h; have := congrArg (fun b : ByteArray => b.data.toList) h; simpa using this
        · intro h; rw [h]
      refine Iff.trans hx ?_
      unfold RefN.isName
      simp only [Bool.and_eq_true, decide_eq_true_eq]
      constructor
      · intro h; exact ⟨h, h0, by omega⟩
      · intro h; exact h.1
    · have h2 := of_decide_eq_false h2
      refine ⟨congrArg (fun b => SE.ret (pv (.bool b))) ?_, rfl, rfl⟩
      unfold RefN.isName
      rw [decide_eq_false (show ¬ s.size ≤ 40 by omega), Bool.and_false, Bool.and_false]
  · simp only [Bool.not_eq_false', strEq_iff] at h1
    subst h1
    exact ⟨rfl, rfl, rfl⟩
end Pg
end Go.Kx.Sco
