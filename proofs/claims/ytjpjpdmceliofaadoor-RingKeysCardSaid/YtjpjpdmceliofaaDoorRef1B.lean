/- The reference's SHA-256: a block's numbers. No condition of its own. -/
import Derived.Test.YtjpjpdmceliofaaDoorRef1A
import Derived.Test.YtjpjpdmceliofaaDoorShaF
namespace Go.Kx.Sha
open Go.Proofs Go.Kx
set_option maxRecDepth 20000
namespace Ref1

def iCells (l : List (BitVec 32)) : List Value := l.map iW
theorem iget {bs : List UInt8} {t i off : Nat} (hi : i < t) (ho : off = i) : (iCells (schedN bs t))[off]? = some (iW ((schedN bs t).getD i 0)) := by
  subst ho
  have hl := schedN_length bs t
  unfold iCells
  rw [List.getElem?_map, List.getElem?_eq_getElem (by omega), List.getD_eq_getElem?_getD, List.getElem?_eq_getElem (by omega)]
  rfl
theorem iRow_succ {bs : List UInt8} {t n : Nat} {w : BitVec 32} (hw : schedN bs (t + 1) = schedN bs t ++ [w]) (hn : n = t + 1) : SB.row 3 1 n (iCells (schedN bs t) ++ [iW w]) = SB.row 3 1 (t + 1) (iCells (schedN bs (t + 1))) := by
  subst hn
  rw [hw]
  unfold iCells
  rw [List.map_append]
  rfl
def SI1 (bs : List UInt8) (a : Addr) (cap : Nat) (H : Hp) (m : Nat) (F : Fr) (H2 : Hp) (G : List SB) : Prop :=
  ∃ t : Nat, t ≤ 16 ∧ m = 16 - t ∧ F = [(0, pv (.slice (some a) 64 cap)), (3, .si (.ce (.self 0))), (4, pv (.int .i64 t))] ∧ H.Le H2 ∧ G = [.row 3 1 t (iCells (schedN bs t))]
def SI2 (bs : List UInt8) (H : Hp) (m : Nat) (F : Fr) (H2 : Hp) (G : List SB) : Prop :=
  ∃ t : Nat, 16 ≤ t ∧ t ≤ 64 ∧ m = 64 - t ∧ F = [(3, .si (.ce (.self 0))), (5, pv (.int .i64 t))] ∧ H.Le H2 ∧ G = [.row 3 1 t (iCells (schedN bs t))]
theorem schedule (bs : List UInt8) (a : Addr) (cap : Nat) (H : Hp) (hb : BytesAt H (some a) 64 bs) : CallO Tryd.prog 93 [pv (.slice (some a) 64 cap)] H [] fun e _ G' =>
    e = .ret (.si (.ce (.self 0))) ∧ G' = [.row 3 1 64 (iCells (schedN bs 64))] := by
  refine CallO.of_body tab Tryd.func93 rfl (nt := Tryd.f93.ntmps) rfl (by kernel_rfl) ?_
  conv => whnf
  refine WS.nilRow 3 3 1 rfl ?_
  conv => whnf
  refine WS.loop (SI1 bs a cap H) 17 ?_ ?_
  · refine ⟨16, by omega, _, _, [0], ⟨0, by omega, rfl, rfl, .refl _, rfl⟩, ?_⟩
    exact ⟨rfl, ⟨rfl, trivial⟩, rfl, rfl, rfl, trivial⟩
  rintro m F H2 G hle ⟨t, h2, rfl, rfl, hle2, rfl⟩
  refine codeL.go tab ?_
  conv => whnf
  refine br.of (fun h1 => ?_) (fun h1 => ?_) <;> conv => whnf
  · simp only [decide_eq_true_eq] at h1
    rw [wrap64 (x := 4 * (t : Int)) (by omega) (by omega), show 4 * (t : Int) = ((4 * t : Nat) : Int) by omega]
    refine ⟨⟨_, Tryd.func119, rfl, by kernel_rfl⟩, CallS.use (word_ t 64 bs a cap (by omega) H2 (hb.mono hle2) (by omega)) [] rfl rfl trivial ?_⟩
    rintro e H3 G' hle3 ⟨rfl, rfl, rfl⟩
    conv => whnf
    refine ⟨by decide, .inl ?_⟩
    intro g H4 hle4 hrd
    conv => whnf
    refine ⟨_, rfl, hrd, one_int _ _, ?_⟩
    conv => whnf
    refine ⟨by show _ * 9 ≤ _; omega, ?_⟩
    conv => whnf
    rw [wrap64 (x := (t : Int) + 1) (by omega) (by omega)]
    refine ⟨16 - (t + 1), by omega, _, _, [1], ⟨t + 1, by omega, rfl, rfl, hle2.trans hle4, rfl⟩, ?_⟩
    refine ⟨rfl, ⟨?_, trivial⟩, rfl, rfl, rfl, trivial⟩
    refine iRow_succ (w := word bs t) ?_ rfl
    show schedN bs t ++ [if t < 16 then _ else _] = _
    rw [if_pos (by omega)]
  · simp only [decide_eq_false_iff_not] at h1
    obtain rfl : t = 16 := by omega
    refine WS.loop (SI2 bs H) 49 ?_ ?_
    · refine ⟨48, by omega, _, _, [0], ⟨16, by omega, by omega, rfl, rfl, hle2, rfl⟩, ?_⟩
      exact ⟨rfl, ⟨rfl, trivial⟩, rfl, rfl, trivial⟩
    rintro m F H3 G hle3 ⟨t, h2, h3, rfl, rfl, hle4, rfl⟩
    refine codeL.go tab ?_
    conv => whnf
    refine br.of (fun h1 => ?_) (fun h1 => ?_) <;> conv => whnf
    · simp only [decide_eq_true_eq] at h1
      have q15 : IntKind.i64.wrap ((t : Int) - 15) = ((t - 15 : Nat) : Int) := by rw [wrap64 (by omega) (by omega)]; omega
      have q2 : IntKind.i64.wrap ((t : Int) - 2) = ((t - 2 : Nat) : Int) := by rw [wrap64 (by omega) (by omega)]; omega
      have q7 : IntKind.i64.wrap ((t : Int) - 7) = ((t - 7 : Nat) : Int) := by rw [wrap64 (by omega) (by omega)]; omega
      have q16 : IntKind.i64.wrap ((t : Int) - 16) = ((t - 16 : Nat) : Int) := by rw [wrap64 (by omega) (by omega)]; omega
      rw [q15]
      refine ⟨⟨by omega, by omega⟩, ?_⟩
      conv => whnf
      refine ⟨_, iget (i := t - 15) (by omega) (by simp), ?_⟩
      conv => whnf
      rw [q2]
      refine ⟨⟨by omega, by omega⟩, ?_⟩
      conv => whnf
      refine ⟨_, iget (i := t - 2) (by omega) (by simp), ?_⟩
      conv => whnf
      generalize hx2 : (schedN bs t).getD (t - 2) 0 = x2
      generalize hx15 : (schedN bs t).getD (t - 15) 0 = x15
      refine ⟨⟨_, Tryd.func95, rfl, by kernel_rfl⟩, CallS.use (turn x15 7 (by decide) (by decide) _) [] rfl rfl trivial ?_⟩
      rintro e H4 G' hle5 ⟨rfl, rfl, rfl⟩
      conv => whnf
      refine ⟨⟨_, Tryd.func95, rfl, by kernel_rfl⟩, CallS.use (turn x15 18 (by decide) (by decide) _) [] rfl rfl trivial ?_⟩
      rintro e H5 G' hle6 ⟨rfl, rfl, rfl⟩
      conv => whnf
      refine ⟨by decide, ?_⟩
      conv => whnf
      refine ⟨⟨_, Tryd.func95, rfl, by kernel_rfl⟩, CallS.use (turn x2 17 (by decide) (by decide) _) [] rfl rfl trivial ?_⟩
      rintro e H6 G' hle7 ⟨rfl, rfl, rfl⟩
      conv => whnf
      refine ⟨⟨_, Tryd.func95, rfl, by kernel_rfl⟩, CallS.use (turn x2 19 (by decide) (by decide) _) [] rfl rfl trivial ?_⟩
      rintro e H7 G' hle8 ⟨rfl, rfl, rfl⟩
      conv => whnf
      refine ⟨by decide, ?_⟩
      rw [i_xor, i_shr _ 3 8 rfl, i_xor, i_xor, i_shr _ 10 1024 rfl]
      conv => whnf
      rw [i_xor]
      refine WS.draw tab mixed (.take 0 (.take 1 (.take 2 (.take 3 (.take 4 (.take 8 (.take 10 (.take 11 (.take 12 (.alt 5 (.alt 6 (.take 7 (.take 9 (.alt 13 (.alt 14 (.take 15 (.alt 16 (.alt 17 (.alt 18 (.take 19 .done) .no) .no) .no)) .no) .no))) (.alt 13 (.alt 6 (.take 7 (.take 9 (.alt 14 (.take 15 (.alt 16 (.alt 17 (.alt 18 (.take 19 .done) .no) .no) .no)) .no))) (.alt 14 (.alt 6 (.take 7 (.take 9 (.take 15 (.alt 16 (.alt 17 (.alt 18 (.take 19 .done) .no) .no) .no)))) .no) .no)) .no)) (.alt 13 (.alt 5 (.alt 6 (.take 7 (.take 9 (.alt 14 (.take 15 (.alt 16 (.alt 17 (.alt 18 (.take 19 .done) .no) .no) .no)) .no))) (.alt 14 (.alt 6 (.take 7 (.take 9 (.take 15 (.alt 16 (.alt 17 (.alt 18 (.take 19 .done) .no) .no) .no)))) .no) .no)) (.alt 14 (.alt 5 (.alt 6 (.take 7 (.take 9 (.take 15 (.alt 16 (.alt 17 (.alt 18 (.take 19 .done) .no) .no) .no)))) .no) .no) .no)) .no))))))))))) (by kernel_rfl) [0] ?_
      have i7 : 0 ≤ IntKind.i64.wrap ((t : Int) - 7) ∧ IntKind.i64.wrap ((t : Int) - 7) < (t : Int) := by rw [q7]; omega
      have i16 : 0 ≤ IntKind.i64.wrap ((t : Int) - 16) ∧ IntKind.i64.wrap ((t : Int) - 16) < (t : Int) := by rw [q16]; omega
      generalize hw7 : (schedN bs t).getD (t - 7) 0 = x7
      generalize hw16 : (schedN bs t).getD (t - 16) 0 = x16
      have l7 : ∀ off, off = t - 7 → (iCells (schedN bs t))[off]? = some (iW x7) := fun off ho => by rw [← hw7]; exact iget (by omega) ho
      have l16 : ∀ off, off = t - 16 → (iCells (schedN bs t))[off]? = some (iW x16) := fun off ho => by rw [← hw16]; exact iget (by omega) ho
      have hw : schedN bs (t + 1) = schedN bs t ++ [sg1 x2 + x7 + sg0 x15 + x16] := by
        show schedN bs t ++ [if t < 16 then _ else _] = _
        rw [if_neg (by omega), hx2, hw7, hx15, hw16]
      conv => whnf
      repeat' (first
        | exact trivial
        | exact rfl
        | exact ⟨_, Tryd.func94, rfl, by kernel_rfl⟩
        | (refine ⟨i7, ?_⟩; conv => whnf)
        | (refine ⟨i16, ?_⟩; conv => whnf)
        | (refine ⟨_, l7 _ (by rw [q7]; simp), ?_⟩; conv => whnf)
        | (refine ⟨_, l16 _ (by rw [q16]; simp), ?_⟩; conv => whnf)
        | (refine CallS.use (top4 (sg1 x2) x7 (sg0 x15) x16 _) [] rfl rfl trivial ?_; rintro e H8 G' hle9 ⟨rfl, rfl, rfl⟩; conv => whnf)
        | (refine ⟨by decide, .inl ?_⟩; intro g H9 hle10 hrd; conv => whnf)
        | (refine ⟨_, rfl, hrd, one_int _ _, ?_⟩; conv => whnf)
        | (refine ⟨by show _ * 9 ≤ _; omega, ?_⟩; conv => whnf)
        | (rw [wrap64 (x := (t : Int) + 1) (by omega) (by omega)]
           refine ⟨64 - (t + 1), by omega, _, _, [1], ⟨t + 1, by omega, by omega, rfl, rfl, hle4.trans hle10, rfl⟩, ?_⟩
           refine ⟨rfl, ⟨?_, trivial⟩, rfl, rfl, trivial⟩
           exact iRow_succ hw rfl)
        | (refine And.intro ?_ ?_ <;> conv => whnf))
    · simp only [decide_eq_false_iff_not] at h1
      obtain rfl : t = 64 := by omega
      exact ⟨rfl, rfl⟩
end Ref1
end Go.Kx.Sha
