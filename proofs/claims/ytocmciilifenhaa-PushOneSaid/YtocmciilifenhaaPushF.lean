/- The document's steps. No condition of its own. -/
import Derived.Test.YtocmciilifenhaaPushE
import Derived.Test.YtocmciilifenhaaK15
namespace Go.Kx.Push
open Go.Proofs Go.Kx
set_option maxRecDepth 20000

def putL (ls : List Ln) (x : Ln) : List Ln := ls.filter (fun y => decide (y.1 ≠ x.1)) ++ [x]
theorem lsV_length (ls : List Ln) : (lsV ls).length = ls.length * 4 := by
  induction ls with
  | nil => rfl
  | cons y r ih => simp only [lsV, List.flatMap_cons, List.length_append, List.length_cons] at *; rw [ih]; show 4 + _ = _; omega
theorem lsV_append (a b : List Ln) : lsV (a ++ b) = lsV a ++ lsV b := by simp [lsV]
theorem lnV_one (x : Ln) : ∀ u ∈ lnV x, u.oneCell' = true := by
  intro u hu
  simp only [lnV, List.mem_cons, List.not_mem_nil, or_false] at hu
  rcases hu with rfl | rfl | rfl | rfl <;> rfl
/-- A line put, its row still its own. -/
theorem put0 (b c : Int) (A : Option Addr) (len cap : Nat) (ls : List Ln) (x : Ln) (H : Hp) (hm : MOk H A len ls) (hl : len ≤ 1000000) : CallO Try.prog 45 [mV b c A len cap, .si (.ag ((lnV x).map .val))] H [] fun e _ G' =>
    ∃ k, e = .ret (.si (.ag [.val (.int .i64 b), .val (.int .i64 c), .self k])) ∧ G'[k]? = some (.row 61 4 (putL ls x).length (lsV (putL ls x))) := by
  obtain ⟨x0, x1, x2, x3⟩ := x
  refine CallO.of_body tab Try.func45 rfl (nt := Try.f45.ntmps) rfl (by kernel_rfl) ?_
  conv => whnf
  refine WS.nilRow 5 61 4 rfl ?_
  conv => whnf
  refine WS.loop (fun m F H2 G => ∃ i : Nat, i ≤ len ∧ m = len - i ∧ F = [(2, .si (.ce (.ptr 0 0))), (3, .si (.ce (.ptr 1 0))), (4, .si (.ce (.ptr 2 0))), (5, .si (.ce (.self 3))), (6, pv (.int .i64 i))] ∧ H.Le H2 ∧
      G = [.box 55 [.val (.int .i64 b), .val (.int .i64 c), .val (.slice A len cap)], .box 61 [.val (.int .i64 x0), .val (.string x1), .val (.int .i64 x2), .val (.int .i64 x3)], .box 55 [.val (.int .i64 0), .val (.int .i64 0), .val (.slice none 0 0)],
        .row 61 4 ((ls.take i).filter (fun y => decide (y.1 ≠ x0))).length (lsV ((ls.take i).filter (fun y => decide (y.1 ≠ x0))))]) (len + 1)
    ⟨len, by omega, _, _, [0, 1, 2, 3], ⟨0, by omega, rfl, rfl, .refl _, rfl⟩, rfl, ⟨rfl, rfl, rfl, rfl, trivial⟩, rfl, rfl, rfl, rfl, rfl, trivial⟩ ?_
  rintro m F H2 G hle2 ⟨i, h2, rfl, rfl, h3, rfl⟩
  have hm2 := hm.mono h3
  have hfl : ((ls.take i).filter (fun y => decide (y.1 ≠ x0))).length ≤ 1000000 := by
    have h5 := List.length_filter_le (fun y : Ln => decide (y.1 ≠ x0)) (ls.take i)
    rw [List.length_take] at h5; omega
  refine codeL.go tab ?_
  conv => whnf
  refine br.of (fun h1 => ?_) (fun h1 => ?_) <;> conv => whnf
  · simp only [decide_eq_true_eq] at h1
    have hi : i < ls.length := by have := hm.1; omega
    have hx : ls[i]? = some ls[i] := List.getElem?_eq_getElem hi
    have ht : ls.take (i + 1) = ls.take i ++ [ls[i]] := List.take_succ_eq_append_getElem hi
    have hw : IntKind.i64.wrap ((i : Int) + 1) = ((i + 1 : Nat) : Int) := by rw [wrap64 (by omega) (by omega)]; omega
    refine WS.draw tab mixed (.take 0 (.take 1 (.take 2 (.take 3 (.take 4 (.take 5 (.take 6 (.take 7 (.take 8 .done))))))))) (by kernel_rfl) [] ?_
    conv => whnf
    refine ⟨⟨by omega, h1⟩, hm2.addr hx, ?_⟩
    conv => whnf
    refine ⟨hm2.addr hx, ?_⟩
    conv => whnf
    refine ⟨_, hm2.rdC hx (by simp), ?_⟩
    conv => whnf
    refine br.of (fun h4 => ?_) (fun h4 => ?_) <;> conv => whnf
    · have h4' : ls[i].1 ≠ x0 := by simpa using h4
      refine ⟨⟨by omega, h1⟩, hm2.addr hx, ?_⟩
      conv => whnf
      refine ⟨lnV ls[i], rfl, hm2.rd hx (by simp), ?_⟩
      conv => whnf
      refine ⟨by decide, ?_⟩
      intro g H3 hle3 hrd
      conv => whnf
      refine ⟨lnV ls[i], rfl, hrd, lnV_one _, ?_⟩
      conv => whnf
      refine ⟨by show (_ + 1) * 41 ≤ _; omega, ?_⟩
      conv => whnf
      rw [hw]
      have ef : (ls.take (i + 1)).filter (fun y => decide (y.1 ≠ x0)) = (ls.take i).filter (fun y => decide (y.1 ≠ x0)) ++ [ls[i]] := by rw [ht, List.filter_append]; simp [h4']
      refine ⟨len - (i + 1), by omega, _, _, [0, 1, 2, 4], ⟨i + 1, by omega, rfl, rfl, h3.trans hle3, rfl⟩, rfl, ⟨rfl, rfl, rfl, ?_, trivial⟩, rfl, rfl, rfl, rfl, rfl, trivial⟩
      rw [ef, List.length_append, lsV_append]
      rfl
    · have h4' : ls[i].1 = x0 := by simpa using h4
      rw [hw]
      have ef : (ls.take (i + 1)).filter (fun y => decide (y.1 ≠ x0)) = (ls.take i).filter (fun y => decide (y.1 ≠ x0)) := by rw [ht, List.filter_append]; simp [h4']
      refine ⟨len - (i + 1), by omega, _, _, [0, 1, 2, 3], ⟨i + 1, by omega, rfl, rfl, h3, rfl⟩, rfl, ⟨rfl, rfl, rfl, ?_, trivial⟩, rfl, rfl, rfl, rfl, rfl, trivial⟩
      rw [ef]
      rfl
  · simp only [decide_eq_false_iff_not] at h1
    refine ⟨by decide, ?_⟩
    intro g H3 hle3 hrd
    conv => whnf
    refine ⟨lnV (x0, x1, x2, x3), rfl, hrd, lnV_one _, ?_⟩
    conv => whnf
    refine ⟨by show (_ + 1) * 41 ≤ _; omega, ?_⟩
    conv => whnf
    have e1 : ls.take i = ls := List.take_of_length_le (by have := hm.1; omega)
    refine ⟨4, rfl, ?_⟩
    have e2 : putL ls (x0, x1, x2, x3) = (ls.take i).filter (fun y => decide (y.1 ≠ x0)) ++ [(x0, x1, x2, x3)] := by rw [e1]; rfl
    rw [e2, List.length_append, lsV_append]
    rfl
/-- A line put. -/
theorem put (b c : Int) (A : Option Addr) (len cap : Nat) (ls : List Ln) (x : Ln) (H : Hp) (hm : MOk H A len ls) (hl : len ≤ 1000000) : CallO Try.prog 45 [mV b c A len cap, .si (.ag ((lnV x).map .val))] H [] fun e H' G' =>
    ∃ A' cap', e = .ret (mV b c A' (putL ls x).length cap') ∧ MOk H' A' (putL ls x).length (putL ls x) ∧ G' = [] := by
  refine CallO.sub (CallO.frz (put0 b c A len cap ls x H hm hl) (K := fun e H' _ => ∃ A' cap', e = .ret (mV b c A' (putL ls x).length cap') ∧ MOk H' A' (putL ls x).length (putL ls x)) ?_) ?_
  · rintro e H' G' hle ⟨k, rfl, hk⟩
    refine ⟨k, _, _, _, _, hk, fun h => by simp [putL] at h, fun y H2 hle2 hf => ?_⟩
    obtain ⟨A', cap', rfl, _, h3⟩ := hf.slice
    refine ⟨A', cap', ?_, rfl, h3.imp (fun h => ?_) id⟩
    · simp [SV.at, SG.at, SC.at, mV]
    · have := congrArg List.length h
      rw [lsV_length] at this
      simp [putL] at this
  · rintro e H' G' hle ⟨A', cap', rfl, h2⟩
    exact ⟨_, [], [], rfl, trivial, rfl, A', cap', rfl, h2, rfl⟩
end Go.Kx.Push
