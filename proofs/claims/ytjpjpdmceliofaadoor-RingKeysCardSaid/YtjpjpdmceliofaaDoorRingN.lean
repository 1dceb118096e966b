/- RingKeys walked: the keys of a ring of any count, rotated some times. No condition of its own. -/
import Derived.Test.YtjpjpdmceliofaaDoorRingM
namespace Go.Kx.Ring
open Go.Proofs Go.Kx Go.Kx.Sha Go.Kx.Lb
set_option maxRecDepth 20000
namespace Law
/-- The count, i turns on. -/
def cnt (count : Int) (i : Nat) : Int := if count + i ≤ 1099511627776 then count + i else 1099511627776
theorem cnt_ok {count : Int} (h : 1 ≤ count ∧ count ≤ 1099511627776) (i : Nat) : 1 ≤ cnt count i ∧ cnt count i ≤ 1099511627776 := by unfold cnt; split <;> omega
theorem newS (A : Option Addr) (n cap : Nat) (count : Int) (H : Hp) (h : n < 32) : CallO Tryd.prog 7 [pv (.slice A n cap), pv (.int .i64 count)] H [] fun e _ G' => e = .ret (.tu [.ce (.val (.pointer none)), .ce (.val (.int .i64 41))]) ∧ G' = [] := by
  refine CallO.of_body tab Tryd.func7 rfl (nt := Tryd.f7.ntmps) rfl (by kernel_rfl) ?_
  conv => whnf
  refine br.of (fun h1 => ?_) (fun h1 => ?_) <;> conv => whnf
  · exact ⟨rfl, rfl⟩
  · simp only [decide_eq_false_iff_not] at h1
    omega
def TI' (A B : Option Addr) (n cap m c : Nat) (count turns : Int) (kid : ByteArray) (H : Hp) (k : Nat) (F : Fr) (H2 : Hp) (G : List SB) : Prop :=
  ∃ i : Nat, (i : Int) ≤ turns ∧ k = turns.toNat - i ∧ F = [(0, pv (.slice A n cap)), (3, pv (.string kid)), (9, .si (.ce (.ptr 0 0))), (11, pv (.int .i64 (cnt count i))), (77, pv (.int .i64 turns)), (78, pv (.int .i64 i))] ∧ H2 = H ∧ G = [ringB B m c (cnt count i)]
def RI3 (A B : Option Addr) (n cap m c : Nat) (q : Int) (kid : ByteArray) (B1 B3 : Option Addr) (m2 cp1 cp2 : Nat) (H : Hp) (k : Nat) (F : Fr) (H2 : Hp) (G : List SB) : Prop :=
  ∃ j : Nat, j ≤ m2 ∧ k = m2 - j ∧ F = [(0, pv (.slice A n cap)), (3, pv (.string kid)), (9, .si (.ce (.ptr 0 0))), (14, pv (.slice B3 m2 cp2)), (15, pv (.bool ((kidsUp q j).any fun s => strEq s kid))), (106, pv (.slice B1 m2 cp1)), (107, pv (.int .i64 m2)), (108, pv (.int .i64 j))] ∧ H.Le H2 ∧ G = [ringB B m c q]
theorem ringKeys (ms : List UInt8) (A : Option Addr) (n cap : Nat) (count turns : Int) (kid : ByteArray) (H : Hp) (hE : ErrH H) (hb0 : 32 ≤ n → BytesAt H A n ms) : CallO Tryd.prog 3 [pv (.slice A n cap), pv (.int .i64 count), pv (.int .i64 turns), pv (.string kid)] H [] fun e _ _ => e = .ret (pv (.bool true)) := by
  refine CallO.of_body tab Tryd.func3 rfl (nt := Tryd.f3.ntmps) rfl (by kernel_rfl) ?_
  conv => whnf
  refine ⟨⟨_, Tryd.func6, rfl, by kernel_rfl⟩, CallS.use (anchor H) [] rfl rfl trivial ?_⟩
  rintro e H2 G' hle ⟨rfl, rfl⟩
  conv => whnf
  by_cases g1 : (n : Int) > 100
  · rw [decide_eq_true g1]
    conv => whnf
    exact rfl
  rw [decide_eq_false g1]
  conv => whnf
  by_cases g2 : turns < 0
  · rw [decide_eq_true g2]
    conv => whnf
    exact rfl
  rw [decide_eq_false g2]
  conv => whnf
  by_cases g3 : turns > 12
  · rw [decide_eq_true g3]
    conv => whnf
    exact rfl
  rw [decide_eq_false g3]
  conv => whnf
  refine br.of (fun g4 => ?_) (fun g4 => ?_)
  · conv => whnf
    exact rfl
  conv => whnf
  simp only [gt_iff_lt, decide_eq_false_iff_not] at g4
  by_cases h32 : n < 32
  · refine ⟨⟨_, Tryd.func7, rfl, by kernel_rfl⟩, CallS.use (newS A n cap count H2 h32) [] rfl rfl trivial ?_⟩
    rintro e H3 G' hle2 ⟨rfl, rfl⟩
    conv => whnf
    refine br.of (fun g5 => ?_) (fun g5 => ?_)
    · conv => whnf
      exact rfl
    · simp only [decide_eq_false_iff_not] at g5
      omega
  have hb := hb0 (by omega)
  refine ⟨⟨_, Tryd.func7, rfl, by kernel_rfl⟩, CallS.use (new_ ms A n cap count H2 (hb.mono hle) (by omega)) [] rfl rfl trivial ?_⟩
  rintro e H3 G' hle2 ⟨n1, n2, n3⟩
  by_cases hc : 1 ≤ count ∧ count ≤ 1099511627776
  · obtain ⟨rfl, B, m, c, hb2, rfl⟩ := n3 h32 hc
    conv => whnf
    refine br.of (fun g5 => ?_) (fun g5 => ?_)
    · simp only [decide_eq_true_eq] at g5
      omega
    conv => whnf
    rw [decide_eq_false (show ¬ count < 1 by omega)]
    conv => whnf
    refine br.of (fun g6 => ?_) (fun g6 => ?_)
    · simp only [decide_eq_true_eq] at g6
      omega
    conv => whnf
    have hc0 : cnt count 0 = count := by unfold cnt; rw [if_pos (by omega)]; omega
    refine WS.loop (TI' A B n cap m c count turns kid H3) 14 ?_ ?_
    · refine ⟨turns.toNat, by omega, _, _, [0], ⟨0, by omega, rfl, rfl, rfl, rfl⟩, ?_⟩
      rw [hc0]
      exact ⟨rfl, ⟨rfl, trivial⟩, rfl, rfl, rfl, rfl, rfl, rfl, trivial⟩
    rintro k F H4 G hle3 ⟨i, hi, rfl, rfl, rfl, rfl⟩
    obtain ⟨c1, c2⟩ := cnt_ok hc i
    refine codeL.go tab ?_
    conv => whnf
    refine br.of (fun g7 => ?_) (fun g7 => ?_) <;> conv => whnf
    · simp only [decide_eq_true_eq] at g7
      refine ⟨⟨_, Tryd.func8, rfl, by kernel_rfl⟩, CallS.use (rotate B m c (cnt count i) c1 c2 H4) [0] rfl rfl ⟨rfl, trivial⟩ ?_⟩
      rintro e H5 G' hle4 ⟨r1, r2, rfl⟩
      by_cases hf : cnt count i = 1099511627776
      · obtain ⟨rfl, rfl⟩ := r1 hf
        have hn : cnt count (i + 1) = cnt count i := by unfold cnt at hf ⊢; split at hf <;> split <;> omega
        conv => whnf
        refine br.of (fun g8 => ?_) (fun g8 => ?_)
        · conv => whnf
          rw [wrap64 (x := (i : Int) + 1) (by omega) (by omega)]
          refine ⟨turns.toNat - (i + 1), by omega, _, _, [0], ⟨i + 1, by omega, rfl, rfl, rfl, rfl⟩, ?_⟩
          rw [hn]
          exact ⟨rfl, ⟨rfl, trivial⟩, rfl, rfl, rfl, rfl, rfl, rfl, trivial⟩
        · simp only [beq_eq_false_iff_ne, ne_eq] at g8
          exact absurd hf g8
      · obtain ⟨rfl, rfl⟩ := r2 hf
        have hn : cnt count (i + 1) = cnt count i + 1 := by unfold cnt at hf ⊢; split at hf <;> split <;> omega
        conv => whnf
        refine br.of (fun g8 => ?_) (fun g8 => ?_)
        · simp only [beq_iff_eq] at g8
          exact absurd g8 hf
        · conv => whnf
          rw [wrap64 (x := (i : Int) + 1) (by omega) (by omega), wrap64 (x := cnt count i + 1) (by omega) (by omega)]
          refine ⟨turns.toNat - (i + 1), by omega, _, _, [0], ⟨i + 1, by omega, rfl, rfl, rfl, rfl⟩, ?_⟩
          rw [hn]
          exact ⟨rfl, ⟨rfl, trivial⟩, rfl, rfl, rfl, rfl, rfl, rfl, trivial⟩
    · simp only [decide_eq_false_iff_not] at g7
      have hb3 := hb2
      generalize cnt count i = q at *
      refine ⟨⟨_, Tryd.func9, rfl, by kernel_rfl⟩, CallS.use (Ref14.kids q c1 c2 H4) [] rfl rfl trivial ?_⟩
      rintro e H5 G' hle4 ⟨⟨B1, m1, cp1, rfl, hv1⟩, rfl⟩
      conv => whnf
      refine ⟨⟨_, Tryd.func10, rfl, by kernel_rfl⟩, CallS.use (kids_ B m c q c1 c2 H5) [0] rfl rfl ⟨rfl, trivial⟩ ?_⟩
      rintro e H6 G' hle5 ⟨⟨B3, m2, cp2, rfl, hv2⟩, rfl⟩
      have hm12 : m2 = m1 := by rw [hv1.1, hv2.1]
      subst hm12
      conv => whnf
      refine ⟨⟨_, Tryd.func11, rfl, by kernel_rfl⟩, CallS.use (count_ B m c q H6) [0] rfl rfl ⟨rfl, trivial⟩ ?_⟩
      rintro e H7 G' hle6 ⟨rfl, rfl, rfl⟩
      conv => whnf
      rw [show (q != q) = false from bne_self_eq_false q]
      conv => whnf
      refine br.of (fun g9 => ?_) (fun g9 => ?_)
      · rw [bne_self_eq_false] at g9
        cases g9
      conv => whnf
      obtain ⟨o1, o2, o3⟩ := oldest_le q c1
      have hkl : m2 = (q - oldest q + 1).toNat := by rw [hv1.1]; unfold strV kidsB; simp
      refine WS.loop (RI3 A B n cap m c q kid B1 B3 m2 cp1 cp2 H7) 14 ?_ ?_
      · refine ⟨m2, by omega, _, _, [0], ⟨0, by omega, rfl, rfl, .refl _, rfl⟩, ?_⟩
        exact ⟨rfl, ⟨rfl, trivial⟩, rfl, rfl, rfl, rfl, rfl, rfl, rfl, rfl, trivial⟩
      rintro k F H8 G hle7 ⟨j, hj, rfl, rfl, hle8, rfl⟩
      refine codeL.go tab ?_
      conv => whnf
      refine br.of (fun g10 => ?_) (fun g10 => ?_) <;> conv => whnf
      · simp only [decide_eq_true_eq] at g10
        have hv1' := hv1.mono ((hle5.trans hle6).trans hle8)
        have hv2' := hv2.mono (hle6.trans hle8)
        have hget : (strV (kidsB q))[j]? = some (.string (kidB (oldest q + j))) := by
          unfold strV kidsB
          rw [List.getElem?_map, List.getElem?_map, List.getElem?_range (by omega)]
          rfl
        have hsucc := kidsUp_succ q j
        have hsz : (kidB (oldest q + j)).size ≤ 40 := by
          have := itoa_size (oldest q + j) (by omega) (by omega)
          unfold kidB
          rw [ByteArray.size_append]
          show 1 + _ ≤ 40
          omega
        have hnum : ∀ m', NumIs q (kidB (oldest q + j)) m' → m' ≠ 0 := fun m' h => by
          have := h.2 (oldest q + j) (by omega) (by omega) rfl
          omega
        refine ⟨⟨by omega, by omega⟩, hv1'.addr (by omega), ?_⟩
        conv => whnf
        refine ⟨_, hv1'.get hget (by simp), ?_⟩
        conv => whnf
        generalize kidB (oldest q + j) = s at *
        refine ⟨⟨_, Tryd.func12, rfl, by kernel_rfl⟩, CallS.use (key_ ms B m c q s H8 (hE.mono (((((hle.trans hle2).trans hle4).trans hle5).trans hle6).trans hle8)) c1 c2 (hb2.mono (((hle4.trans hle5).trans hle6).trans hle8)) (by rw [hb2.1, ← hb.1]; omega) (by omega)) [0] rfl rfl ⟨rfl, trivial⟩ ?_⟩
        rintro e H9 G' hle9 ⟨m', hm', -, hk2⟩
        obtain ⟨rfl, rfl⟩ := hk2 (hnum m' hm')
        conv => whnf
        refine WS.draw tab mixed (.take 0 (.take 1 (.take 2 (.take 3 (.take 4 (.take 5 (.take 6 (.take 7 (.take 8 (.take 9 (.take 10 (.take 11 (.take 12 (.take 13 (.take 14 (.alt 15 (.alt 16 (.take 17 (.take 18 .done)) .no) .no)))))))))))))))) (by kernel_rfl) [] ?_
        conv => whnf
        refine ⟨⟨by omega, by omega⟩, hv2'.addr (by omega), ?_⟩
        conv => whnf
        refine ⟨_, (hv2'.mono hle9).get hget (by simp), ?_⟩
        conv => whnf
        rw [strEq_self]
        conv => whnf
        generalize hK : hkdf ms (infoB s) = K at *
        have hbs := hb.mono ((((((hle.trans hle2).trans hle4).trans hle5).trans hle6).trans hle8).trans hle9)
        refine ⟨strOf K, cells_str _, ?_⟩
        conv => whnf
        repeat' (first
          | exact trivial
          | exact ⟨_, Tryd.func13, rfl, by kernel_rfl⟩
          | (refine CallS.use (Ref14.key ms A n cap s _ hbs (by omega) (by omega)) [] rfl rfl trivial ?_; rintro e H10 G' hle10 ⟨rfl, rfl⟩; rw [hK]; conv => whnf)
          | (refine ⟨strOf K, cells_str _, ?_⟩; conv => whnf)
          | exact ⟨rfl, rfl, trivial⟩
          | (refine And.intro ?_ ?_ <;> conv => whnf))
        rw [strEq_self]
        conv => whnf
        have hany : (kidsUp q (j + 1)).any (fun s => strEq s kid) = ((kidsUp q j).any (fun s => strEq s kid) || strEq s kid) := by
          rw [hsucc, List.any_append]
          simp
        cases hB : (kidsUp q j).any fun s => strEq s kid
        · rw [hB] at hany
          conv => whnf
          rw [wrap64 (x := (j : Int) + 1) (by omega) (by omega)]
          refine ⟨m2 - (j + 1), by omega, _, _, [0], ⟨j + 1, by omega, rfl, rfl, ?_, rfl⟩, ?_⟩
          · exact hle8.trans (hle9.trans hle10)
          · refine ⟨rfl, ⟨rfl, trivial⟩, rfl, rfl, rfl, rfl, ?_, rfl, rfl, rfl, trivial⟩
            rw [hany]
            rfl
        · rw [hB] at hany
          conv => whnf
          rw [wrap64 (x := (j : Int) + 1) (by omega) (by omega)]
          refine ⟨m2 - (j + 1), by omega, _, _, [0], ⟨j + 1, by omega, rfl, rfl, ?_, rfl⟩, ?_⟩
          · exact hle8.trans (hle9.trans hle10)
          · refine ⟨rfl, ⟨rfl, trivial⟩, rfl, rfl, rfl, rfl, ?_, rfl, rfl, rfl, trivial⟩
            rw [hany]
            rfl
      · simp only [decide_eq_false_iff_not] at g10
        obtain rfl : j = m2 := by omega
        refine ⟨⟨_, Tryd.func12, rfl, by kernel_rfl⟩, CallS.use (key_ ms B m c q kid H8 (hE.mono (((((hle.trans hle2).trans hle4).trans hle5).trans hle6).trans hle8)) c1 c2 (hb2.mono (((hle4.trans hle5).trans hle6).trans hle8)) (by rw [hb2.1, ← hb.1]; omega) (by omega)) [0] rfl rfl ⟨rfl, trivial⟩ ?_⟩
        rintro e H9 G' hle9 ⟨m', hm', hk1, hk2⟩
        by_cases hz : m' = 0
        · obtain ⟨rfl, rfl⟩ := hk1 hz
          have hany : ((kidsUp q j).any fun s => strEq s kid) = false := by
            rw [List.any_eq_false]
            intro s hs
            unfold kidsUp at hs
            obtain ⟨i2, hi2, rfl⟩ := List.mem_map.1 hs
            rw [List.mem_range] at hi2
            intro he
            have := hm'.2 (oldest q + i2) (by omega) (by omega) (strEq_iff.1 he).symm
            omega
          simp only [hany]
          conv => whnf
          exact congrArg (fun b => SE.ret (pv (Value.bool b))) (by decide)
        · obtain ⟨rfl, rfl⟩ := hk2 hz
          have hany : ((kidsUp q j).any fun s => strEq s kid) = true := by
            obtain ⟨h1, h2, h3⟩ := hm'.1 hz
            rw [List.any_eq_true]
            refine ⟨kid, ?_, strEq_self kid⟩
            unfold kidsUp
            refine List.mem_map.2 ⟨(m' - oldest q).toNat, List.mem_range.2 (by omega), ?_⟩
            rw [h3]
            congr 1; omega
          simp only [hany]
          conv => whnf
          first | exact rfl | exact congrArg (fun b => SE.ret (pv (Value.bool b))) (by decide)
  · obtain ⟨rfl, rfl⟩ := n2 h32 hc
    conv => whnf
    refine br.of (fun g5 => ?_) (fun g5 => ?_)
    · simp only [decide_eq_true_eq] at g5
      omega
    conv => whnf
    by_cases g7 : count < 1
    · rw [decide_eq_true g7]
      conv => whnf
      exact rfl
    rw [decide_eq_false g7]
    conv => whnf
    refine br.of (fun g6 => ?_) (fun g6 => ?_)
    · conv => whnf
      exact rfl
    · simp only [decide_eq_false_iff_not] at g6
      omega
end Law
end Go.Kx.Ring
