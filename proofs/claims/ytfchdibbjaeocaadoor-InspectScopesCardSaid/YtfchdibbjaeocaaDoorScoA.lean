/- Names: the reference's look at one. No condition of its own. -/
import Derived.Test.YtfchdibbjaeocaaDoorProg
import Derived.Test.YtfchdibbjaeocaaDoorKG
namespace Go.Kx.Sco
open Go.Proofs Go.Kx
set_option maxRecDepth 20000
set_option linter.unusedSimpArgs false
theorem mixed : Tryd.prog.follows .mixedOrders = true := by kernel_rfl
namespace RefN
def T : Tab := [(9, { k := TK.string, agg := false, size := 1, bytes := 16, zero := [Z.s] }), (29, { k := TK.slice 9, agg := false, size := 1, bytes := 24, zero := [Z.sl] }), (4, { k := TK.bool, agg := false, size := 1, bytes := 1, zero := [Z.b] }), (5, { k := TK.int IntKind.u8, agg := false, size := 1, bytes := 1, zero := [Z.i IntKind.u8] }), (3, { k := TK.int IntKind.i64, agg := false, size := 1, bytes := 8, zero := [Z.i IntKind.i64] })]
set_option maxRecDepth 100000 in
theorem tab : TabOk Tryd.prog T := tabOk_mk (ts := [9, 29, 4, 5, 3]) (by kernel_rfl)

/-- A byte of a name. -/
def isNm (c : UInt8) : Bool := (97 ≤ c.toNat && c.toNat ≤ 122) || (65 ≤ c.toNat && c.toNat ≤ 90) || (48 ≤ c.toNat && c.toNat ≤ 57) || c.toNat == 45 || c.toNat == 46 || c.toNat == 95
def isName (s : ByteArray) : Bool := s.data.toList.all isNm && (1 ≤ s.size && s.size ≤ 40)
def NI (s : ByteArray) (H : Hp) (k : Nat) (F : Fr) (H2 : Hp) (G : List SB) : Prop :=
  ∃ i : Nat, i ≤ s.size ∧ k = s.size - i ∧ (s.data.toList.take i).all isNm = true ∧ F = [(0, pv (.string s)), (3, pv (.int .i64 i))] ∧ H2 = H ∧ G = []
theorem bAt (s : ByteArray) (i : Nat) (h : i < s.size) : ∃ c : UInt8, s.data.toList[i]? = some c ∧ byteAt s (i : Int) = (c.toNat : Int) := by
  have hl : i < s.data.toList.length := by rw [Array.length_toList]; exact h
  refine ⟨s.data.toList[i]'hl, List.getElem?_eq_getElem _, ?_⟩
  unfold byteAt
  rw [Int.toNat_natCast, List.getD_eq_getElem?_getD, List.getElem?_eq_getElem hl]
  rfl
theorem isName_ (s : ByteArray) (hs : s.size ≤ 1000000) (H : Hp) : CallO Tryd.prog 34 [pv (.string s)] H [] fun e H' G' => e = .ret (pv (.bool (isName s))) ∧ H' = H ∧ G' = [] := by
  refine CallO.of_body tab Tryd.func34 rfl (nt := Tryd.f34.ntmps) rfl (by kernel_rfl) ?_
  (conv => whnf)
  refine WS.loop (NI s H) (s.size + 1) ?_ ?_
  · refine ⟨s.size, by omega, _, _, [], ⟨0, by omega, rfl, rfl, rfl, rfl, rfl⟩, ?_⟩
    exact ⟨rfl, trivial, rfl, rfl, trivial⟩
  rintro k F H2 G hle ⟨i, hi, rfl, hall, rfl, rfl, rfl⟩
  refine codeL.go tab ?_
  (conv => whnf)
  refine br.of (fun h1 => ?_) (fun h1 => ?_) <;> (conv => whnf)
  · simp only [decide_eq_true_eq] at h1
    have hil : i < s.size := by omega
    refine ⟨⟨by omega, by omega⟩, ?_⟩
    obtain ⟨c, hc, hv⟩ := bAt s i hil
    rw [hv]
    have hno : isNm c = false → isName s = false := fun h => by
      unfold isName
      have : s.data.toList.all isNm = false := by
        rw [List.all_eq_false]
        exact ⟨c, List.mem_of_getElem? hc, by rw [h]; decide⟩
      rw [this]; rfl
    have hyes : isNm c = true → (s.data.toList.take (i + 1)).all isNm = true := fun h => by
      rw [List.take_add_one, hc]
      simp [hall, h]
    have hdef : isNm c = ((97 ≤ c.toNat && c.toNat ≤ 122) || (65 ≤ c.toNat && c.toNat ≤ 90) || (48 ≤ c.toNat && c.toNat ≤ 57) || c.toNat == 45 || c.toNat == 46 || c.toNat == 95) := rfl
    generalize isNm c = b at hno hyes hdef
    generalize hcn : c.toNat = n at hdef
    have leafN : ∀ (e : SE) (H' : Hp) (G' : List SB), b = false → e = .ret (pv (.bool false)) → H' = H2 → G' = [] → e = .ret (pv (.bool (isName s))) ∧ H' = H2 ∧ G' = [] := fun e H' G' h1 h2 h3 h4 => ⟨by rw [hno h1]; exact h2, h3, h4⟩
    (conv => whnf)
    have hB1 : ((97 ≤ n ∧ n ≤ 122) ∨ (65 ≤ n ∧ n ≤ 90) ∨ (48 ≤ n ∧ n ≤ 57) ∨ n = 45 ∨ n = 46 ∨ n = 95) → b = true := fun h => by
      rw [hdef]; simp only [Bool.or_eq_true, Bool.and_eq_true, decide_eq_true_eq, beq_iff_eq]; omega
    have hB0 : ¬ ((97 ≤ n ∧ n ≤ 122) ∨ (65 ≤ n ∧ n ≤ 90) ∨ (48 ≤ n ∧ n ≤ 57) ∨ n = 45 ∨ n = 46 ∨ n = 95) → b = false := fun h => by
      cases hb : b with
      | false => rfl
      | true =>
        rw [hb] at hdef
        have := hdef.symm
        simp only [Bool.or_eq_true, Bool.and_eq_true, decide_eq_true_eq, beq_iff_eq] at this
        omega
    clear hdef
    repeat' (refine br.of (fun h => ?_) (fun h => ?_) <;> (try simp only [decide_eq_true_eq, decide_eq_false_iff_not, beq_iff_eq, beq_eq_false_iff_ne, ne_eq, Bool.not_eq_true', Bool.not_eq_false', ge_iff_le] at h) <;> (conv => whnf))
    all_goals first
      | (refine leafN _ _ _ (hB0 (by omega)) rfl rfl rfl; done)
      | (have hb := hyes (hB1 (by omega))
         rw [wrap64 (x := (i : Int) + 1) (by omega) (by omega)]
         exact ⟨s.size - (i + 1), by omega, _, _, [], ⟨i + 1, by omega, rfl, hb, rfl, rfl, rfl⟩, ⟨rfl, trivial, rfl, rfl, trivial⟩⟩)
      | exact absurd trivial (by omega)
  · simp only [decide_eq_false_iff_not] at h1
    obtain rfl : i = s.size := by omega
    have hall2 : s.data.toList.all isNm = true := by
      rw [List.take_of_length_le (by show s.data.toList.length ≤ s.size; rw [Array.length_toList]; exact Nat.le_refl _)] at hall
      exact hall
    have hfin : isName s = (decide (1 ≤ s.size) && decide (s.size ≤ 40)) := by unfold isName; rw [hall2, Bool.true_and]
    rw [hfin]
    repeat' (refine br.of (fun h => ?_) (fun h => ?_) <;> (try simp only [decide_eq_true_eq, decide_eq_false_iff_not, beq_iff_eq, beq_eq_false_iff_ne, ne_eq, Bool.not_eq_true', Bool.not_eq_false', ge_iff_le] at h) <;> (conv => whnf))
    · rw [decide_eq_true (show 1 ≤ s.size by omega), Bool.true_and]
      refine ⟨congrArg (fun b => SE.ret (pv (.bool b))) ?_, rfl, rfl⟩
      rw [Bool.eq_iff_iff]
      simp only [decide_eq_true_eq]
      omega
    · rw [decide_eq_false (show ¬ 1 ≤ s.size by omega), Bool.false_and]
      exact ⟨rfl, rfl, rfl⟩
end RefN
end Go.Kx.Sco
