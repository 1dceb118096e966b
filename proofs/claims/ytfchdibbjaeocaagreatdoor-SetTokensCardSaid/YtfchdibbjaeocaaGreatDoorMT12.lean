/- The reference of layer 5: where a text isn't told. No condition of its own. -/
import Derived.Test.YtfchdibbjaeocaaGreatDoorMT11
namespace Go.Kx.Rf
open Go.Proofs Go.Kx Go.RowKit Go.Kx.Js Go.Kx.Pr
set_option maxRecDepth 20000
set_option linter.unusedSimpArgs false
theorem mixed : Tryz.prog.follows .mixedOrders = true := by kernel_rfl
def T : Tab := [(9, { k := TK.string, agg := false, size := 1, bytes := 16, zero := [Z.s] }), (3, { k := TK.int IntKind.i64, agg := false, size := 1, bytes := 8, zero := [Z.i IntKind.i64] }), (4, { k := TK.bool, agg := false, size := 1, bytes := 1, zero := [Z.b] }), (5, { k := TK.int IntKind.u8, agg := false, size := 1, bytes := 1, zero := [Z.i IntKind.u8] })]
set_option maxRecDepth 100000 in
theorem tab : TabOk Tryz.prog T := tabOk_mk (ts := [9, 3, 4, 5]) (by kernel_rfl)
def inL (l : List UInt8) (i : Nat) (lo hi : Int) : Bool := match l[i]? with
  | some c => decide (lo ≤ (c.toNat : Int)) && decide ((c.toNat : Int) ≤ hi)
  | none => false
theorem in_ (s : ByteArray) (at' : Nat) (lo hi : Int) (ha : at' ≤ 2000000) (H : Hp) : CallO Tryz.prog 175 [pv (.string s), pv (.int .i64 at'), pv (.int .i64 lo), pv (.int .i64 hi)] H [] fun e H' G' => e = .ret (pv (.bool (inL (tL s) at' lo hi))) ∧ H' = H ∧ G' = [] := by
  refine CallO.of_body tab Tryz.func175 rfl (nt := Tryz.f175.ntmps) rfl (by kernel_rfl) ?_
  by_cases h : at' < s.size
  · obtain ⟨c, hc, hv⟩ := Pa.bAt s at' h
    have hL : inL (tL s) at' lo hi = (decide (lo ≤ (c.toNat : Int)) && decide ((c.toNat : Int) ≤ hi)) := by unfold inL tL; rw [hc]
    rw [hL]
    (conv => whnf)
    rw [decide_eq_true (show (at' : Int) < (s.size : Int) by omega)]
    (conv => whnf)
    refine ⟨⟨by omega, by omega⟩, ?_⟩
    rw [hv]
    (conv => whnf)
    rw [wrap64 (x := (c.toNat : Int)) (by have := c.toNat_lt; omega) (by have := c.toNat_lt; omega)]
    rw [show (decide ((c.toNat : Int) ≥ lo)) = decide (lo ≤ (c.toNat : Int)) from rfl]
    cases h1 : decide (lo ≤ (c.toNat : Int)) <;> (conv => whnf)
    · exact ⟨rfl, rfl, rfl⟩
    refine ⟨⟨by omega, by omega⟩, ?_⟩
    rw [hv]
    (conv => whnf)
    rw [wrap64 (x := (c.toNat : Int)) (by have := c.toNat_lt; omega) (by have := c.toNat_lt; omega)]
    exact ⟨rfl, rfl, rfl⟩
  · have hL : inL (tL s) at' lo hi = false := by
      unfold inL
      rw [List.getElem?_eq_none (by rw [← size_eq]; omega)]
    rw [hL]
    (conv => whnf)
    rw [decide_eq_false (show ¬ (at' : Int) < (s.size : Int) by omega)]
    (conv => whnf)
    exact ⟨rfl, rfl, rfl⟩
def chR (c : Int) (l : List UInt8) (i : Nat) : Int :=
  if c < 128 then 1 else
  if (decide (194 ≤ c) && decide (c ≤ 223)) && inL l (i + 1) 128 191 then 2 else
  if ((decide (224 ≤ c) && decide (c ≤ 239)) && inL l (i + 1) (if c = 224 then 160 else 128) (if c = 237 then 159 else 191)) && inL l (i + 2) 128 191 then 3 else
  if (((decide (240 ≤ c) && decide (c ≤ 244)) && inL l (i + 1) (if c = 240 then 144 else 128) (if c = 244 then 143 else 191)) && inL l (i + 2) 128 191) && inL l (i + 3) 128 191 then 4 else 0
theorem inL_cons (x : UInt8) (l : List UInt8) (i : Nat) (lo hi : Int) : inL (x :: l) (i + 1) lo hi = inL l i lo hi := rfl
theorem inL_drop (l : List UInt8) (i k : Nat) (lo hi : Int) : inL (l.drop i) k lo hi = inL l (i + k) lo hi := by unfold inL; rw [List.getElem?_drop]
theorem chR_drop (c : Int) (l : List UInt8) (i : Nat) : chR c l i = chR c (l.drop i) 0 := by
  unfold chR
  simp only [inL_drop]
theorem inL_sp (l : List UInt8) (i a b : Nat) (c : UInt8) (h : l[i]? = some c) : inL l i a b = (decide (a ≤ c.toNat) && decide (c.toNat ≤ b)) := by
  unfold inL
  rw [h]
  simp only [Int.ofNat_le]
theorem inL_none (l : List UInt8) (i : Nat) (a b : Int) (h : l.length ≤ i) : inL l i a b = false := by
  unfold inL
  rw [List.getElem?_eq_none h]
theorem sp1 (a b : Nat) (l : List UInt8) : (if l.length + 1 ≤ 1 then 0 else if inSp [(a, b)] l = true then 1 + 1 else 0 : Nat) = if inL l 0 a b = true then 2 else 0 := by
  cases l with
  | nil => rw [inL_none [] 0 _ _ (Nat.le_refl _)]; rfl
  | cons c l => rw [inL_sp (c :: l) 0 a b c rfl, if_neg (by simp)]; simp only [inSp, Bool.and_true]
theorem sp2 (a b x y : Nat) (l : List UInt8) : (if l.length + 1 ≤ 2 then 0 else if inSp [(a, b), (x, y)] l = true then 1 + 2 else 0 : Nat) = if (inL l 0 a b && inL l 1 x y) = true then 3 else 0 := by
  rcases l with _ | ⟨c, _ | ⟨d, l⟩⟩
  · rw [inL_none [] 0 _ _ (Nat.le_refl _)]; rfl
  · rw [inL_none [c] 1 _ _ (Nat.le_refl _), Bool.and_false]; rfl
  · rw [inL_sp (c :: d :: l) 0 a b c rfl, inL_sp (c :: d :: l) 1 x y d rfl, if_neg (by simp)]; simp only [inSp, Bool.and_true]
theorem sp3 (a b x y u v : Nat) (l : List UInt8) : (if l.length + 1 ≤ 3 then 0 else if inSp [(a, b), (x, y), (u, v)] l = true then 1 + 3 else 0 : Nat) = if ((inL l 0 a b && inL l 1 x y) && inL l 2 u v) = true then 4 else 0 := by
  rcases l with _ | ⟨c, _ | ⟨d, _ | ⟨f, l⟩⟩⟩
  · rw [inL_none [] 0 _ _ (Nat.le_refl _)]; rfl
  · rw [inL_none [c] 1 _ _ (Nat.le_refl _), Bool.and_false]; rfl
  · rw [inL_none [c, d] 2 _ _ (Nat.le_refl _), Bool.and_false]; rfl
  · rw [inL_sp (c :: d :: f :: l) 0 a b c rfl, inL_sp (c :: d :: f :: l) 1 x y d rfl, inL_sp (c :: d :: f :: l) 2 u v f rfl, if_neg (by simp)]; simp only [inSp, Bool.and_true, Bool.and_assoc]
theorem chR_eq (c : UInt8) (l : List UInt8) : chR (c.toNat : Int) (c :: l) 0 = ((charP (c :: l) : Nat) : Int) := by
  have hc := c.toNat_lt
  have e : (pk (c :: l)).toNat = c.toNat := rfl
  unfold chR charP
  rw [e]
  generalize c.toNat = n at hc
  have k : ∀ a b : Int, a ≤ n → n ≤ b → (decide (a ≤ (n : Int)) && decide ((n : Int) ≤ b)) = true := fun a b h1 h2 => by rw [decide_eq_true h1, decide_eq_true h2]; rfl
  have k' : ∀ a b : Int, (n < a ∨ b < n) → (decide (a ≤ (n : Int)) && decide ((n : Int) ≤ b)) = false := fun a b h => by
    rcases h with h | h
    · rw [decide_eq_false (show ¬ a ≤ (n : Int) by omega)]; rfl
    · rw [decide_eq_false (show ¬ (n : Int) ≤ b by omega), Bool.and_false]
  have m : ∀ (i : Nat) lo hi, inL (c :: l) (0 + (i + 1)) lo hi = inL l i lo hi := fun i lo hi => by rw [Nat.zero_add]; rfl
  rw [show (∀ lo hi, inL (c :: l) (0 + 1) lo hi = inL l 0 lo hi) from m 0]
  simp only [show (∀ lo hi, inL (c :: l) (0 + 1) lo hi = inL l 0 lo hi) from m 0, show (∀ lo hi, inL (c :: l) (0 + 2) lo hi = inL l 1 lo hi) from m 1, show (∀ lo hi, inL (c :: l) (0 + 3) lo hi = inL l 2 lo hi) from m 2, List.tail_cons, List.length_cons]
  by_cases h1 : n < 128
  · rw [if_pos (show (n : Int) < 128 by omega), show behindP n = some [] by unfold behindP; rw [if_pos h1]]
    rfl
  rw [if_neg (show ¬ (n : Int) < 128 by omega)]
  by_cases h2 : n < 194
  · rw [k' 194 223 (by omega), k' 224 239 (by omega), k' 240 244 (by omega), show behindP n = none by unfold behindP; rw [if_neg h1, if_pos h2]]
    rfl
  by_cases h3 : n < 224
  · have hb : behindP n = some [(128, 191)] := by unfold behindP any1; repeat' (first | rw [if_pos (by omega)] | rw [if_neg (by omega)])
    rw [k 194 223 (by omega) (by omega), k' 224 239 (by omega), k' 240 244 (by omega), hb]
    show _ = ((if l.length + 1 ≤ 1 then 0 else if inSp [(128, 191)] l = true then 1 + 1 else 0 : Nat) : Int)
    rw [sp1]
    simp only [Bool.true_and, Bool.false_and, Bool.false_eq_true, if_false]
    show (if inL l 0 128 191 = true then (2 : Int) else 0) = ((if inL l 0 128 191 = true then 2 else 0 : Nat) : Int)
    split <;> rfl
  by_cases h4 : n = 224
  · have hb : behindP n = some [(160, 191), (128, 191)] := by unfold behindP any1; repeat' (first | rw [if_pos (by omega)] | rw [if_neg (by omega)])
    rw [k' 194 223 (by omega), k 224 239 (by omega) (by omega), k' 240 244 (by omega), hb, if_pos (show (n : Int) = 224 by omega), if_neg (show ¬ (n : Int) = 237 by omega)]
    show _ = ((if l.length + 1 ≤ 2 then 0 else if inSp [(160, 191), (128, 191)] l = true then 1 + 2 else 0 : Nat) : Int)
    rw [sp2]
    simp only [Bool.true_and, Bool.false_and, Bool.false_eq_true, if_false]
    show (if (inL l 0 160 191 && inL l 1 128 191) = true then (3 : Int) else 0) = ((if (inL l 0 160 191 && inL l 1 128 191) = true then 3 else 0 : Nat) : Int)
    split <;> rfl
  by_cases h5 : n = 237
  · have hb : behindP n = some [(128, 159), (128, 191)] := by unfold behindP any1; repeat' (first | rw [if_pos (by omega)] | rw [if_neg (by omega)])
    rw [k' 194 223 (by omega), k 224 239 (by omega) (by omega), k' 240 244 (by omega), hb, if_neg (show ¬ (n : Int) = 224 by omega), if_pos (show (n : Int) = 237 by omega)]
    show _ = ((if l.length + 1 ≤ 2 then 0 else if inSp [(128, 159), (128, 191)] l = true then 1 + 2 else 0 : Nat) : Int)
    rw [sp2]
    simp only [Bool.true_and, Bool.false_and, Bool.false_eq_true, if_false]
    show (if (inL l 0 128 159 && inL l 1 128 191) = true then (3 : Int) else 0) = ((if (inL l 0 128 159 && inL l 1 128 191) = true then 3 else 0 : Nat) : Int)
    split <;> rfl
  by_cases h6 : n < 240
  · have hb : behindP n = some [(128, 191), (128, 191)] := by unfold behindP any1; repeat' (first | rw [if_pos (by omega)] | rw [if_neg (by omega)])
    rw [k' 194 223 (by omega), k 224 239 (by omega) (by omega), k' 240 244 (by omega), hb, if_neg (show ¬ (n : Int) = 224 by omega), if_neg (show ¬ (n : Int) = 237 by omega)]
    show _ = ((if l.length + 1 ≤ 2 then 0 else if inSp [(128, 191), (128, 191)] l = true then 1 + 2 else 0 : Nat) : Int)
    rw [sp2]
    simp only [Bool.true_and, Bool.false_and, Bool.false_eq_true, if_false]
    show (if (inL l 0 128 191 && inL l 1 128 191) = true then (3 : Int) else 0) = ((if (inL l 0 128 191 && inL l 1 128 191) = true then 3 else 0 : Nat) : Int)
    split <;> rfl
  by_cases h7 : n = 240
  · have hb : behindP n = some [(144, 191), (128, 191), (128, 191)] := by unfold behindP any1; repeat' (first | rw [if_pos (by omega)] | rw [if_neg (by omega)])
    rw [k' 194 223 (by omega), k' 224 239 (by omega), k 240 244 (by omega) (by omega), hb, if_pos (show (n : Int) = 240 by omega), if_neg (show ¬ (n : Int) = 244 by omega)]
    show _ = ((if l.length + 1 ≤ 3 then 0 else if inSp [(144, 191), (128, 191), (128, 191)] l = true then 1 + 3 else 0 : Nat) : Int)
    rw [sp3]
    simp only [Bool.true_and, Bool.false_and, Bool.false_eq_true, if_false]
    show (if ((inL l 0 144 191 && inL l 1 128 191) && inL l 2 128 191) = true then (4 : Int) else 0) = ((if ((inL l 0 144 191 && inL l 1 128 191) && inL l 2 128 191) = true then 4 else 0 : Nat) : Int)
    split <;> rfl
  by_cases h8 : n < 244
  · have hb : behindP n = some [(128, 191), (128, 191), (128, 191)] := by unfold behindP any1; repeat' (first | rw [if_pos (by omega)] | rw [if_neg (by omega)])
    rw [k' 194 223 (by omega), k' 224 239 (by omega), k 240 244 (by omega) (by omega), hb, if_neg (show ¬ (n : Int) = 240 by omega), if_neg (show ¬ (n : Int) = 244 by omega)]
    show _ = ((if l.length + 1 ≤ 3 then 0 else if inSp [(128, 191), (128, 191), (128, 191)] l = true then 1 + 3 else 0 : Nat) : Int)
    rw [sp3]
    simp only [Bool.true_and, Bool.false_and, Bool.false_eq_true, if_false]
    show (if ((inL l 0 128 191 && inL l 1 128 191) && inL l 2 128 191) = true then (4 : Int) else 0) = ((if ((inL l 0 128 191 && inL l 1 128 191) && inL l 2 128 191) = true then 4 else 0 : Nat) : Int)
    split <;> rfl
  by_cases h9 : n = 244
  · have hb : behindP n = some [(128, 143), (128, 191), (128, 191)] := by unfold behindP any1; repeat' (first | rw [if_pos (by omega)] | rw [if_neg (by omega)])
    rw [k' 194 223 (by omega), k' 224 239 (by omega), k 240 244 (by omega) (by omega), hb, if_neg (show ¬ (n : Int) = 240 by omega), if_pos (show (n : Int) = 244 by omega)]
    show _ = ((if l.length + 1 ≤ 3 then 0 else if inSp [(128, 143), (128, 191), (128, 191)] l = true then 1 + 3 else 0 : Nat) : Int)
    rw [sp3]
    simp only [Bool.true_and, Bool.false_and, Bool.false_eq_true, if_false]
    show (if ((inL l 0 128 143 && inL l 1 128 191) && inL l 2 128 191) = true then (4 : Int) else 0) = ((if ((inL l 0 128 143 && inL l 1 128 191) && inL l 2 128 191) = true then 4 else 0 : Nat) : Int)
    split <;> rfl
  have hb : behindP n = none := by unfold behindP any1; repeat' (first | rw [if_pos (by omega)] | rw [if_neg (by omega)])
  rw [k' 194 223 (by omega), k' 224 239 (by omega), k' 240 244 (by omega), hb]
  rfl
theorem character_ (s : ByteArray) (i : Nat) (hi : i < s.size) (hs : s.size ≤ 1000000) (H : Hp) : CallO Tryz.prog 143 [pv (.string s), pv (.int .i64 i)] H [] fun e H' G' => e = .ret (pv (.int .i64 (charP ((tL s).drop i)))) ∧ H' = H ∧ G' = [] := by
  obtain ⟨c, hc, hv⟩ := Pa.bAt s i hi
  have hd : (tL s).drop i = c :: (tL s).drop (i + 1) := by
    rw [List.drop_eq_getElem?_toList_append, show (tL s)[i]? = some c from hc]; rfl
  have hE : ((charP ((tL s).drop i) : Nat) : Int) = chR (c.toNat : Int) (tL s) i := by rw [hd, ← chR_eq, ← hd, ← chR_drop]
  rw [hE]
  have hin := fun k lo hi' (hk : k ≤ 2000000) => in_ s k lo hi' hk H
  obtain ⟨r, hr⟩ : ∃ r, r = chR (c.toNat : Int) (tL s) i := ⟨_, rfl⟩
  rw [← hr]
  have hc2 : (0 : Int) ≤ (c.toNat : Int) ∧ (c.toNat : Int) < 256 := by have := c.toNat_lt; omega
  refine CallO.of_body tab Tryz.func143 rfl (nt := Tryz.f143.ntmps) rfl (by kernel_rfl) ?_
  (conv => whnf)
  refine ⟨⟨by omega, by omega⟩, ?_⟩
  rw [hv]
  (conv => whnf)
  generalize (c.toNat : Int) = m at hc2 hr ⊢
  rw [wrap64 (x := m) (by omega) (by omega)]
  refine br.of (fun h1 => ?_) (fun h1 => ?_) <;> (conv => whnf)
  · have h1 := of_decide_eq_true h1
    obtain rfl : r = 1 := by rw [hr]; unfold chR; rw [if_pos h1]
    exact ⟨rfl, rfl, rfl⟩
  have h1 := of_decide_eq_false h1
  unfold chR at hr
  rw [if_neg h1] at hr
  by_cases h : m < 194
  · rw [decide_eq_false (show ¬ m ≥ 194 by omega)]
    (conv => whnf)
    rw [show (m == 224) = false from beq_eq_false_iff_ne.2 (by omega)]
    (conv => whnf)
    rw [show (m == 237) = false from beq_eq_false_iff_ne.2 (by omega)]
    (conv => whnf)
    rw [decide_eq_false (show ¬ m ≥ 224 by omega)]
    (conv => whnf)
    rw [show (m == 240) = false from beq_eq_false_iff_ne.2 (by omega)]
    (conv => whnf)
    rw [show (m == 244) = false from beq_eq_false_iff_ne.2 (by omega)]
    (conv => whnf)
    rw [decide_eq_false (show ¬ m ≥ 240 by omega)]
    (conv => whnf)
    obtain rfl : r = 0 := by
      rw [hr, if_neg (show ¬ m = 224 by omega), if_neg (show ¬ m = 237 by omega), if_neg (show ¬ m = 240 by omega), if_neg (show ¬ m = 244 by omega)]
      simp only [Bool.and_true, Bool.and_false, Bool.true_and, Bool.false_and, Bool.and_eq_true, decide_eq_true_eq, Bool.false_eq_true, if_false]
      repeat' split
      all_goals omega
    exact ⟨rfl, rfl, rfl⟩
  by_cases h : m < 224
  · rw [decide_eq_true (show m ≥ 194 by omega)]
    (conv => whnf)
    rw [decide_eq_true (show m ≤ 223 by omega)]
    (conv => whnf)
    rw [wrap64 (x := (i : Int) + 1) (by omega) (by omega)]
    refine ⟨⟨_, Tryz.func175, rfl, by kernel_rfl⟩, CallS.use (hin (i + 1) 128 191 (by omega)) [] rfl rfl trivial ?_⟩
    rintro e H2 G' hle2 ⟨rfl, rfl, rfl⟩
    cases a1 : inL (tL s) (i + 1) 128 191 <;> (conv => whnf)
    · rw [show (m == 224) = false from beq_eq_false_iff_ne.2 (by omega)]
      (conv => whnf)
      rw [show (m == 237) = false from beq_eq_false_iff_ne.2 (by omega)]
      (conv => whnf)
      rw [decide_eq_false (show ¬ m ≥ 224 by omega)]
      (conv => whnf)
      rw [show (m == 240) = false from beq_eq_false_iff_ne.2 (by omega)]
      (conv => whnf)
      rw [show (m == 244) = false from beq_eq_false_iff_ne.2 (by omega)]
      (conv => whnf)
      rw [decide_eq_false (show ¬ m ≥ 240 by omega)]
      (conv => whnf)
      obtain rfl : r = 0 := by
        rw [hr, if_neg (show ¬ m = 224 by omega), if_neg (show ¬ m = 237 by omega), if_neg (show ¬ m = 240 by omega), if_neg (show ¬ m = 244 by omega)]
        simp only [a1, Bool.and_true, Bool.and_false, Bool.true_and, Bool.false_and, Bool.and_eq_true, decide_eq_true_eq, Bool.false_eq_true, if_false]
        repeat' split
        all_goals omega
      exact ⟨rfl, rfl, rfl⟩
    · obtain rfl : r = 2 := by
        rw [hr, if_neg (show ¬ m = 224 by omega), if_neg (show ¬ m = 237 by omega), if_neg (show ¬ m = 240 by omega), if_neg (show ¬ m = 244 by omega)]
        simp only [a1, Bool.and_true, Bool.and_false, Bool.true_and, Bool.false_and, Bool.and_eq_true, decide_eq_true_eq, Bool.false_eq_true, if_false]
        repeat' split
        all_goals omega
      exact ⟨rfl, rfl, rfl⟩
  by_cases h : m = 224
  · rw [decide_eq_true (show m ≥ 194 by omega)]
    (conv => whnf)
    rw [decide_eq_false (show ¬ m ≤ 223 by omega)]
    (conv => whnf)
    rw [show (m == 224) = true from by rw [beq_iff_eq]; omega]
    (conv => whnf)
    rw [show (m == 237) = false from beq_eq_false_iff_ne.2 (by omega)]
    (conv => whnf)
    rw [decide_eq_true (show m ≥ 224 by omega)]
    (conv => whnf)
    rw [decide_eq_true (show m ≤ 239 by omega)]
    (conv => whnf)
    rw [wrap64 (x := (i : Int) + 1) (by omega) (by omega)]
    refine ⟨⟨_, Tryz.func175, rfl, by kernel_rfl⟩, CallS.use (hin (i + 1) 160 191 (by omega)) [] rfl rfl trivial ?_⟩
    rintro e H2 G' hle2 ⟨rfl, rfl, rfl⟩
    cases a2 : inL (tL s) (i + 1) 160 191 <;> (conv => whnf)
    · rw [show (m == 240) = false from beq_eq_false_iff_ne.2 (by omega)]
      (conv => whnf)
      rw [show (m == 244) = false from beq_eq_false_iff_ne.2 (by omega)]
      (conv => whnf)
      rw [decide_eq_false (show ¬ m ≥ 240 by omega)]
      (conv => whnf)
      obtain rfl : r = 0 := by
        rw [hr, if_pos (show m = 224 by omega), if_neg (show ¬ m = 237 by omega), if_neg (show ¬ m = 240 by omega), if_neg (show ¬ m = 244 by omega)]
        simp only [a2, Bool.and_true, Bool.and_false, Bool.true_and, Bool.false_and, Bool.and_eq_true, decide_eq_true_eq, Bool.false_eq_true, if_false]
        repeat' split
        all_goals omega
      exact ⟨rfl, rfl, rfl⟩
    · rw [wrap64 (x := (i : Int) + 2) (by omega) (by omega)]
      refine ⟨⟨_, Tryz.func175, rfl, by kernel_rfl⟩, CallS.use (hin (i + 2) 128 191 (by omega)) [] rfl rfl trivial ?_⟩
      rintro e H2 G' hle2 ⟨rfl, rfl, rfl⟩
      cases a3 : inL (tL s) (i + 2) 128 191 <;> (conv => whnf)
      · rw [show (m == 240) = false from beq_eq_false_iff_ne.2 (by omega)]
        (conv => whnf)
        rw [show (m == 244) = false from beq_eq_false_iff_ne.2 (by omega)]
        (conv => whnf)
        rw [decide_eq_false (show ¬ m ≥ 240 by omega)]
        (conv => whnf)
        obtain rfl : r = 0 := by
          rw [hr, if_pos (show m = 224 by omega), if_neg (show ¬ m = 237 by omega), if_neg (show ¬ m = 240 by omega), if_neg (show ¬ m = 244 by omega)]
          simp only [a2, a3, Bool.and_true, Bool.and_false, Bool.true_and, Bool.false_and, Bool.and_eq_true, decide_eq_true_eq, Bool.false_eq_true, if_false]
          repeat' split
          all_goals omega
        exact ⟨rfl, rfl, rfl⟩
      · obtain rfl : r = 3 := by
          rw [hr, if_pos (show m = 224 by omega), if_neg (show ¬ m = 237 by omega), if_neg (show ¬ m = 240 by omega), if_neg (show ¬ m = 244 by omega)]
          simp only [a2, a3, Bool.and_true, Bool.and_false, Bool.true_and, Bool.false_and, Bool.and_eq_true, decide_eq_true_eq, Bool.false_eq_true, if_false]
          repeat' split
          all_goals omega
        exact ⟨rfl, rfl, rfl⟩
  by_cases h : m < 237
  · rw [decide_eq_true (show m ≥ 194 by omega)]
    (conv => whnf)
    rw [decide_eq_false (show ¬ m ≤ 223 by omega)]
    (conv => whnf)
    rw [show (m == 224) = false from beq_eq_false_iff_ne.2 (by omega)]
    (conv => whnf)
    rw [show (m == 237) = false from beq_eq_false_iff_ne.2 (by omega)]
    (conv => whnf)
    rw [decide_eq_true (show m ≥ 224 by omega)]
    (conv => whnf)
    rw [decide_eq_true (show m ≤ 239 by omega)]
    (conv => whnf)
    rw [wrap64 (x := (i : Int) + 1) (by omega) (by omega)]
    refine ⟨⟨_, Tryz.func175, rfl, by kernel_rfl⟩, CallS.use (hin (i + 1) 128 191 (by omega)) [] rfl rfl trivial ?_⟩
    rintro e H2 G' hle2 ⟨rfl, rfl, rfl⟩
    cases a4 : inL (tL s) (i + 1) 128 191 <;> (conv => whnf)
    · rw [show (m == 240) = false from beq_eq_false_iff_ne.2 (by omega)]
      (conv => whnf)
      rw [show (m == 244) = false from beq_eq_false_iff_ne.2 (by omega)]
      (conv => whnf)
      rw [decide_eq_false (show ¬ m ≥ 240 by omega)]
      (conv => whnf)
      obtain rfl : r = 0 := by
        rw [hr, if_neg (show ¬ m = 224 by omega), if_neg (show ¬ m = 237 by omega), if_neg (show ¬ m = 240 by omega), if_neg (show ¬ m = 244 by omega)]
        simp only [a4, Bool.and_true, Bool.and_false, Bool.true_and, Bool.false_and, Bool.and_eq_true, decide_eq_true_eq, Bool.false_eq_true, if_false]
        repeat' split
        all_goals omega
      exact ⟨rfl, rfl, rfl⟩
    · rw [wrap64 (x := (i : Int) + 2) (by omega) (by omega)]
      refine ⟨⟨_, Tryz.func175, rfl, by kernel_rfl⟩, CallS.use (hin (i + 2) 128 191 (by omega)) [] rfl rfl trivial ?_⟩
      rintro e H2 G' hle2 ⟨rfl, rfl, rfl⟩
      cases a5 : inL (tL s) (i + 2) 128 191 <;> (conv => whnf)
      · rw [show (m == 240) = false from beq_eq_false_iff_ne.2 (by omega)]
        (conv => whnf)
        rw [show (m == 244) = false from beq_eq_false_iff_ne.2 (by omega)]
        (conv => whnf)
        rw [decide_eq_false (show ¬ m ≥ 240 by omega)]
        (conv => whnf)
        obtain rfl : r = 0 := by
          rw [hr, if_neg (show ¬ m = 224 by omega), if_neg (show ¬ m = 237 by omega), if_neg (show ¬ m = 240 by omega), if_neg (show ¬ m = 244 by omega)]
          simp only [a4, a5, Bool.and_true, Bool.and_false, Bool.true_and, Bool.false_and, Bool.and_eq_true, decide_eq_true_eq, Bool.false_eq_true, if_false]
          repeat' split
          all_goals omega
        exact ⟨rfl, rfl, rfl⟩
      · obtain rfl : r = 3 := by
          rw [hr, if_neg (show ¬ m = 224 by omega), if_neg (show ¬ m = 237 by omega), if_neg (show ¬ m = 240 by omega), if_neg (show ¬ m = 244 by omega)]
          simp only [a4, a5, Bool.and_true, Bool.and_false, Bool.true_and, Bool.false_and, Bool.and_eq_true, decide_eq_true_eq, Bool.false_eq_true, if_false]
          repeat' split
          all_goals omega
        exact ⟨rfl, rfl, rfl⟩
  by_cases h : m = 237
  · rw [decide_eq_true (show m ≥ 194 by omega)]
    (conv => whnf)
    rw [decide_eq_false (show ¬ m ≤ 223 by omega)]
    (conv => whnf)
    rw [show (m == 224) = false from beq_eq_false_iff_ne.2 (by omega)]
    (conv => whnf)
    rw [show (m == 237) = true from by rw [beq_iff_eq]; omega]
    (conv => whnf)
    rw [decide_eq_true (show m ≥ 224 by omega)]
    (conv => whnf)
    rw [decide_eq_true (show m ≤ 239 by omega)]
    (conv => whnf)
    rw [wrap64 (x := (i : Int) + 1) (by omega) (by omega)]
    refine ⟨⟨_, Tryz.func175, rfl, by kernel_rfl⟩, CallS.use (hin (i + 1) 128 159 (by omega)) [] rfl rfl trivial ?_⟩
    rintro e H2 G' hle2 ⟨rfl, rfl, rfl⟩
    cases a6 : inL (tL s) (i + 1) 128 159 <;> (conv => whnf)
    · rw [show (m == 240) = false from beq_eq_false_iff_ne.2 (by omega)]
      (conv => whnf)
      rw [show (m == 244) = false from beq_eq_false_iff_ne.2 (by omega)]
      (conv => whnf)
      rw [decide_eq_false (show ¬ m ≥ 240 by omega)]
      (conv => whnf)
      obtain rfl : r = 0 := by
        rw [hr, if_neg (show ¬ m = 224 by omega), if_pos (show m = 237 by omega), if_neg (show ¬ m = 240 by omega), if_neg (show ¬ m = 244 by omega)]
        simp only [a6, Bool.and_true, Bool.and_false, Bool.true_and, Bool.false_and, Bool.and_eq_true, decide_eq_true_eq, Bool.false_eq_true, if_false]
        repeat' split
        all_goals omega
      exact ⟨rfl, rfl, rfl⟩
    · rw [wrap64 (x := (i : Int) + 2) (by omega) (by omega)]
      refine ⟨⟨_, Tryz.func175, rfl, by kernel_rfl⟩, CallS.use (hin (i + 2) 128 191 (by omega)) [] rfl rfl trivial ?_⟩
      rintro e H2 G' hle2 ⟨rfl, rfl, rfl⟩
      cases a7 : inL (tL s) (i + 2) 128 191 <;> (conv => whnf)
      · rw [show (m == 240) = false from beq_eq_false_iff_ne.2 (by omega)]
        (conv => whnf)
        rw [show (m == 244) = false from beq_eq_false_iff_ne.2 (by omega)]
        (conv => whnf)
        rw [decide_eq_false (show ¬ m ≥ 240 by omega)]
        (conv => whnf)
        obtain rfl : r = 0 := by
          rw [hr, if_neg (show ¬ m = 224 by omega), if_pos (show m = 237 by omega), if_neg (show ¬ m = 240 by omega), if_neg (show ¬ m = 244 by omega)]
          simp only [a6, a7, Bool.and_true, Bool.and_false, Bool.true_and, Bool.false_and, Bool.and_eq_true, decide_eq_true_eq, Bool.false_eq_true, if_false]
          repeat' split
          all_goals omega
        exact ⟨rfl, rfl, rfl⟩
      · obtain rfl : r = 3 := by
          rw [hr, if_neg (show ¬ m = 224 by omega), if_pos (show m = 237 by omega), if_neg (show ¬ m = 240 by omega), if_neg (show ¬ m = 244 by omega)]
          simp only [a6, a7, Bool.and_true, Bool.and_false, Bool.true_and, Bool.false_and, Bool.and_eq_true, decide_eq_true_eq, Bool.false_eq_true, if_false]
          repeat' split
          all_goals omega
        exact ⟨rfl, rfl, rfl⟩
  by_cases h : m < 240
  · rw [decide_eq_true (show m ≥ 194 by omega)]
    (conv => whnf)
    rw [decide_eq_false (show ¬ m ≤ 223 by omega)]
    (conv => whnf)
    rw [show (m == 224) = false from beq_eq_false_iff_ne.2 (by omega)]
    (conv => whnf)
    rw [show (m == 237) = false from beq_eq_false_iff_ne.2 (by omega)]
    (conv => whnf)
    rw [decide_eq_true (show m ≥ 224 by omega)]
    (conv => whnf)
    rw [decide_eq_true (show m ≤ 239 by omega)]
    (conv => whnf)
    rw [wrap64 (x := (i : Int) + 1) (by omega) (by omega)]
    refine ⟨⟨_, Tryz.func175, rfl, by kernel_rfl⟩, CallS.use (hin (i + 1) 128 191 (by omega)) [] rfl rfl trivial ?_⟩
    rintro e H2 G' hle2 ⟨rfl, rfl, rfl⟩
    cases a8 : inL (tL s) (i + 1) 128 191 <;> (conv => whnf)
    · rw [show (m == 240) = false from beq_eq_false_iff_ne.2 (by omega)]
      (conv => whnf)
      rw [show (m == 244) = false from beq_eq_false_iff_ne.2 (by omega)]
      (conv => whnf)
      rw [decide_eq_false (show ¬ m ≥ 240 by omega)]
      (conv => whnf)
      obtain rfl : r = 0 := by
        rw [hr, if_neg (show ¬ m = 224 by omega), if_neg (show ¬ m = 237 by omega), if_neg (show ¬ m = 240 by omega), if_neg (show ¬ m = 244 by omega)]
        simp only [a8, Bool.and_true, Bool.and_false, Bool.true_and, Bool.false_and, Bool.and_eq_true, decide_eq_true_eq, Bool.false_eq_true, if_false]
        repeat' split
        all_goals omega
      exact ⟨rfl, rfl, rfl⟩
    · rw [wrap64 (x := (i : Int) + 2) (by omega) (by omega)]
      refine ⟨⟨_, Tryz.func175, rfl, by kernel_rfl⟩, CallS.use (hin (i + 2) 128 191 (by omega)) [] rfl rfl trivial ?_⟩
      rintro e H2 G' hle2 ⟨rfl, rfl, rfl⟩
      cases a9 : inL (tL s) (i + 2) 128 191 <;> (conv => whnf)
      · rw [show (m == 240) = false from beq_eq_false_iff_ne.2 (by omega)]
        (conv => whnf)
        rw [show (m == 244) = false from beq_eq_false_iff_ne.2 (by omega)]
        (conv => whnf)
        rw [decide_eq_false (show ¬ m ≥ 240 by omega)]
        (conv => whnf)
        obtain rfl : r = 0 := by
          rw [hr, if_neg (show ¬ m = 224 by omega), if_neg (show ¬ m = 237 by omega), if_neg (show ¬ m = 240 by omega), if_neg (show ¬ m = 244 by omega)]
          simp only [a8, a9, Bool.and_true, Bool.and_false, Bool.true_and, Bool.false_and, Bool.and_eq_true, decide_eq_true_eq, Bool.false_eq_true, if_false]
          repeat' split
          all_goals omega
        exact ⟨rfl, rfl, rfl⟩
      · obtain rfl : r = 3 := by
          rw [hr, if_neg (show ¬ m = 224 by omega), if_neg (show ¬ m = 237 by omega), if_neg (show ¬ m = 240 by omega), if_neg (show ¬ m = 244 by omega)]
          simp only [a8, a9, Bool.and_true, Bool.and_false, Bool.true_and, Bool.false_and, Bool.and_eq_true, decide_eq_true_eq, Bool.false_eq_true, if_false]
          repeat' split
          all_goals omega
        exact ⟨rfl, rfl, rfl⟩
  by_cases h : m = 240
  · rw [decide_eq_true (show m ≥ 194 by omega)]
    (conv => whnf)
    rw [decide_eq_false (show ¬ m ≤ 223 by omega)]
    (conv => whnf)
    rw [show (m == 224) = false from beq_eq_false_iff_ne.2 (by omega)]
    (conv => whnf)
    rw [show (m == 237) = false from beq_eq_false_iff_ne.2 (by omega)]
    (conv => whnf)
    rw [decide_eq_true (show m ≥ 224 by omega)]
    (conv => whnf)
    rw [decide_eq_false (show ¬ m ≤ 239 by omega)]
    (conv => whnf)
    rw [show (m == 240) = true from by rw [beq_iff_eq]; omega]
    (conv => whnf)
    rw [show (m == 244) = false from beq_eq_false_iff_ne.2 (by omega)]
    (conv => whnf)
    rw [decide_eq_true (show m ≥ 240 by omega)]
    (conv => whnf)
    rw [decide_eq_true (show m ≤ 244 by omega)]
    (conv => whnf)
    rw [wrap64 (x := (i : Int) + 1) (by omega) (by omega)]
    refine ⟨⟨_, Tryz.func175, rfl, by kernel_rfl⟩, CallS.use (hin (i + 1) 144 191 (by omega)) [] rfl rfl trivial ?_⟩
    rintro e H2 G' hle2 ⟨rfl, rfl, rfl⟩
    cases a10 : inL (tL s) (i + 1) 144 191 <;> (conv => whnf)
    · obtain rfl : r = 0 := by
        rw [hr, if_neg (show ¬ m = 224 by omega), if_neg (show ¬ m = 237 by omega), if_pos (show m = 240 by omega), if_neg (show ¬ m = 244 by omega)]
        simp only [a10, Bool.and_true, Bool.and_false, Bool.true_and, Bool.false_and, Bool.and_eq_true, decide_eq_true_eq, Bool.false_eq_true, if_false]
        repeat' split
        all_goals omega
      exact ⟨rfl, rfl, rfl⟩
    · rw [wrap64 (x := (i : Int) + 2) (by omega) (by omega)]
      refine ⟨⟨_, Tryz.func175, rfl, by kernel_rfl⟩, CallS.use (hin (i + 2) 128 191 (by omega)) [] rfl rfl trivial ?_⟩
      rintro e H2 G' hle2 ⟨rfl, rfl, rfl⟩
      cases a11 : inL (tL s) (i + 2) 128 191 <;> (conv => whnf)
      · obtain rfl : r = 0 := by
          rw [hr, if_neg (show ¬ m = 224 by omega), if_neg (show ¬ m = 237 by omega), if_pos (show m = 240 by omega), if_neg (show ¬ m = 244 by omega)]
          simp only [a10, a11, Bool.and_true, Bool.and_false, Bool.true_and, Bool.false_and, Bool.and_eq_true, decide_eq_true_eq, Bool.false_eq_true, if_false]
          repeat' split
          all_goals omega
        exact ⟨rfl, rfl, rfl⟩
      · rw [wrap64 (x := (i : Int) + 3) (by omega) (by omega)]
        refine ⟨⟨_, Tryz.func175, rfl, by kernel_rfl⟩, CallS.use (hin (i + 3) 128 191 (by omega)) [] rfl rfl trivial ?_⟩
        rintro e H2 G' hle2 ⟨rfl, rfl, rfl⟩
        cases a12 : inL (tL s) (i + 3) 128 191 <;> (conv => whnf)
        · obtain rfl : r = 0 := by
            rw [hr, if_neg (show ¬ m = 224 by omega), if_neg (show ¬ m = 237 by omega), if_pos (show m = 240 by omega), if_neg (show ¬ m = 244 by omega)]
            simp only [a10, a11, a12, Bool.and_true, Bool.and_false, Bool.true_and, Bool.false_and, Bool.and_eq_true, decide_eq_true_eq, Bool.false_eq_true, if_false]
            repeat' split
            all_goals omega
          exact ⟨rfl, rfl, rfl⟩
        · obtain rfl : r = 4 := by
            rw [hr, if_neg (show ¬ m = 224 by omega), if_neg (show ¬ m = 237 by omega), if_pos (show m = 240 by omega), if_neg (show ¬ m = 244 by omega)]
            simp only [a10, a11, a12, Bool.and_true, Bool.and_false, Bool.true_and, Bool.false_and, Bool.and_eq_true, decide_eq_true_eq, Bool.false_eq_true, if_false]
            repeat' split
            all_goals omega
          exact ⟨rfl, rfl, rfl⟩
  by_cases h : m < 244
  · rw [decide_eq_true (show m ≥ 194 by omega)]
    (conv => whnf)
    rw [decide_eq_false (show ¬ m ≤ 223 by omega)]
    (conv => whnf)
    rw [show (m == 224) = false from beq_eq_false_iff_ne.2 (by omega)]
    (conv => whnf)
    rw [show (m == 237) = false from beq_eq_false_iff_ne.2 (by omega)]
    (conv => whnf)
    rw [decide_eq_true (show m ≥ 224 by omega)]
    (conv => whnf)
    rw [decide_eq_false (show ¬ m ≤ 239 by omega)]
    (conv => whnf)
    rw [show (m == 240) = false from beq_eq_false_iff_ne.2 (by omega)]
    (conv => whnf)
    rw [show (m == 244) = false from beq_eq_false_iff_ne.2 (by omega)]
    (conv => whnf)
    rw [decide_eq_true (show m ≥ 240 by omega)]
    (conv => whnf)
    rw [decide_eq_true (show m ≤ 244 by omega)]
    (conv => whnf)
    rw [wrap64 (x := (i : Int) + 1) (by omega) (by omega)]
    refine ⟨⟨_, Tryz.func175, rfl, by kernel_rfl⟩, CallS.use (hin (i + 1) 128 191 (by omega)) [] rfl rfl trivial ?_⟩
    rintro e H2 G' hle2 ⟨rfl, rfl, rfl⟩
    cases a13 : inL (tL s) (i + 1) 128 191 <;> (conv => whnf)
    · obtain rfl : r = 0 := by
        rw [hr, if_neg (show ¬ m = 224 by omega), if_neg (show ¬ m = 237 by omega), if_neg (show ¬ m = 240 by omega), if_neg (show ¬ m = 244 by omega)]
        simp only [a13, Bool.and_true, Bool.and_false, Bool.true_and, Bool.false_and, Bool.and_eq_true, decide_eq_true_eq, Bool.false_eq_true, if_false]
        repeat' split
        all_goals omega
      exact ⟨rfl, rfl, rfl⟩
    · rw [wrap64 (x := (i : Int) + 2) (by omega) (by omega)]
      refine ⟨⟨_, Tryz.func175, rfl, by kernel_rfl⟩, CallS.use (hin (i + 2) 128 191 (by omega)) [] rfl rfl trivial ?_⟩
      rintro e H2 G' hle2 ⟨rfl, rfl, rfl⟩
      cases a14 : inL (tL s) (i + 2) 128 191 <;> (conv => whnf)
      · obtain rfl : r = 0 := by
          rw [hr, if_neg (show ¬ m = 224 by omega), if_neg (show ¬ m = 237 by omega), if_neg (show ¬ m = 240 by omega), if_neg (show ¬ m = 244 by omega)]
          simp only [a13, a14, Bool.and_true, Bool.and_false, Bool.true_and, Bool.false_and, Bool.and_eq_true, decide_eq_true_eq, Bool.false_eq_true, if_false]
          repeat' split
          all_goals omega
        exact ⟨rfl, rfl, rfl⟩
      · rw [wrap64 (x := (i : Int) + 3) (by omega) (by omega)]
        refine ⟨⟨_, Tryz.func175, rfl, by kernel_rfl⟩, CallS.use (hin (i + 3) 128 191 (by omega)) [] rfl rfl trivial ?_⟩
        rintro e H2 G' hle2 ⟨rfl, rfl, rfl⟩
        cases a15 : inL (tL s) (i + 3) 128 191 <;> (conv => whnf)
        · obtain rfl : r = 0 := by
            rw [hr, if_neg (show ¬ m = 224 by omega), if_neg (show ¬ m = 237 by omega), if_neg (show ¬ m = 240 by omega), if_neg (show ¬ m = 244 by omega)]
            simp only [a13, a14, a15, Bool.and_true, Bool.and_false, Bool.true_and, Bool.false_and, Bool.and_eq_true, decide_eq_true_eq, Bool.false_eq_true, if_false]
            repeat' split
            all_goals omega
          exact ⟨rfl, rfl, rfl⟩
        · obtain rfl : r = 4 := by
            rw [hr, if_neg (show ¬ m = 224 by omega), if_neg (show ¬ m = 237 by omega), if_neg (show ¬ m = 240 by omega), if_neg (show ¬ m = 244 by omega)]
            simp only [a13, a14, a15, Bool.and_true, Bool.and_false, Bool.true_and, Bool.false_and, Bool.and_eq_true, decide_eq_true_eq, Bool.false_eq_true, if_false]
            repeat' split
            all_goals omega
          exact ⟨rfl, rfl, rfl⟩
  by_cases h : m = 244
  · rw [decide_eq_true (show m ≥ 194 by omega)]
    (conv => whnf)
    rw [decide_eq_false (show ¬ m ≤ 223 by omega)]
    (conv => whnf)
    rw [show (m == 224) = false from beq_eq_false_iff_ne.2 (by omega)]
    (conv => whnf)
    rw [show (m == 237) = false from beq_eq_false_iff_ne.2 (by omega)]
    (conv => whnf)
    rw [decide_eq_true (show m ≥ 224 by omega)]
    (conv => whnf)
    rw [decide_eq_false (show ¬ m ≤ 239 by omega)]
    (conv => whnf)
    rw [show (m == 240) = false from beq_eq_false_iff_ne.2 (by omega)]
    (conv => whnf)
    rw [show (m == 244) = true from by rw [beq_iff_eq]; omega]
    (conv => whnf)
    rw [decide_eq_true (show m ≥ 240 by omega)]
    (conv => whnf)
    rw [decide_eq_true (show m ≤ 244 by omega)]
    (conv => whnf)
    rw [wrap64 (x := (i : Int) + 1) (by omega) (by omega)]
    refine ⟨⟨_, Tryz.func175, rfl, by kernel_rfl⟩, CallS.use (hin (i + 1) 128 143 (by omega)) [] rfl rfl trivial ?_⟩
    rintro e H2 G' hle2 ⟨rfl, rfl, rfl⟩
    cases a16 : inL (tL s) (i + 1) 128 143 <;> (conv => whnf)
    · obtain rfl : r = 0 := by
        rw [hr, if_neg (show ¬ m = 224 by omega), if_neg (show ¬ m = 237 by omega), if_neg (show ¬ m = 240 by omega), if_pos (show m = 244 by omega)]
        simp only [a16, Bool.and_true, Bool.and_false, Bool.true_and, Bool.false_and, Bool.and_eq_true, decide_eq_true_eq, Bool.false_eq_true, if_false]
        repeat' split
        all_goals omega
      exact ⟨rfl, rfl, rfl⟩
    · rw [wrap64 (x := (i : Int) + 2) (by omega) (by omega)]
      refine ⟨⟨_, Tryz.func175, rfl, by kernel_rfl⟩, CallS.use (hin (i + 2) 128 191 (by omega)) [] rfl rfl trivial ?_⟩
      rintro e H2 G' hle2 ⟨rfl, rfl, rfl⟩
      cases a17 : inL (tL s) (i + 2) 128 191 <;> (conv => whnf)
      · obtain rfl : r = 0 := by
          rw [hr, if_neg (show ¬ m = 224 by omega), if_neg (show ¬ m = 237 by omega), if_neg (show ¬ m = 240 by omega), if_pos (show m = 244 by omega)]
          simp only [a16, a17, Bool.and_true, Bool.and_false, Bool.true_and, Bool.false_and, Bool.and_eq_true, decide_eq_true_eq, Bool.false_eq_true, if_false]
          repeat' split
          all_goals omega
        exact ⟨rfl, rfl, rfl⟩
      · rw [wrap64 (x := (i : Int) + 3) (by omega) (by omega)]
        refine ⟨⟨_, Tryz.func175, rfl, by kernel_rfl⟩, CallS.use (hin (i + 3) 128 191 (by omega)) [] rfl rfl trivial ?_⟩
        rintro e H2 G' hle2 ⟨rfl, rfl, rfl⟩
        cases a18 : inL (tL s) (i + 3) 128 191 <;> (conv => whnf)
        · obtain rfl : r = 0 := by
            rw [hr, if_neg (show ¬ m = 224 by omega), if_neg (show ¬ m = 237 by omega), if_neg (show ¬ m = 240 by omega), if_pos (show m = 244 by omega)]
            simp only [a16, a17, a18, Bool.and_true, Bool.and_false, Bool.true_and, Bool.false_and, Bool.and_eq_true, decide_eq_true_eq, Bool.false_eq_true, if_false]
            repeat' split
            all_goals omega
          exact ⟨rfl, rfl, rfl⟩
        · obtain rfl : r = 4 := by
            rw [hr, if_neg (show ¬ m = 224 by omega), if_neg (show ¬ m = 237 by omega), if_neg (show ¬ m = 240 by omega), if_pos (show m = 244 by omega)]
            simp only [a16, a17, a18, Bool.and_true, Bool.and_false, Bool.true_and, Bool.false_and, Bool.and_eq_true, decide_eq_true_eq, Bool.false_eq_true, if_false]
            repeat' split
            all_goals omega
          exact ⟨rfl, rfl, rfl⟩
  rw [decide_eq_true (show m ≥ 194 by omega)]
  (conv => whnf)
  rw [decide_eq_false (show ¬ m ≤ 223 by omega)]
  (conv => whnf)
  rw [show (m == 224) = false from beq_eq_false_iff_ne.2 (by omega)]
  (conv => whnf)
  rw [show (m == 237) = false from beq_eq_false_iff_ne.2 (by omega)]
  (conv => whnf)
  rw [decide_eq_true (show m ≥ 224 by omega)]
  (conv => whnf)
  rw [decide_eq_false (show ¬ m ≤ 239 by omega)]
  (conv => whnf)
  rw [show (m == 240) = false from beq_eq_false_iff_ne.2 (by omega)]
  (conv => whnf)
  rw [show (m == 244) = false from beq_eq_false_iff_ne.2 (by omega)]
  (conv => whnf)
  rw [decide_eq_true (show m ≥ 240 by omega)]
  (conv => whnf)
  rw [decide_eq_false (show ¬ m ≤ 244 by omega)]
  (conv => whnf)
  obtain rfl : r = 0 := by
    rw [hr, if_neg (show ¬ m = 224 by omega), if_neg (show ¬ m = 237 by omega), if_neg (show ¬ m = 240 by omega), if_neg (show ¬ m = 244 by omega)]
    simp only [Bool.and_true, Bool.and_false, Bool.true_and, Bool.false_and, Bool.and_eq_true, decide_eq_true_eq, Bool.false_eq_true, if_false]
    repeat' split
    all_goals omega
  exact ⟨rfl, rfl, rfl⟩
theorem wrong_ (s : ByteArray) (hs : s.size ≤ 1000000) (H : Hp) : CallO Tryz.prog 95 [pv (.string s)] H [] fun e H' G' => e = .ret (pv (.int .i64 (wrongI s))) ∧ H.Le H' ∧ G' = [] := by
  have hsz := size_eq s
  refine CallO.of_body tab Tryz.func95 rfl (nt := Tryz.f95.ntmps) rfl (by kernel_rfl) ?_
  (conv => whnf)
  refine WS.loop (fun k F H2 G => ∃ i j : Nat, i ≤ s.size ∧ s.size < i + j ∧ wrongP ((tL s).length + 1) (tL s) = wrongP j ((tL s).drop i) ∧ k = s.size - i ∧ F = [(0, pv (.string s)), (2, pv (.int .i64 0)), (3, pv (.int .i64 i))] ∧ H.Le H2 ∧ G = []) (s.size + 1) ?_ ?_
  · refine ⟨s.size, by omega, _, _, [], ⟨0, s.size + 1, by omega, by omega, by rw [hsz]; rfl, rfl, rfl, .refl _, rfl⟩, ?_⟩
    exact ⟨rfl, trivial, rfl, rfl, rfl, trivial⟩
  rintro k F H2 G hle ⟨i, j, hi, hj, hw, rfl, rfl, hle2, rfl⟩
  refine codeL.go tab ?_
  (conv => whnf)
  refine br.of (fun h1 => ?_) (fun h1 => ?_) <;> (conv => whnf)
  · have h1 := of_decide_eq_true h1
    refine ⟨⟨_, Tryz.func143, rfl, by kernel_rfl⟩, CallS.use (character_ s i (by omega) hs H2) [] rfl rfl trivial ?_⟩
    rintro e H3 G' hle3 ⟨rfl, rfl, rfl⟩
    have hdl : ((tL s).drop i).length = s.size - i := by rw [List.length_drop, hsz]
    obtain ⟨c, l, hcl⟩ : ∃ c l, (tL s).drop i = c :: l := by
      cases hx : (tL s).drop i with
      | nil => rw [hx] at hdl; simp at hdl; omega
      | cons c l => exact ⟨c, l, rfl⟩
    obtain ⟨j, rfl⟩ : ∃ j', j = j' + 1 := ⟨j - 1, by omega⟩
    have hch : charP ((tL s).drop i) ≤ s.size - i := by
      rw [← hdl, hcl]
      unfold charP
      split
      · omega
      · split
        · omega
        · split <;> omega
    rw [hcl] at hw hch ⊢
    rw [wrongP] at hw
    (conv => whnf)
    refine br.of (fun h2 => ?_) (fun h2 => ?_) <;> (conv => whnf)
    · simp only [beq_iff_eq] at h2
      rw [if_pos (by omega)] at hw
      refine ⟨?_, hle2, rfl⟩
      unfold wrongI
      rw [hw]
      show _ = SE.ret (pv (.int .i64 ((Js.pos s (c :: l) : Nat) : Int)))
      unfold Js.pos
      rw [← hcl, hdl, ← hsz, show s.size - (s.size - i) = i by omega]
      rfl
    · simp only [beq_eq_false_iff_ne, ne_eq] at h2
      rw [if_neg (by omega), ← hcl, List.drop_drop] at hw
      rw [hcl] at hw
      generalize charP (c :: l) = q at *
      rw [wrap64 (x := (i : Int) + q) (by omega) (by omega)]
      refine ⟨s.size - (i + q), by omega, _, _, [], ⟨i + q, j, by omega, by omega, hw, rfl, rfl, hle2, rfl⟩, ?_⟩
      exact ⟨rfl, trivial, rfl, rfl, rfl, trivial⟩
  · have h1 := of_decide_eq_false h1
    obtain rfl : i = s.size := by omega
    obtain ⟨j, rfl⟩ : ∃ j', j = j' + 1 := ⟨j - 1, by omega⟩
    rw [List.drop_of_length_le (by omega), wrongP] at hw
    refine ⟨?_, hle2, rfl⟩
    unfold wrongI
    rw [hw]
    rfl
end Go.Kx.Rf
namespace Go.Kx.Rf
open Go.Proofs Go.Kx Go.RowKit Go.Kx.Js Go.Kx.Pr
set_option maxRecDepth 20000
set_option linter.unusedSimpArgs false
namespace Qu
def T : Tab := [(9, { k := TK.string, agg := false, size := 1, bytes := 16, zero := [Z.s] }), (3, { k := TK.int IntKind.i64, agg := false, size := 1, bytes := 8, zero := [Z.i IntKind.i64] }), (4, { k := TK.bool, agg := false, size := 1, bytes := 1, zero := [Z.b] }), (5, { k := TK.int IntKind.u8, agg := false, size := 1, bytes := 1, zero := [Z.i IntKind.u8] })]
set_option maxRecDepth 100000 in
theorem tab : TabOk Tryz.prog T := tabOk_mk (ts := [9, 3, 4, 5]) (by kernel_rfl)
end Qu
abbrev means : List UInt8 := [8, 12, 10, 13, 9, 34, 92]
def c0 (x : UInt8) : List UInt8 := if x.toNat < 32 then [92, 117, 48, 48, hexL (x.toNat / 16), hexL (x.toNat % 16)] else [x]
def qI (x : UInt8) (k : Nat) : List UInt8 := if (means.take k).contains x then escB x else c0 x
theorem qI_end (x : UInt8) : qI x 7 = escB x := by
  have h : ∀ n : Fin 256, qI (UInt8.ofNat n.val) 7 = escB (UInt8.ofNat n.val) := by decide +kernel
  have h1 := h ⟨x.toNat, x.toNat_lt⟩
  simpa using h1
theorem esc_le (c : UInt8) : (escB c).length ≤ 6 := by
  unfold escB
  repeat' split
  all_goals simp
theorem flat_le : ∀ l : List UInt8, (l.flatMap escB).length ≤ 6 * l.length
  | [] => by simp
  | c :: l => by have := esc_le c; have := flat_le l; simp only [List.flatMap_cons, List.length_append, List.length_cons]; omega
theorem str_app (a b : List UInt8) : (⟨a.toArray⟩ : ByteArray) ++ ⟨b.toArray⟩ = ⟨(a ++ b).toArray⟩ := by
  apply ByteArray.ext
  rw [ByteArray.data_append]; simp
theorem ext1 (s : ByteArray) (i : Nat) (x : UInt8) (h : s.data.toList[i]? = some x) : s.extract i (i + 1) = ⟨#[x]⟩ := by
  have := Lib.extract_mk s.data.toList i (i + 1)
  have e : (⟨s.data.toList.toArray⟩ : ByteArray) = s := by cases s; simp
  rw [e] at this
  rw [this, show i + 1 - i = 1 by omega, List.drop_eq_getElem?_toList_append, h]
  rfl
abbrev hexS : ByteArray := ⟨#[48, 49, 50, 51, 52, 53, 54, 55, 56, 57, 97, 98, 99, 100, 101, 102]⟩
theorem q16 (n : Nat) (h : n < 32) : IntKind.u8.wrap ((n : Int).tdiv 16) = ((n / 16 : Nat) : Int) ∧ IntKind.u8.wrap (((n / 16 : Nat) : Int) + 1) = ((n / 16 + 1 : Nat) : Int) ∧ (n : Int).tmod 16 = ((n % 16 : Nat) : Int) ∧ IntKind.u8.wrap (((n % 16 : Nat) : Int) + 1) = ((n % 16 + 1 : Nat) : Int) := by
  have h1 : ∀ n : Fin 32, IntKind.u8.wrap ((n.val : Int).tdiv 16) = ((n.val / 16 : Nat) : Int) ∧ IntKind.u8.wrap (((n.val / 16 : Nat) : Int) + 1) = ((n.val / 16 + 1 : Nat) : Int) ∧ (n.val : Int).tmod 16 = ((n.val % 16 : Nat) : Int) ∧ IntKind.u8.wrap (((n.val % 16 : Nat) : Int) + 1) = ((n.val % 16 + 1 : Nat) : Int) := by decide +kernel
  exact h1 ⟨n, h⟩
theorem dg (j : Nat) (h : j < 16) : hexS.extract j (j + 1) = ⟨#[hexL j]⟩ := by
  refine ext1 hexS j (hexL j) ?_
  have h1 : ∀ j : Fin 16, hexS.data.toList[j.val]? = some (hexL j.val) := by decide +kernel
  exact h1 ⟨j, h⟩
abbrev shorts : List UInt8 := [98, 102, 110, 114, 116, 34, 92]
theorem qI_hit {j : Nat} (h : j < 7) : ∃ m d, means[j]? = some m ∧ shorts[j]? = some d ∧ qI m (j + 1) = [92, d] := by
  have h1 : ∀ j : Fin 7, means[j.val]? = some (means.getD j.val 0) ∧ shorts[j.val]? = some (shorts.getD j.val 0) ∧ qI (means.getD j.val 0) (j.val + 1) = [92, shorts.getD j.val 0] := by decide +kernel
  exact ⟨_, _, h1 ⟨j, h⟩⟩
theorem qI_miss {j : Nat} {m x : UInt8} (hm : means[j]? = some m) (h : m ≠ x) : qI x (j + 1) = qI x j := by
  unfold qI
  rw [List.take_add_one, hm]
  have e : ((means.take j) ++ (some m).toList).contains x = (means.take j).contains x := by
    rw [List.contains_eq_any_beq, List.contains_eq_any_beq, List.any_append]
    have : (x == m) = false := beq_eq_false_iff_ne.2 (Ne.symm h)
    simp [this]
  rw [e]
theorem quote_ (s : ByteArray) (hs : s.size ≤ 100000) (H : Hp) : CallO Tryz.prog 62 [pv (.string s)] H [] fun e H' G' => e = .ret (pv (.string ⟨(quoteB (tL s)).toArray⟩)) ∧ H' = H ∧ G' = [] := by
  have hsz := size_eq s
  refine CallO.of_body Qu.tab Tryz.func62 rfl (nt := Tryz.f62.ntmps) rfl (by kernel_rfl) ?_
  (conv => whnf)
  refine WS.loop (fun k F H2 G => ∃ i : Nat, i ≤ s.size ∧ k = s.size - i ∧ F = [(0, pv (.string s)), (2, pv (.string ⟨#[]⟩)), (3, pv (.string ⟨#[98, 102, 110, 114, 116, 34, 92]⟩)), (4, pv (.string ⟨#[8, 12, 10, 13, 9, 34, 92]⟩)), (5, pv (.string ⟨([34] ++ ((tL s).take i).flatMap escB).toArray⟩)), (6, pv (.int .i64 i))] ∧ H2 = H ∧ G = []) (s.size + 1) ?_ ?_
  · refine ⟨s.size, by omega, _, _, [], ⟨0, by omega, rfl, rfl, rfl, rfl⟩, ?_⟩
    exact ⟨rfl, trivial, rfl, rfl, rfl, rfl, rfl, rfl, trivial⟩
  rintro k F H2 G hle ⟨i, hi, rfl, rfl, rfl, rfl⟩
  refine codeL.go Qu.tab ?_
  (conv => whnf)
  refine br.of (fun h1 => ?_) (fun h1 => ?_) <;> (conv => whnf)
  · have h1 := of_decide_eq_true h1
    rw [wrap64 (x := (i : Int) + 1) (by omega) (by omega)]
    obtain ⟨x, hx, hv⟩ := Pa.bAt s i (by omega)
    refine ⟨⟨by omega, by omega, by omega⟩, ?_⟩
    rw [show s.extract (i : Int).toNat ((i : Int) + 1).toNat = ⟨#[x]⟩ from ext1 s i x hx]
    (conv => whnf)
    refine ⟨⟨by omega, by omega⟩, ?_⟩
    rw [hv]
    (conv => whnf)
    refine br.of (fun h2 => ?_) (fun h2 => ?_) <;> (conv => whnf)
    refine WS.draw Qu.tab Rf.mixed (.take 0 (.take 1 (.take 2 (.take 3 (.take 4 (.take 5 (.take 6 (.take 7 (.take 8 (.take 9 (.take 10 (.take 11 (.take 12 (.take 13 (.take 14 (.take 15 (.take 16 (.take 17 (.take 18 (.take 19 (.take 20 (.take 21 (.take 22 .done))))))))))))))))))))))) (by kernel_rfl) [] ?_
    (conv => whnf)
    rw [hv]
    refine ⟨⟨by omega, by omega⟩, ?_⟩
    (conv => whnf)
    refine ⟨by decide, ?_⟩
    (conv => whnf)
    refine ⟨⟨by omega, by omega⟩, ?_⟩
    rw [hv]
    (conv => whnf)
    refine ⟨by decide, ?_⟩
    (conv => whnf)
    obtain ⟨w1, w2, w3, w4⟩ := q16 x.toNat (by have := of_decide_eq_true h2; omega)
    rw [w1, w2]
    have hx32 : x.toNat < 32 := by have := of_decide_eq_true h2; omega
    refine ⟨⟨by omega, by omega, by show ((x.toNat / 16 + 1 : Nat) : Int) ≤ 16; omega⟩, ?_⟩
    rw [show hexS.extract (((x.toNat / 16 : Nat) : Int)).toNat (((x.toNat / 16 + 1 : Nat) : Int)).toNat = ⟨#[hexL (x.toNat / 16)]⟩ from dg _ (by omega)]
    (conv => whnf)
    refine ⟨by show 4 + 1 ≤ _; decide, ?_⟩
    rw [show (⟨#[92, 117, 48, 48]⟩ : ByteArray) ++ ⟨#[hexL (x.toNat / 16)]⟩ = ⟨#[92, 117, 48, 48, hexL (x.toNat / 16)]⟩ from str_app [92, 117, 48, 48] [hexL (x.toNat / 16)]]
    (conv => whnf)
    refine ⟨⟨by omega, by omega⟩, ?_⟩
    rw [hv]
    (conv => whnf)
    refine ⟨by decide, ?_⟩
    (conv => whnf)
    refine ⟨⟨by omega, by omega⟩, ?_⟩
    rw [hv]
    (conv => whnf)
    refine ⟨by decide, ?_⟩
    (conv => whnf)
    rw [w3, w4]
    refine ⟨⟨by omega, by omega, by show ((x.toNat % 16 + 1 : Nat) : Int) ≤ 16; omega⟩, ?_⟩
    rw [show hexS.extract (((x.toNat % 16 : Nat) : Int)).toNat (((x.toNat % 16 + 1 : Nat) : Int)).toNat = ⟨#[hexL (x.toNat % 16)]⟩ from dg _ (by omega)]
    (conv => whnf)
    refine ⟨by show 5 + 1 ≤ _; decide, ?_⟩
    rw [show (⟨#[92, 117, 48, 48, hexL (x.toNat / 16)]⟩ : ByteArray) ++ ⟨#[hexL (x.toNat % 16)]⟩ = ⟨(c0 x).toArray⟩ from (str_app [92, 117, 48, 48, hexL (x.toNat / 16)] [hexL (x.toNat % 16)]).trans (by unfold c0; rw [if_pos hx32]; rfl)]
    (conv => whnf)
    rotate_left
    rw [show (⟨#[x]⟩ : ByteArray) = ⟨(c0 x).toArray⟩ by unfold c0; rw [if_neg (by have := of_decide_eq_false h2; omega)]]
    all_goals refine WS.loop (fun k F H3 G => ∃ j : Nat, j ≤ 7 ∧ k = 7 - j ∧ F = [(0, pv (.string s)), (2, pv (.string ⟨#[]⟩)), (3, pv (.string ⟨#[98, 102, 110, 114, 116, 34, 92]⟩)), (4, pv (.string ⟨#[8, 12, 10, 13, 9, 34, 92]⟩)), (5, pv (.string ⟨([34] ++ ((tL s).take i).flatMap escB).toArray⟩)), (6, pv (.int .i64 i)), (7, pv (.string ⟨(qI x j).toArray⟩)), (8, pv (.int .i64 j))] ∧ H3 = H2 ∧ G = []) 8 ?_ ?_
    any_goals (refine ⟨7, by omega, _, _, [], ⟨0, by omega, rfl, rfl, rfl, rfl⟩, ?_⟩; exact ⟨rfl, trivial, rfl, rfl, rfl, rfl, rfl, rfl, rfl, rfl, trivial⟩)
    all_goals rintro k F H3 G hle3 ⟨j, hj, rfl, rfl, rfl, rfl⟩
    all_goals refine codeL.go Qu.tab ?_
    all_goals (conv => whnf)
    all_goals refine br.of (fun h3 => ?_) (fun h3 => ?_) <;> (conv => whnf)
    iterate 2
      · have h3 : (j : Int) < 7 := of_decide_eq_true h3
        obtain ⟨m, d, hm, hd, hq⟩ := qI_hit (show j < 7 by omega)
        refine WS.draw Qu.tab Rf.mixed (.take 0 (.take 1 (.take 2 (.take 3 (.take 4 (.take 5 (.take 6 .done))))))) (by kernel_rfl) [] ?_
        (conv => whnf)
        refine ⟨⟨by omega, by show (j : Int) < 7; omega⟩, ?_⟩
        rw [show byteAt ⟨#[8, 12, 10, 13, 9, 34, 92]⟩ (j : Int) = (m.toNat : Int) from (by obtain ⟨m', hm', hv'⟩ := Pa.bAt ⟨#[8, 12, 10, 13, 9, 34, 92]⟩ j (by show j < 7; omega); rw [hv']; have : some m' = some m := hm'.symm.trans hm; injection this with this; rw [this])]
        (conv => whnf)
        refine ⟨⟨by omega, by omega⟩, ?_⟩
        rw [hv]
        (conv => whnf)
        refine br.of (fun h4 => ?_) (fun h4 => ?_) <;> (conv => whnf)
        · have hmx : m = x := by
            simp only [beq_iff_eq] at h4
            exact UInt8.toNat_inj.1 (by omega)
          rw [wrap64 (x := (j : Int) + 1) (by omega) (by omega)]
          refine ⟨⟨by omega, by omega, by show (j : Int) + 1 ≤ 7; omega⟩, ?_⟩
          rw [show (⟨#[98, 102, 110, 114, 116, 34, 92]⟩ : ByteArray).extract (j : Int).toNat ((j : Int) + 1).toNat = ⟨#[d]⟩ from ext1 _ j d hd]
          (conv => whnf)
          refine ⟨by show 1 + 1 ≤ _; decide, ?_⟩
          rw [show (⟨#[92]⟩ : ByteArray) ++ ⟨#[d]⟩ = ⟨(qI x (j + 1)).toArray⟩ from (str_app [92] [d]).trans (by rw [← hmx, hq]; rfl)]
          (conv => whnf)
          rw [wrap64 (x := (j : Int) + 1) (by omega) (by omega)]
          refine ⟨7 - (j + 1), by omega, _, _, [], ⟨j + 1, by omega, rfl, rfl, rfl, rfl⟩, ?_⟩
          exact ⟨rfl, trivial, rfl, rfl, rfl, rfl, rfl, rfl, rfl, rfl, trivial⟩
        · have hmx : m ≠ x := fun h => by subst h; simp at h4
          rw [wrap64 (x := (j : Int) + 1) (by omega) (by omega)]
          refine ⟨7 - (j + 1), by omega, _, _, [], ⟨j + 1, by omega, rfl, rfl, rfl, rfl⟩, ?_⟩
          rw [qI_miss hm hmx]
          exact ⟨rfl, trivial, rfl, rfl, rfl, rfl, rfl, rfl, rfl, rfl, trivial⟩
      · have h3 : ¬ (j : Int) < 7 := of_decide_eq_false h3
        obtain rfl : j = 7 := by omega
        have hf := flat_le ((tL s).take i)
        have hl : ((tL s).take i).length ≤ s.size := by rw [List.length_take]; omega
        rw [qI_end]
        have he := esc_le x
        refine ⟨?_, ?_⟩
        · show ([34] ++ List.flatMap escB ((tL s).take i)).toArray.size + (escB x).toArray.size ≤ _
          rw [List.size_toArray, List.size_toArray, List.length_append, List.length_singleton]; omega
        rw [str_app]
        (conv => whnf)
        rw [wrap64 (x := (i : Int) + 1) (by omega) (by omega)]
        refine ⟨s.size - (i + 1), by omega, _, _, [], ⟨i + 1, by omega, rfl, rfl, rfl, rfl⟩, ?_⟩
        rw [List.take_add_one, show (tL s)[i]? = some x from hx, List.flatMap_append, ← List.append_assoc, show (some x).toList.flatMap escB = escB x by simp]
        exact ⟨rfl, trivial, rfl, rfl, rfl, rfl, rfl, rfl, trivial⟩
  · have h1 := of_decide_eq_false h1
    obtain rfl : i = s.size := by omega
    rw [List.take_of_length_le (by omega)]
    have hf := flat_le (tL s)
    refine ⟨?_, ?_⟩
    · show ([34] ++ List.flatMap escB (tL s)).toArray.size + 1 ≤ _
      rw [List.size_toArray, List.length_append, List.length_singleton]; omega
    (conv => whnf)
    refine ⟨?_, rfl, rfl⟩
    show SE.ret (pv (.string ((⟨([34] ++ List.flatMap escB (tL s)).toArray⟩ : ByteArray) ++ ⟨[34].toArray⟩))) = _
    rw [str_app]; rfl
end Go.Kx.Rf
namespace Go.Kx.En
open Go.Proofs Go.Kx Go.RowKit Go.Kx.Js Go.Kx.Pr Go.Kx.Bu
set_option maxRecDepth 20000
set_option linter.unusedSimpArgs false
def T : Tab := [(161, { k := TK.st [(0, 3, 1), (1, 3, 1)], agg := true, size := 2, bytes := 16, zero := [Z.i IntKind.i64, Z.i IntKind.i64] }), (98, { k := TK.st [(0, 96, 1), (1, 55, 1)], agg := true, size := 2, bytes := 32, zero := [Z.p, Z.sl] }), (5, { k := TK.int IntKind.u8, agg := false, size := 1, bytes := 1, zero := [Z.i IntKind.u8] }), (9, { k := TK.string, agg := false, size := 1, bytes := 16, zero := [Z.s] }), (55, { k := TK.slice 5, agg := false, size := 1, bytes := 24, zero := [Z.sl] }), (143, { k := TK.func, agg := false, size := 1, bytes := 8, zero := [Z.fn] }), (3, { k := TK.int IntKind.i64, agg := false, size := 1, bytes := 8, zero := [Z.i IntKind.i64] }), (4, { k := TK.bool, agg := false, size := 1, bytes := 1, zero := [Z.b] }), (138, { k := TK.ifc, agg := false, size := 1, bytes := 16, zero := [Z.ifc] }), (195, { k := TK.ptr 161, agg := false, size := 1, bytes := 8, zero := [Z.p] }), (35, { k := TK.int IntKind.i64, agg := false, size := 1, bytes := 8, zero := [Z.i IntKind.i64] }), (96, { k := TK.ptr 98, agg := false, size := 1, bytes := 8, zero := [Z.p] })]
set_option maxRecDepth 100000 in
theorem tab : TabOk Tryz.prog T := tabOk_mk (ts := [161, 98, 5, 9, 55, 143, 3, 4, 138, 195, 35, 96]) (by kernel_rfl)
theorem mixed : Tryz.prog.follows .mixedOrders = true := by kernel_rfl
def bitB (r n : Int) : SB := .box 161 [.val (.int .i64 r), .val (.int .i64 n)]
theorem ofI (x : Nat) : BitVec.ofInt 64 (x : Int) = BitVec.ofNat 64 x := by simp
theorem orW (x c : Nat) (hx : x < 9223372036854775808) (hc : c < 9223372036854775808) : IntKind.i64.wrap (((BitVec.ofInt IntKind.i64.bits (x : Int) ||| BitVec.ofInt IntKind.i64.bits (c : Int)).toNat : Nat) : Int) = ((x ||| c : Nat) : Int) := by
  show IntKind.i64.wrap (((BitVec.ofInt 64 (x : Int) ||| BitVec.ofInt 64 (c : Int)).toNat : Nat) : Int) = ((x ||| c : Nat) : Int)
  rw [ofI, ofI, BitVec.toNat_or, BitVec.toNat_ofNat, BitVec.toNat_ofNat, Nat.mod_eq_of_lt (by omega), Nat.mod_eq_of_lt (by omega)]
  have : x ||| c < 2 ^ 63 := Nat.or_lt_two_pow (by omega) (by omega)
  rw [wrap64 (by omega) (by omega)]
theorem andW (x c : Nat) (hx : x < 9223372036854775808) (hc : c < 9223372036854775808) : IntKind.i64.wrap (((BitVec.ofInt IntKind.i64.bits (x : Int) &&& BitVec.ofInt IntKind.i64.bits (c : Int)).toNat : Nat) : Int) = ((x &&& c : Nat) : Int) := by
  show IntKind.i64.wrap (((BitVec.ofInt 64 (x : Int) &&& BitVec.ofInt 64 (c : Int)).toNat : Nat) : Int) = ((x &&& c : Nat) : Int)
  rw [ofI, ofI, BitVec.toNat_and, BitVec.toNat_ofNat, BitVec.toNat_ofNat, Nat.mod_eq_of_lt (by omega), Nat.mod_eq_of_lt (by omega)]
  have : x &&& c < 2 ^ 63 := Nat.and_lt_two_pow x (by omega)
  rw [wrap64 (by omega) (by omega)]
theorem push_ (r n c w : Nat) (hr : r < 64) (hn : n < 16) (hw : w ≤ 8) (hc : c < 2 ^ w) (H : Hp) : CallO Tryz.prog 119 [.si (.ce (.ptr 0 0)), pv (.int .i64 c), pv (.int .i64 w)] H [bitB r n] fun e H' G' => e = .ret (.tu []) ∧ H' = H ∧ G' = [bitB (r * 2 ^ w + c : Nat) (n + w : Nat)] := by
  refine CallO.of_body tab Tryz.func119 rfl (nt := Tryz.f119.ntmps) rfl (by kernel_rfl) ?_
  (conv => whnf)
  refine ⟨by omega, ?_⟩
  (conv => whnf)
  have h2 : (2 : Nat) ^ w ≤ 2 ^ 8 := Nat.pow_le_pow_right (by omega) hw
  have h3 : r * 2 ^ w ≤ 63 * 256 := Nat.mul_le_mul (by omega) h2
  have e1 : IntKind.i64.wrap ((r : Int) * 2 ^ min (w : Int).toNat IntKind.i64.bits) = ((r * 2 ^ w : Nat) : Int) := by
    have : min (w : Int).toNat IntKind.i64.bits = w := by
      rw [Int.toNat_natCast]
      exact Nat.min_eq_left (Nat.le_trans hw (by decide))
    rw [this]
    have e : ((r : Int) * 2 ^ w) = ((r * 2 ^ w : Nat) : Int) := by simp
    rw [e, wrap64 (by omega) (by omega)]
  rw [e1, orW _ _ (by omega) (by have := Nat.pow_le_pow_right (n := 2) (by omega) hw; omega), wrap64 (x := (n : Int) + w) (by omega) (by omega)]
  have e2 : r * 2 ^ w ||| c = r * 2 ^ w + c := by rw [Nat.mul_comm, ← Nat.two_pow_add_eq_or_of_lt hc r]
  rw [e2]
  exact ⟨rfl, rfl, rfl⟩
theorem pop_ (r n w : Nat) (hr : r < 65536) (hn : n < 32) (hw : w ≤ 8) (H : Hp) : CallO Tryz.prog 120 [.si (.ce (.ptr 0 0)), pv (.int .i64 w)] H [bitB r n] fun e H' G' => (n < w → e = .ret (.tu [.ce (.val (.int .i64 0)), .ce (.val (.bool false))]) ∧ G' = [bitB r n]) ∧ (¬ n < w → e = .ret (.tu [.ce (.val (.int .i64 ((r / 2 ^ (n - w) : Nat) : Int))), .ce (.val (.bool true))]) ∧ G' = [bitB (r % 2 ^ (n - w) : Nat) (n - w : Nat)]) ∧ H' = H := by
  refine CallO.of_body tab Tryz.func120 rfl (nt := Tryz.f120.ntmps) rfl (by kernel_rfl) ?_
  (conv => whnf)
  refine br.of (fun h1 => ?_) (fun h1 => ?_) <;> (conv => whnf)
  · have h1 := of_decide_eq_true h1
    exact ⟨fun _ => ⟨rfl, rfl⟩, fun h => absurd (by omega) h, rfl⟩
  have h1 := of_decide_eq_false h1
  rw [wrap64 (x := (n : Int) - w) (by omega) (by omega)]
  refine WS.draw tab mixed (.take 0 (.take 1 (.take 2 (.take 3 (.take 4 (.take 5 (.take 6 (.take 7 (.take 8 (.take 9 .done)))))))))) (by kernel_rfl) [] ?_
  (conv => whnf)
  refine ⟨by omega, ?_⟩
  (conv => whnf)
  obtain ⟨q, hq⟩ : ∃ q : Nat, n - w = q := ⟨_, rfl⟩
  have hqi : (n : Int) - w = (q : Int) := by omega
  have hq32 : q < 32 := by omega
  rw [hqi, hq]
  have hp : (2 : Nat) ^ q ≤ 2 ^ 31 := Nat.pow_le_pow_right (by omega) (by omega)
  have hp0 : 0 < (2 : Nat) ^ q := Nat.two_pow_pos q
  have hmin : min (q : Int).toNat IntKind.i64.bits = q := by
    rw [Int.toNat_natCast]
    exact Nat.min_eq_left (Nat.le_trans (by omega : q ≤ 64) (by decide))
  have hdiv : (r : Int).fdiv (2 ^ min (q : Int).toNat IntKind.i64.bits) = ((r / 2 ^ q : Nat) : Int) := by
    rw [hmin]
    have : ((2 : Int) ^ q) = ((2 ^ q : Nat) : Int) := by simp
    rw [this, Int.fdiv_eq_ediv_of_nonneg _ (by omega)]; rfl
  rw [hdiv]
  have hsh : IntKind.i64.wrap (IntKind.i64.wrap ((1 : Int) * 2 ^ min (q : Int).toNat IntKind.i64.bits) - 1) = ((2 ^ q - 1 : Nat) : Int) := by
    rw [hmin]
    have : ((2 : Int) ^ q) = ((2 ^ q : Nat) : Int) := by simp
    rw [this, Int.one_mul]
    clear hdiv this
    generalize (2 : Nat) ^ q = P at *
    rw [wrap64 (x := (P : Int)) (by omega) (by omega), wrap64 (by omega) (by omega)]
    omega
  have hlt : 2 ^ q - 1 < 9223372036854775808 := by omega
  have hr2 : r < 9223372036854775808 := by omega
  have hq0 : (0 : Int) ≤ (q : Int) := by omega
  refine WS.draw tab mixed (.take 0 (.take 1 (.take 2 (.take 4 (.take 5 (.take 6 (.alt 3 (.alt 7 (.take 8 (.take 9 (.take 10 (.take 11 (.take 12 (.alt 13 .done .no)))))) .no) (.alt 7 (.take 8 (.take 9 (.alt 3 (.take 10 (.take 11 (.take 12 (.alt 13 .done .no)))) .no))) .no)))))))) (by kernel_rfl) [0] ?_
  (conv => whnf)
  repeat' (first | exact trivial | exact rfl | exact ⟨fun h => absurd h (by omega), fun _ => ⟨rfl, rfl⟩, rfl⟩ | (refine ⟨hq0, ?_⟩; (conv => whnf)) | (rw [hsh, andW r (2 ^ q - 1) hr2 hlt, Nat.and_two_pow_sub_one_eq_mod]; (conv => whnf)) | (refine And.intro ?_ ?_ <;> (conv => whnf)))
end Go.Kx.En
namespace Go.Kx
open Go.RowKit
section
variable {P : Program}
theorem WS.nilCell {n e : Nat} {D : Pin} {c : Code} {K : KT} {F : Fr} {H : Hp} {G : List SB} (k i : Nat) {t : TypeId} {cs : List SC} (et sz : Nat) (hk : G[k]? = some (.box t cs)) (hi : cs[i]? = some (.val (.slice none 0 0)))
    (h : WS P n e D c K F H (G.set k (.box t (cs.set i (.self G.length))) ++ [.row et sz 0 []])) : WS P n e D c K F H G := by
  refine ⟨fun w0 M hgd H0 ρ a w hs hf hd hn => ?_⟩
  have hs' := hs.nilCell et sz hk hi
  exact wp_mono (h.to w0 M hgd H0 _ a w hs' (hf.mono (Pre.append _ _)) hd hn) (PostX.le (Pre.append _ _).toE (.refl _))
end
end Go.Kx
namespace Go.Kx.En
open Go.Proofs Go.Kx Go.RowKit Go.Kx.Js Go.Kx.Pr Go.Kx.Bu
set_option maxRecDepth 20000
set_option linter.unusedSimpArgs false
def lettersL : List UInt8 := [65, 66, 67, 68, 69, 70, 71, 72, 73, 74, 75, 76, 77, 78, 79, 80, 81, 82, 83, 84, 85, 86, 87, 88, 89, 90, 97, 98, 99, 100, 101, 102, 103, 104, 105, 106, 107, 108, 109, 110, 111, 112, 113, 114, 115, 116, 117, 118, 119, 120, 121, 122, 48, 49, 50, 51, 52, 53, 54, 55, 56, 57, 45, 95]
def letterP (n : Nat) : UInt8 := lettersL.getD n 0
theorem letter_at (n : Nat) : byteAt ⟨lettersL.toArray⟩ (n : Int) = ((letterP n).toNat : Int) := by
  unfold byteAt letterP
  rw [Int.toNat_natCast]
def popsP : Nat → Nat → Nat → List UInt8 × Nat × Nat
  | 0, r, n => ([], r, n)
  | f + 1, r, n => if n < 6 then ([], r, n) else ((letterP (r / 2 ^ (n - 6))) :: (popsP f (r % 2 ^ (n - 6)) (n - 6)).1, (popsP f (r % 2 ^ (n - 6)) (n - 6)).2)
def encG : Nat → Nat → List UInt8 → List UInt8
  | r, n, [] => if 0 < n then [letterP (r * 2 ^ (6 - n))] else []
  | r, n, c :: l => (popsP 3 (r * 2 ^ 8 + c.toNat) (n + 8)).1 ++ encG (popsP 3 (r * 2 ^ 8 + c.toNat) (n + 8)).2.1 (popsP 3 (r * 2 ^ 8 + c.toNat) (n + 8)).2.2 l
def encP (l : List UInt8) : List UInt8 := encG 0 0 l
theorem popsP_inv : ∀ (f r n : Nat), n < 6 * (f + 1) → r < 2 ^ n → (popsP f r n).2.2 < 6 ∧ (popsP f r n).2.1 < 2 ^ (popsP f r n).2.2 ∧ (popsP f r n).1.length ≤ f
  | 0, r, n, h, hr => ⟨by simpa [popsP] using h, by simpa [popsP] using hr, by simp [popsP]⟩
  | f + 1, r, n, h, hr => by
    unfold popsP
    split
    · exact ⟨by assumption, hr, by simp⟩
    · obtain ⟨h1, h2, h3⟩ := popsP_inv f (r % 2 ^ (n - 6)) (n - 6) (by omega) (Nat.mod_lt _ (Nat.two_pow_pos _))
      exact ⟨h1, h2, by simp only [List.length_cons]; omega⟩
abbrev clo : SV := .si (.ce (.fn (.func 106) 1 [(0, 0)]))
theorem _root_.Go.Kx.BytesZ.full {H : Hp} {A : Option Addr} {n : Nat} {bs : List UInt8} (h : BytesZ H A n bs) (h0 : n ≠ 0) : BytesAt H A n bs := ⟨h.1, h.2.1, fun a e => (h.2.2 a e).resolve_left h0⟩
theorem encZ_ (bs : List UInt8) (A : Option Addr) (c : Nat) (hn : bs.length ≤ 1000000) (H : Hp) (hb : BytesZ H A bs.length bs) :
    CallO Tryz.prog 73 [pv (.slice A bs.length c)] H [] fun e H' G' => e = .ret (pv (.string ⟨(encP bs).toArray⟩)) ∧ H.Le H' ∧ G' = [] := by
  refine CallO.of_body tab Tryz.func73 rfl (nt := Tryz.f73.ntmps) rfl (by kernel_rfl) ?_
  (conv => whnf)
  refine WS.nilCell 0 1 5 1 rfl rfl ?_
  refine WS.loop (fun k' F H3 G => ∃ (i : Nat) (w : Bool) (r k : Nat) (out : List UInt8), i ≤ bs.length ∧ k < 6 ∧ r < 2 ^ k ∧ out.length ≤ 3 * i ∧ out ++ encG r k (bs.drop i) = encP bs ∧ k' = bs.length - i ∧ F = [(3, .si (.ce (.ptr 0 0))), (4, .si (.ce (.ptr 1 0))), (5, clo), (13, pv (.slice A bs.length c)), (14, pv (.int .i64 bs.length)), (15, pv (.int .i64 i))] ∧ H.Le H3 ∧ G = [bB w (.self 2), bitB r k, rB out]) (bs.length + 1) ?_ ?_
  · refine ⟨bs.length, by omega, _, _, [0, 1, 2], ⟨0, false, 0, 0, [], by omega, by omega, by omega, by simp, rfl, rfl, rfl, .refl _, rfl⟩, ?_⟩
    exact ⟨rfl, ⟨rfl, rfl, rfl, trivial⟩, rfl, rfl, rfl, rfl, rfl, rfl, trivial⟩
  rintro k' F H3 G hle3 ⟨i, w, r, k, out, hi, hk6, hrk, hol, henc, rfl, rfl, hle4, rfl⟩
  refine codeL.go tab ?_
  (conv => whnf)
  refine br.of (fun h1 => ?_) (fun h1 => ?_) <;> (conv => whnf)
  · have h1 := of_decide_eq_true h1
    have hil : i < bs.length := by omega
    have hget : bs[i]? = some (bs[i]'hil) := List.getElem?_eq_getElem _
    have hdr : bs.drop i = bs[i]'hil :: bs.drop (i + 1) := List.drop_eq_getElem_cons hil
    generalize bs[i]'hil = x at hget hdr
    have hx : x.toNat < 256 := x.toNat_lt
    have hr64 : r < 64 := Nat.lt_of_lt_of_le hrk (Nat.le_trans (Nat.pow_le_pow_right (by omega) (show k ≤ 6 by omega)) (by decide))
    obtain ⟨gb, go, hA, hcell⟩ : ∃ b o, A = some ⟨b, o, none⟩ ∧ RdC H3 A ((i : Int).toNat * 1) (.int .u8 x.toNat) := by
      obtain ⟨q1, q2, q3⟩ := hb.mono hle4
      cases A with
      | none => rw [q2 rfl] at hil; simp at hil
      | some a =>
        obtain ⟨b, o, e1, e2⟩ := (q3 a rfl).resolve_left (by omega)
        refine ⟨b, o, e1, b, o, e1, ?_⟩
        have := e2 i (.int .u8 x.toNat) (by unfold bCells; simp [hget])
        rw [← this]; congr 1; omega
    refine ⟨⟨by omega, by omega⟩, ⟨_, _, hA⟩, ?_⟩
    (conv => whnf)
    refine ⟨_, hcell, ?_⟩
    (conv => whnf)
    rw [wrap64 (x := (x.toNat : Int)) (by omega) (by omega)]
    refine ⟨⟨_, Tryz.func119, rfl, by kernel_rfl⟩, CallS.use (push_ r k x.toNat 8 hr64 (by omega) (by omega) (by omega) H3) [1] rfl rfl ⟨rfl, trivial⟩ ?_⟩
    rintro e H4 G' hle5 ⟨rfl, rfl, rfl⟩
    (conv => whnf)
    rw [hdr, encG] at henc
    have hr1 : r * 2 ^ 8 + x.toNat < 2 ^ (k + 8) := by
      rw [Nat.pow_add]
      have : r * 2 ^ 8 + 256 ≤ 2 ^ k * 2 ^ 8 := by
        have := Nat.mul_le_mul_right (2 ^ 8) (show r + 1 ≤ 2 ^ k by omega)
        omega
      omega
    obtain ⟨p1, p2, p3⟩ := popsP_inv 3 (r * 2 ^ 8 + x.toNat) (k + 8) (by omega) hr1
    have hr16 : r * 2 ^ 8 + x.toNat < 65536 := by omega
    generalize r * 2 ^ 8 + x.toNat = R at *
    generalize hK : k + 8 = K1 at *
    have hK16 : K1 < 16 := by omega
    generalize hPP : popsP 3 R K1 = PP at *
    obtain ⟨PL, PR, PK⟩ := PP
    refine WS.loop (fun k' F H5 G => ∃ (w : Bool) (r2 k2 f : Nat) (o2 : List UInt8), k2 ≤ 15 ∧ r2 < 2 ^ k2 ∧ k2 < 6 * (f + 1) ∧ f ≤ 3 ∧ o2.length + f ≤ out.length + 3 ∧ o2 ++ (popsP f r2 k2).1 = out ++ PL ∧ (popsP f r2 k2).2 = (PR, PK) ∧ k' = k2 ∧ F = [(3, .si (.ce (.ptr 0 0))), (4, .si (.ce (.ptr 1 0))), (5, clo), (13, pv (.slice A bs.length c)), (14, pv (.int .i64 bs.length)), (15, pv (.int .i64 i))] ∧ H4.Le H5 ∧ G = [bB w (.self 2), bitB r2 k2, rB o2]) 16 ?_ ?_
    · refine ⟨K1, by omega, _, _, [0, 1, 2], ⟨w, R, K1, 3, out, by omega, hr1, by omega, by omega, by omega, by rw [hPP], by rw [hPP], rfl, rfl, .refl _, rfl⟩, ?_⟩
      cases w <;> exact ⟨rfl, ⟨rfl, rfl, rfl, trivial⟩, rfl, rfl, rfl, rfl, rfl, rfl, trivial⟩
    rintro k2 F H5 G hle6 ⟨w2, r2, k3, f, o2, hk15, hr2, hkf, hf3, hol2, he1, he2, rfl, rfl, hle7, rfl⟩
    refine codeL.go tab ?_
    (conv => whnf)
    have hr2s : r2 < 65536 := Nat.lt_of_lt_of_le hr2 (Nat.le_trans (Nat.pow_le_pow_right (by omega) (show k2 ≤ 16 by omega)) (by decide))
    refine ⟨⟨_, Tryz.func120, rfl, by kernel_rfl⟩, CallS.use (pop_ r2 k2 6 hr2s (by omega) (by omega) H5) [1] rfl rfl ⟨rfl, trivial⟩ ?_⟩
    rintro e H6 G' hle8 ⟨hp1, hp2, rfl⟩
    clear hr2s
    by_cases hk2 : k2 < 6
    · obtain ⟨rfl, rfl⟩ := hp1 hk2
      (conv => whnf)
      have hpp : popsP f r2 k2 = ([], r2, k2) := by
        cases f with
        | zero => rfl
        | succ f => rw [popsP, if_pos hk2]
      rw [hpp] at he1 he2
      simp only [List.append_nil] at he1
      injection he2 with he3 he4
      subst he1 he3 he4
      rw [wrap64 (x := (i : Int) + 1) (by omega) (by omega)]
      refine ⟨bs.length - (i + 1), by omega, _, _, [0, 1, 2], ⟨i + 1, w2, r2, k2, out ++ PL, by omega, hk2, p2, by rw [List.length_append]; simp only at p3; omega, by rw [← henc]; simp only [List.append_assoc], rfl, rfl, hle4.trans (hle7.trans hle8), rfl⟩, ?_⟩
      cases w2 <;> exact ⟨rfl, ⟨rfl, rfl, rfl, trivial⟩, rfl, rfl, rfl, rfl, rfl, rfl, trivial⟩
    · obtain ⟨rfl, rfl⟩ := hp2 hk2
      (conv => whnf)
      obtain ⟨f2, rfl⟩ : ∃ f2, f = f2 + 1 := ⟨f - 1, by omega⟩
      rw [popsP, if_neg hk2] at he1 he2
      have hpw : 2 ^ k2 = 64 * 2 ^ (k2 - 6) := by
        rw [show (64 : Nat) = 2 ^ 6 by rfl, ← Nat.pow_add]
        congr 1; omega
      have hq64 : r2 / 2 ^ (k2 - 6) < 64 := by
        rw [Nat.div_lt_iff_lt_mul (Nat.two_pow_pos _), ← hpw]; exact hr2
      have hmod : r2 % 2 ^ (k2 - 6) < 2 ^ (k2 - 6) := Nat.mod_lt _ (Nat.two_pow_pos _)
      have hla := letter_at (r2 / 2 ^ (k2 - 6))
      generalize r2 / 2 ^ (k2 - 6) = Q at *
      generalize r2 % 2 ^ (k2 - 6) = R2 at *
      clear hpw
      refine ⟨⟨Int.natCast_nonneg _, by show (Q : Int) < 64; omega⟩, ?_⟩
      (conv => whnf)
      cases w2
      all_goals
        first
          | refine ⟨⟨_, Tryz.func106, rfl, by kernel_rfl⟩, CallS.use (writeByte true o2 (letterP Q) (byteAt ⟨lettersL.toArray⟩ Q) hla (by omega) H6) [0, 2] rfl rfl ⟨rfl, rfl, trivial⟩ ?_⟩
          | refine ⟨⟨_, Tryz.func106, rfl, by kernel_rfl⟩, CallS.use (writeByte false o2 (letterP Q) (byteAt ⟨lettersL.toArray⟩ Q) hla (by omega) H6) [0, 2] rfl rfl ⟨rfl, rfl, trivial⟩ ?_⟩
        rintro e H7 G' hle9 ⟨rfl, hl9, rfl⟩
        (conv => whnf)
        refine ⟨k2 - 6, by omega, _, _, [0, 1, 3], ⟨true, R2, k2 - 6, f2, o2 ++ [letterP Q], by omega, hmod, by omega, by omega, by rw [List.length_append]; simp only [List.length_cons, List.length_nil]; omega, by rw [← he1]; simp only [List.append_assoc, List.cons_append, List.nil_append], he2, rfl, rfl, hle7.trans (hle8.trans hl9), rfl⟩, ?_⟩
        exact ⟨rfl, ⟨rfl, rfl, rfl, trivial⟩, rfl, rfl, rfl, rfl, rfl, rfl, trivial⟩
  · have h1 := of_decide_eq_false h1
    obtain rfl : i = bs.length := by omega
    rw [List.drop_of_length_le (Nat.le_refl _), encG] at henc
    cases w
    all_goals
      refine br.of (fun h2 => ?_) (fun h2 => ?_) <;> (conv => whnf)
      · have h2 := of_decide_eq_true h2
        have hk0 : 0 < k := by omega
        rw [if_pos hk0] at henc
        have hr64 : r < 64 := Nat.lt_of_lt_of_le hrk (Nat.le_trans (Nat.pow_le_pow_right (by omega) (show k ≤ 6 by omega)) (by decide))
        have hw6 : IntKind.i64.wrap (6 - (k : Int)) = ((6 - k : Nat) : Int) := by rw [wrap64 (by omega) (by omega)]; omega
        rw [hw6]
        refine ⟨⟨_, Tryz.func119, rfl, by kernel_rfl⟩, CallS.use (push_ r k 0 (6 - k) hr64 (by omega) (by omega) (Nat.two_pow_pos _) H3) [1] rfl rfl ⟨rfl, trivial⟩ ?_⟩
        rintro e H4 G' hle5 ⟨rfl, rfl, rfl⟩
        (conv => whnf)
        have hkk : k + (6 - k) = 6 := by omega
        have hrm : r * 2 ^ (6 - k) < 64 := by
          have : 2 ^ k * 2 ^ (6 - k) = 64 := by rw [← Nat.pow_add, hkk]
          rw [← this]
          exact Nat.mul_lt_mul_of_pos_right hrk (Nat.two_pow_pos _)
        rw [hkk, Nat.add_zero]
        have hla := letter_at (r * 2 ^ (6 - k))
        generalize r * 2 ^ (6 - k) = Q at *
        refine ⟨⟨_, Tryz.func120, rfl, by kernel_rfl⟩, CallS.use (pop_ Q 6 6 (by omega) (by omega) (by omega) H4) [1] rfl rfl ⟨rfl, trivial⟩ ?_⟩
        rintro e H5 G' hle6 ⟨_, hp2, rfl⟩
        obtain ⟨rfl, rfl⟩ := hp2 (by omega)
        have hq1 : Q / 2 ^ (6 - 6) = Q := by simp
        rw [hq1]
        (conv => whnf)
        refine ⟨⟨Int.natCast_nonneg _, by show (Q : Int) < 64; omega⟩, ?_⟩
        (conv => whnf)
        first
          | refine ⟨⟨_, Tryz.func106, rfl, by kernel_rfl⟩, CallS.use (writeByte true out (letterP Q) (byteAt ⟨lettersL.toArray⟩ Q) hla (by omega) H5) [0, 2] rfl rfl ⟨rfl, rfl, trivial⟩ ?_⟩
          | refine ⟨⟨_, Tryz.func106, rfl, by kernel_rfl⟩, CallS.use (writeByte false out (letterP Q) (byteAt ⟨lettersL.toArray⟩ Q) hla (by omega) H5) [0, 2] rfl rfl ⟨rfl, rfl, trivial⟩ ?_⟩
        rintro e H7 G' hle9 ⟨rfl, hl9, rfl⟩
        (conv => whnf)
        refine ⟨⟨_, Tryz.func56, rfl, by kernel_rfl⟩, CallS.use (string_ true (out ++ [letterP Q]) (by rw [List.length_append]; simp only [List.length_cons, List.length_nil]; omega) H7) [0, 3] rfl rfl ⟨rfl, rfl, trivial⟩ ?_⟩
        rintro e H8 G' hle10 ⟨rfl, rfl, hG⟩
        rw [henc]
        rcases hG with rfl | rfl
        all_goals
          (conv => whnf)
          exact ⟨rfl, hle4.trans (hle5.trans (hle6.trans hl9)), rfl⟩
      · have h2 := of_decide_eq_false h2
        rw [if_neg (by omega), List.append_nil] at henc
        first
          | refine ⟨⟨_, Tryz.func56, rfl, by kernel_rfl⟩, CallS.use (string_ true out (by omega) H3) [0, 2] rfl rfl ⟨rfl, rfl, trivial⟩ ?_⟩
          | refine ⟨⟨_, Tryz.func56, rfl, by kernel_rfl⟩, CallS.use (string_ false out (by omega) H3) [0, 2] rfl rfl ⟨rfl, rfl, trivial⟩ ?_⟩
        rintro e H8 G' hle10 ⟨rfl, rfl, hG⟩
        rw [henc]
        rcases hG with rfl | rfl
        all_goals
          (conv => whnf)
          exact ⟨rfl, hle4, rfl⟩
theorem enc_ (bs : List UInt8) (A : Option Addr) (c : Nat) (hn : bs.length ≤ 1000000) (H : Hp) (hb : BytesAt H A bs.length bs) :
    CallO Tryz.prog 73 [pv (.slice A bs.length c)] H [] fun e H' G' => e = .ret (pv (.string ⟨(encP bs).toArray⟩)) ∧ H.Le H' ∧ G' = [] := encZ_ bs A c hn H hb.z
end Go.Kx.En
namespace Go.Kx.En
open Go.Proofs Go.Kx Go.RowKit Go.Kx.Js Go.Kx.Pr Go.Kx.Bu
set_option maxRecDepth 20000
set_option linter.unusedSimpArgs false
theorem wrapB (x : Int) : IntKind.u8.wrap x = x % 256 := by unfold IntKind.wrap; rfl
def numL (c : UInt8) : Int := ixB lettersL c
theorem numL_lt (c : UInt8) : numL c < 64 ∧ -1 ≤ numL c := by
  have h : ∀ n : Fin 256, numL (UInt8.ofNat n.val) < 64 ∧ -1 ≤ numL (UInt8.ofNat n.val) := by decide +kernel
  have h1 := h ⟨c.toNat, c.toNat_lt⟩
  simpa using h1
def decG : Nat → Nat → List UInt8 → Option (List UInt8)
  | r, n, [] => if 6 ≤ n ∨ r ≠ 0 then none else some []
  | r, n, c :: l => if numL c < 0 then none else
    if n + 6 < 8 then decG (r * 64 + (numL c).toNat) (n + 6) l else
      match decG ((r * 64 + (numL c).toNat) % 2 ^ (n - 2)) (n - 2) l with
      | none => none
      | some o => some (UInt8.ofNat ((r * 64 + (numL c).toNat) / 2 ^ (n - 2)) :: o)
def decP (s : ByteArray) : Option (List UInt8) := decG 0 0 s.data.toList
def pre (o : List UInt8) : Option (List UInt8) → Option (List UInt8)
  | none => none
  | some l => some (o ++ l)
theorem bAtZ (s : ByteArray) (i : Nat) (h : i < s.size) : ∃ c : UInt8, s.data.toList[i]? = some c ∧ byteAt s (i : Int) = (c.toNat : Int) := by
  have hl : i < s.data.toList.length := by rw [Array.length_toList]; exact h
  refine ⟨s.data.toList[i]'hl, List.getElem?_eq_getElem _, ?_⟩
  unfold byteAt
  rw [Int.toNat_natCast, List.getD_eq_getElem?_getD, List.getElem?_eq_getElem hl]
  rfl
def KD (s : ByteArray) (e : SE) (G' : List SB) : Prop :=
  (decP s = none ∧ e = .ret (.tu [.ce (.val (.slice none 0 0)), .ce (.val (.int .i64 10))]) ∧ G' = []) ∨ (∃ L r k, decP s = some L ∧ e = .ret (.tu [.ce (.self 1), .ce (.val (.int .i64 0))]) ∧ G' = [bitB r k, rB L])
theorem dec0 (s : ByteArray) (hs : s.size ≤ 1000000) (H : Hp) : CallO Tryz.prog 170 [pv (.string s)] H [] fun e _ G' => KD s e G' := by
  have hsl : s.data.toList.length = s.size := by rw [Array.length_toList]; rfl
  refine CallO.of_body tab Tryz.func170 rfl (nt := Tryz.f170.ntmps) rfl (by kernel_rfl) ?_
  (conv => whnf)
  refine WS.nilRow 4 5 1 rfl ?_
  (conv => whnf)
  refine WS.loop (fun k' F H3 G => ∃ (i r k : Nat) (out : List UInt8), i ≤ s.size ∧ (k ≤ 6 ∧ k % 2 = 0) ∧ r < 2 ^ k ∧ out.length ≤ i ∧ pre out (decG r k (s.data.toList.drop i)) = decP s ∧ k' = s.size - i ∧ F = [(0, pv (.string s)), (4, .si (.ce (.self 1))), (5, .si (.ce (.ptr 0 0))), (11, pv (.int .i64 s.size)), (12, pv (.int .i64 i))] ∧ H.Le H3 ∧ G = [bitB r k, rB out]) (s.size + 1) ?_ ?_
  · refine ⟨s.size, by omega, _, _, [0, 1], ⟨0, 0, 0, [], by omega, by omega, by omega, Nat.le_refl _, ?_, rfl, rfl, .refl _, rfl⟩, ?_⟩
    · rw [List.drop_zero]
      show pre [] (decP s) = decP s
      cases decP s <;> rfl
    exact ⟨rfl, ⟨rfl, rfl, trivial⟩, rfl, rfl, rfl, rfl, rfl, trivial⟩
  rintro k' F H3 G hle3 ⟨i, r, k, out, hi, ⟨hk6, hkev⟩, hrk, hol, hdec, rfl, rfl, hle4, rfl⟩
  refine codeL.go tab ?_
  (conv => whnf)
  refine br.of (fun h1 => ?_) (fun h1 => ?_) <;> (conv => whnf)
  · have h1 := of_decide_eq_true h1
    have hil : i < s.size := by omega
    refine ⟨⟨by omega, by omega⟩, ?_⟩
    obtain ⟨x, hx, hv⟩ := bAtZ s i hil
    rw [hv]
    have hd : s.data.toList.drop i = x :: s.data.toList.drop (i + 1) := by
      rw [List.drop_eq_getElem?_toList_append, hx]; rfl
    rw [hd, decG] at hdec
    (conv => whnf)
    have hix := Js.indexByte ⟨lettersL.toArray⟩ x H3 []
    have hnl : ixB (⟨lettersL.toArray⟩ : ByteArray).data.toList x = numL x := rfl
    obtain ⟨hv64, hv1⟩ := numL_lt x
    rw [hnl] at hix
    generalize numL x = v at hix hdec hv64 hv1
    refine ⟨⟨_, Tryz.func141, rfl, by kernel_rfl⟩, CallS.use hix [] rfl rfl trivial ?_⟩
    rintro e H4 G' hle5 ⟨rfl, rfl, rfl⟩
    (conv => whnf)
    refine br.of (fun h2 => ?_) (fun h2 => ?_) <;> (conv => whnf)
    · have h2 := of_decide_eq_true h2
      rw [if_pos h2] at hdec
      exact .inl ⟨hdec.symm, rfl, rfl⟩
    have h2 := of_decide_eq_false h2
    rw [if_neg h2] at hdec
    obtain ⟨d, rfl⟩ : ∃ d : Nat, v = (d : Int) := ⟨v.toNat, by omega⟩
    rw [Int.toNat_natCast] at hdec
    have hd64 : d < 64 := by omega
    have hr64 : r < 64 := Nat.lt_of_lt_of_le hrk (Nat.le_trans (Nat.pow_le_pow_right (by omega) (show k ≤ 6 by omega)) (by decide))
    refine ⟨⟨_, Tryz.func119, rfl, by kernel_rfl⟩, CallS.use (push_ r k d 6 hr64 (by omega) (by omega) (by omega) H4) [0] rfl rfl ⟨rfl, trivial⟩ ?_⟩
    rintro e H5 G' hle6 ⟨rfl, rfl, rfl⟩
    (conv => whnf)
    have e64 : r * 2 ^ 6 + d = r * 64 + d := rfl
    rw [e64]
    have hR : r * 64 + d < 2 ^ (k + 6) := by
      rw [Nat.pow_add]
      have := Nat.mul_le_mul_right (2 ^ 6) (show r + 1 ≤ 2 ^ k by omega)
      omega
    have hR2 : r * 64 + d < 65536 := by omega
    generalize r * 64 + d = R at *
    refine ⟨⟨_, Tryz.func120, rfl, by kernel_rfl⟩, CallS.use (pop_ R (k + 6) 8 hR2 (by omega) (by omega) H5) [0] rfl rfl ⟨rfl, trivial⟩ ?_⟩
    rintro e H6 G' hle7 ⟨hp1, hp2, rfl⟩
    by_cases hk2 : k + 6 < 8
    · obtain ⟨rfl, rfl⟩ := hp1 hk2
      rw [if_pos hk2] at hdec
      (conv => whnf)
      rw [wrap64 (x := (i : Int) + 1) (by omega) (by omega)]
      refine ⟨s.size - (i + 1), by omega, _, _, [0, 1], ⟨i + 1, R, k + 6, out, by omega, by omega, hR, by omega, hdec, rfl, rfl, hle4.trans hle7, rfl⟩, ?_⟩
      exact ⟨rfl, ⟨rfl, rfl, trivial⟩, rfl, rfl, rfl, rfl, rfl, trivial⟩
    · obtain ⟨rfl, rfl⟩ := hp2 hk2
      rw [if_neg hk2] at hdec
      have hk8 : k + 6 - 8 = k - 2 := by omega
      rw [hk8]
      have hpw : 2 ^ (k + 6) = 256 * 2 ^ (k - 2) := by
        rw [show (256 : Nat) = 2 ^ 8 by rfl, ← Nat.pow_add]
        congr 1; omega
      have hq : R / 2 ^ (k - 2) < 256 := by
        rw [Nat.div_lt_iff_lt_mul (Nat.two_pow_pos _), ← hpw]; exact hR
      have hmod : R % 2 ^ (k - 2) < 2 ^ (k - 2) := Nat.mod_lt _ (Nat.two_pow_pos _)
      generalize R / 2 ^ (k - 2) = Q at *
      generalize R % 2 ^ (k - 2) = R3 at *
      (conv => whnf)
      refine ⟨by decide, ?_⟩
      (conv => whnf)
      refine .inl ?_
      intro g H7 hle8 hrd
      (conv => whnf)
      refine ⟨_, rfl, hrd, one_int _ _, ?_⟩
      (conv => whnf)
      refine ⟨by show (out.length + 1) * 2 ≤ _; omega, ?_⟩
      (conv => whnf)
      rw [wrap64 (x := (i : Int) + 1) (by omega) (by omega), wrapB]
      have hb8 : ((Q : Int) % 256) = ((UInt8.ofNat Q).toNat : Int) := by
        rw [UInt8.toNat_ofNat']; omega
      refine ⟨s.size - (i + 1), by omega, _, [bitB R3 (k - 2 : Nat), rB (out ++ [UInt8.ofNat Q])], [0, 2], ⟨i + 1, R3, k - 2, out ++ [UInt8.ofNat Q], by omega, by omega, hmod, by rw [List.length_append]; simp only [List.length_cons, List.length_nil]; omega, ?_, rfl, rfl, hle4.trans (hle7.trans hle8), rfl⟩, ?_⟩
      · rw [← hdec]
        cases decG R3 (k - 2) (s.data.toList.drop (i + 1)) <;> simp [pre]
      · refine ⟨rfl, ⟨rfl, ?_, trivial⟩, rfl, rfl, rfl, rfl, rfl, trivial⟩
        rw [show rB (out ++ [UInt8.ofNat Q]) = SB.row 5 1 (out.length + 1) (bCells out ++ [.int .u8 ((Q : Int) % 256)]) by
          unfold Bu.rB
          rw [bCells_snoc out (UInt8.ofNat Q) hb8, List.length_append]; rfl]
        rfl
  · have h1 := of_decide_eq_false h1
    obtain rfl : i = s.size := by omega
    rw [List.drop_of_length_le (by omega), decG] at hdec
    refine br.of (fun h2 => ?_) (fun h2 => ?_) <;> (conv => whnf)
    · have h2 := of_decide_eq_true h2
      rw [if_pos (.inl (by omega))] at hdec
      exact .inl ⟨hdec.symm, rfl, rfl⟩
    have h2 := of_decide_eq_false h2
    refine br.of (fun h3 => ?_) (fun h3 => ?_) <;> (conv => whnf)
    · simp only [bne_iff_ne, ne_eq] at h3
      rw [if_pos (.inr (by omega))] at hdec
      exact .inl ⟨hdec.symm, rfl, rfl⟩
    · simp only [bne_eq_false_iff_eq] at h3
      rw [if_neg (by omega)] at hdec
      have : decP s = some out := by rw [← hdec]; simp [pre]
      exact .inr ⟨out, r, k, this, rfl, rfl⟩
def RetD (s : ByteArray) (e : SE) (H' : Hp) : Prop :=
  (decP s = none ∧ e = .ret (.tu [.ce (.val (.slice none 0 0)), .ce (.val (.int .i64 10))])) ∨ (∃ L B m c, decP s = some L ∧ e = .ret (.tu [.ce (.val (.slice B m c)), .ce (.val (.int .i64 0))]) ∧ BytesAt H' B m L)
theorem dec_ (s : ByteArray) (hs : s.size ≤ 1000000) (H : Hp) : CallO Tryz.prog 170 [pv (.string s)] H [] fun e H' G' => RetD s e H' ∧ G' = [] := by
  cases hd : decP s with
  | none =>
    refine (dec0 s hs H).mono ?_
    rintro e H' G' hle (⟨h1, rfl, rfl⟩ | ⟨L, r, k, h1, _⟩)
    · exact ⟨.inl ⟨h1, rfl⟩, rfl⟩
    · rw [hd] at h1; cases h1
  | some L =>
    refine CallO.sub (CallO.frz (K := fun e H' G' => RetD s e H' ∧ ∃ b, G' = [b, .dead]) (dec0 s hs H) ?_) ?_
    · rintro e H' G' hle (⟨h1, _⟩ | ⟨L2, r, k, h1, rfl, rfl⟩)
      · rw [hd] at h1; cases h1
      refine ⟨1, 5, 1, _, _, rfl, fun hz => ?_, fun x H2 hle2 hfr => ?_⟩
      · have : L2 = [] := List.eq_nil_of_length_eq_zero hz
        rw [this]; rfl
      obtain ⟨B, cc, rfl, hv⟩ := BytesAt.of_frozen rfl hfr
      exact ⟨.inr ⟨L2, B, _, cc, h1, rfl, hv⟩, _, rfl⟩
    · rintro e H' G' hle ⟨hr, b, rfl⟩
      rcases hr with ⟨h1, rfl⟩ | ⟨L2, B, m, cc, h1, rfl, hv⟩
      · exact ⟨_, [], [], rfl, trivial, rfl, .inl ⟨h1, rfl⟩, rfl⟩
      · exact ⟨_, [], [], rfl, trivial, rfl, .inr ⟨L2, B, m, cc, h1, rfl, hv⟩, rfl⟩
end Go.Kx.En
