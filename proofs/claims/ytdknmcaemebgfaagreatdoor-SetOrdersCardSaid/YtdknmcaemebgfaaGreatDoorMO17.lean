/- The reference of layer 5: where a text isn't told. No condition of its own. -/
import Derived.Test.YtdknmcaemebgfaaGreatDoorMO16
namespace Go.Kx.Rf
open Go.Proofs Go.Kx Go.RowKit Go.Kx.Js Go.Kx.Pr
set_option maxRecDepth 20000
set_option linter.unusedSimpArgs false
theorem mixed : Tryz.prog.follows .mixedOrders = true := by kernel_rfl
def T : Tab := [(9, { k := TK.string, agg := false, size := 1, bytes := 16, zero := [Z.s] }), (3, { k := TK.int IntKind.i64, agg := false, size := 1, bytes := 8, zero := [Z.i IntKind.i64] }), (4, { k := TK.bool, agg := false, size := 1, bytes := 1, zero := [Z.b] }), (5, { k := TK.int IntKind.u8, agg := false, size := 1, bytes := 1, zero := [Z.i IntKind.u8] })]
set_option maxRecDepth 100000 in
theorem tab : TabOk Tryz.prog T := tabOk_mk (ts := [9, 3, 4, 5]) (by kernel_rfl)
def inL (l : List UInt8) (i : Nat) (lo hi : Int) : Bool := match l[i]? with
 | some c => decide (lo ≤ (c.toNat : Int)) && decide ((c.toNat : Int) ≤ hi)
 | none => false
theorem in_ (s : ByteArray) (at' : Nat) (lo hi : Int) (ha : at' ≤ 2000000) (H : Hp) : CallO Tryz.prog 140 [pv (.string s), pv (.int .i64 at'), pv (.int .i64 lo), pv (.int .i64 hi)] H [] fun e H' G' => e = .ret (pv (.bool (inL (tL s) at' lo hi))) ∧ H' = H ∧ G' = [] := by
 refine CallO.of_body tab Tryz.func140 rfl (nt := Tryz.f140.ntmps) rfl (by kernel_rfl) ?_
 by_cases h : at' < s.size
 ·obtain ⟨c, hc, hv⟩ := Pa.bAt s at' h
  have hL : inL (tL s) at' lo hi = (decide (lo ≤ (c.toNat : Int)) && decide ((c.toNat : Int) ≤ hi)) := by unfold inL tL; rw [hc]
  rw [hL]
  (conv => whnf)
  rw [decide_eq_true (show (at' : Int) < (s.size : Int) by omega)]
  (conv => whnf)
  refine ⟨⟨by omega, by omega⟩, ?_⟩
  rw [hv]
  (conv => whnf)
  rw [wrap64 (x := (c.toNat : Int)) (by have := c.toNat_lt; omega) (by have := c.toNat_lt; omega)]
  rw [show (decide ((c.toNat : Int) ≥ lo)) = decide (lo ≤ (c.toNat : Int)) from rfl]
  cases h1 : decide (lo ≤ (c.toNat : Int)) <;> (conv => whnf)
  ·exact ⟨rfl, rfl, rfl⟩
  refine ⟨⟨by omega, by omega⟩, ?_⟩
  rw [hv]
  (conv => whnf)
  rw [wrap64 (x := (c.toNat : Int)) (by have := c.toNat_lt; omega) (by have := c.toNat_lt; omega)]
  exact ⟨rfl, rfl, rfl⟩
 ·have hL : inL (tL s) at' lo hi = false := by
   unfold inL
   rw [List.getElem?_eq_none (by rw [← size_eq]; omega)]
  rw [hL]
  (conv => whnf)
  rw [decide_eq_false (show ¬ (at' : Int) < (s.size : Int) by omega)]
  (conv => whnf)
  exact ⟨rfl, rfl, rfl⟩
def chR (c : Int) (l : List UInt8) (i : Nat) : Int :=
 if c < 128 then 1 else
 if (decide (194 ≤ c) && decide (c ≤ 223)) && inL l (i + 1) 128 191 then 2 else
 if ((decide (224 ≤ c) && decide (c ≤ 239)) && inL l (i + 1) (if c = 224 then 160 else 128) (if c = 237 then 159 else 191)) && inL l (i + 2) 128 191 then 3 else
 if (((decide (240 ≤ c) && decide (c ≤ 244)) && inL l (i + 1) (if c = 240 then 144 else 128) (if c = 244 then 143 else 191)) && inL l (i + 2) 128 191) && inL l (i + 3) 128 191 then 4 else 0
theorem inL_cons (x : UInt8) (l : List UInt8) (i : Nat) (lo hi : Int) : inL (x :: l) (i + 1) lo hi = inL l i lo hi := rfl
theorem inL_drop (l : List UInt8) (i k : Nat) (lo hi : Int) : inL (l.drop i) k lo hi = inL l (i + k) lo hi := by unfold inL; rw [List.getElem?_drop]
theorem chR_drop (c : Int) (l : List UInt8) (i : Nat) : chR c l i = chR c (l.drop i) 0 := by
 unfold chR
 simp only [inL_drop]
theorem inL_sp (l : List UInt8) (i a b : Nat) (c : UInt8) (h : l[i]? = some c) : inL l i a b = (decide (a ≤ c.toNat) && decide (c.toNat ≤ b)) := by
 unfold inL
 rw [h]
 simp only [Int.ofNat_le]
theorem inL_none (l : List UInt8) (i : Nat) (a b : Int) (h : l.length ≤ i) : inL l i a b = false := by
 unfold inL
 rw [List.getElem?_eq_none h]
theorem sp1 (a b : Nat) (l : List UInt8) : (if l.length + 1 ≤ 1 then 0 else if inSp [(a, b)] l = true then 1 + 1 else 0 : Nat) = if inL l 0 a b = true then 2 else 0 := by
 cases l with
 | nil => rw [inL_none [] 0 _ _ (Nat.le_refl _)]; rfl
 | cons c l => rw [inL_sp (c :: l) 0 a b c rfl, if_neg (by simp)]; simp only [inSp, Bool.and_true]
theorem sp2 (a b x y : Nat) (l : List UInt8) : (if l.length + 1 ≤ 2 then 0 else if inSp [(a, b), (x, y)] l = true then 1 + 2 else 0 : Nat) = if (inL l 0 a b && inL l 1 x y) = true then 3 else 0 := by
 rcases l with _ | ⟨c, _ | ⟨d, l⟩⟩
 ·rw [inL_none [] 0 _ _ (Nat.le_refl _)]; rfl
 ·rw [inL_none [c] 1 _ _ (Nat.le_refl _), Bool.and_false]; rfl
 ·rw [inL_sp (c :: d :: l) 0 a b c rfl, inL_sp (c :: d :: l) 1 x y d rfl, if_neg (by simp)]; simp only [inSp, Bool.and_true]
theorem sp3 (a b x y u v : Nat) (l : List UInt8) : (if l.length + 1 ≤ 3 then 0 else if inSp [(a, b), (x, y), (u, v)] l = true then 1 + 3 else 0 : Nat) = if ((inL l 0 a b && inL l 1 x y) && inL l 2 u v) = true then 4 else 0 := by
 rcases l with _ | ⟨c, _ | ⟨d, _ | ⟨f, l⟩⟩⟩
 ·rw [inL_none [] 0 _ _ (Nat.le_refl _)]; rfl
 ·rw [inL_none [c] 1 _ _ (Nat.le_refl _), Bool.and_false]; rfl
 ·rw [inL_none [c, d] 2 _ _ (Nat.le_refl _), Bool.and_false]; rfl
 ·rw [inL_sp (c :: d :: f :: l) 0 a b c rfl, inL_sp (c :: d :: f :: l) 1 x y d rfl, inL_sp (c :: d :: f :: l) 2 u v f rfl, if_neg (by simp)]; simp only [inSp, Bool.and_true, Bool.and_assoc]
theorem chR_eq (c : UInt8) (l : List UInt8) : chR (c.toNat : Int) (c :: l) 0 = ((charP (c :: l) : Nat) : Int) := by
 have hc := c.toNat_lt
 have e : (pk (c :: l)).toNat = c.toNat := rfl
 unfold chR charP
 rw [e]
 generalize c.toNat = n at hc
 have k : ∀ a b : Int, a ≤ n → n ≤ b → (decide (a ≤ (n : Int)) && decide ((n : Int) ≤ b)) = true := fun a b h1 h2 => by rw [decide_eq_true h1, decide_eq_true h2]; rfl
 have k' : ∀ a b : Int, (n < a ∨ b < n) → (decide (a ≤ (n : Int)) && decide ((n : Int) ≤ b)) = false := fun a b h => by
  rcases h with h | h
  ·rw [decide_eq_false (show ¬ a ≤ (n : Int) by omega)]; rfl
  ·rw [decide_eq_false (show ¬ (n : Int) ≤ b by omega), Bool.and_false]
 have m : ∀ (i : Nat) lo hi, inL (c :: l) (0 + (i + 1)) lo hi = inL l i lo hi := fun i lo hi => by rw [Nat.zero_add]; rfl
 rw [show (∀ lo hi, inL (c :: l) (0 + 1) lo hi = inL l 0 lo hi) from m 0]
 simp only [show (∀ lo hi, inL (c :: l) (0 + 1) lo hi = inL l 0 lo hi) from m 0, show (∀ lo hi, inL (c :: l) (0 + 2) lo hi = inL l 1 lo hi) from m 1, show (∀ lo hi, inL (c :: l) (0 + 3) lo hi = inL l 2 lo hi) from m 2, List.tail_cons, List.length_cons]
 by_cases h1 : n < 128
 ·rw [if_pos (show (n : Int) < 128 by omega), show behindP n = some [] by unfold behindP; rw [if_pos h1]]
  rfl
 rw [if_neg (show ¬ (n : Int) < 128 by omega)]
 by_cases h2 : n < 194
 ·rw [k' 194 223 (by omega), k' 224 239 (by omega), k' 240 244 (by omega), show behindP n = none by unfold behindP; rw [if_neg h1, if_pos h2]]
  rfl
 by_cases h3 : n < 224
 ·have hb : behindP n = some [(128, 191)] := by unfold behindP any1; repeat' (first | rw [if_pos (by omega)] | rw [if_neg (by omega)])
  rw [k 194 223 (by omega) (by omega), k' 224 239 (by omega), k' 240 244 (by omega), hb]
  show _ = ((if l.length + 1 ≤ 1 then 0 else if inSp [(128, 191)] l = true then 1 + 1 else 0 : Nat) : Int)
  rw [sp1]
  simp only [Bool.true_and, Bool.false_and, Bool.false_eq_true, if_false]
  show (if inL l 0 128 191 = true then (2 : Int) else 0) = ((if inL l 0 128 191 = true then 2 else 0 : Nat) : Int)
  split <;> rfl
 by_cases h4 : n = 224
 ·have hb : behindP n = some [(160, 191), (128, 191)] := by unfold behindP any1; repeat' (first | rw [if_pos (by omega)] | rw [if_neg (by omega)])
  rw [k' 194 223 (by omega), k 224 239 (by omega) (by omega), k' 240 244 (by omega), hb, if_pos (show (n : Int) = 224 by omega), if_neg (show ¬ (n : Int) = 237 by omega)]
  show _ = ((if l.length + 1 ≤ 2 then 0 else if inSp [(160, 191), (128, 191)] l = true then 1 + 2 else 0 : Nat) : Int)
  rw [sp2]
  simp only [Bool.true_and, Bool.false_and, Bool.false_eq_true, if_false]
  show (if (inL l 0 160 191 && inL l 1 128 191) = true then (3 : Int) else 0) = ((if (inL l 0 160 191 && inL l 1 128 191) = true then 3 else 0 : Nat) : Int)
  split <;> rfl
 by_cases h5 : n = 237
 ·have hb : behindP n = some [(128, 159), (128, 191)] := by unfold behindP any1; repeat' (first | rw [if_pos (by omega)] | rw [if_neg (by omega)])
  rw [k' 194 223 (by omega), k 224 239 (by omega) (by omega), k' 240 244 (by omega), hb, if_neg (show ¬ (n : Int) = 224 by omega), if_pos (show (n : Int) = 237 by omega)]
  show _ = ((if l.length + 1 ≤ 2 then 0 else if inSp [(128, 159), (128, 191)] l = true then 1 + 2 else 0 : Nat) : Int)
  rw [sp2]
  simp only [Bool.true_and, Bool.false_and, Bool.false_eq_true, if_false]
  show (if (inL l 0 128 159 && inL l 1 128 191) = true then (3 : Int) else 0) = ((if (inL l 0 128 159 && inL l 1 128 191) = true then 3 else 0 : Nat) : Int)
  split <;> rfl
 by_cases h6 : n < 240
 ·have hb : behindP n = some [(128, 191), (128, 191)] := by unfold behindP any1; repeat' (first | rw [if_pos (by omega)] | rw [if_neg (by omega)])
  rw [k' 194 223 (by omega), k 224 239 (by omega) (by omega), k' 240 244 (by omega), hb, if_neg (show ¬ (n : Int) = 224 by omega), if_neg (show ¬ (n : Int) = 237 by omega)]
  show _ = ((if l.length + 1 ≤ 2 then 0 else if inSp [(128, 191), (128, 191)] l = true then 1 + 2 else 0 : Nat) : Int)
  rw [sp2]
  simp only [Bool.true_and, Bool.false_and, Bool.false_eq_true, if_false]
  show (if (inL l 0 128 191 && inL l 1 128 191) = true then (3 : Int) else 0) = ((if (inL l 0 128 191 && inL l 1 128 191) = true then 3 else 0 : Nat) : Int)
  split <;> rfl
 by_cases h7 : n = 240
 ·have hb : behindP n = some [(144, 191), (128, 191), (128, 191)] := by unfold behindP any1; repeat' (first | rw [if_pos (by omega)] | rw [if_neg (by omega)])
  rw [k' 194 223 (by omega), k' 224 239 (by omega), k 240 244 (by omega) (by omega), hb, if_pos (show (n : Int) = 240 by omega), if_neg (show ¬ (n : Int) = 244 by omega)]
  show _ = ((if l.length + 1 ≤ 3 then 0 else if inSp [(144, 191), (128, 191), (128, 191)] l = true then 1 + 3 else 0 : Nat) : Int)
  rw [sp3]
  simp only [Bool.true_and, Bool.false_and, Bool.false_eq_true, if_false]
  show (if ((inL l 0 144 191 && inL l 1 128 191) && inL l 2 128 191) = true then (4 : Int) else 0) = ((if ((inL l 0 144 191 && inL l 1 128 191) && inL l 2 128 191) = true then 4 else 0 : Nat) : Int)
  split <;> rfl
 by_cases h8 : n < 244
 ·have hb : behindP n = some [(128, 191), (128, 191), (128, 191)] := by unfold behindP any1; repeat' (first | rw [if_pos (by omega)] | rw [if_neg (by omega)])
  rw [k' 194 223 (by omega), k' 224 239 (by omega), k 240 244 (by omega) (by omega), hb, if_neg (show ¬ (n : Int) = 240 by omega), if_neg (show ¬ (n : Int) = 244 by omega)]
  show _ = ((if l.length + 1 ≤ 3 then 0 else if inSp [(128, 191), (128, 191), (128, 191)] l = true then 1 + 3 else 0 : Nat) : Int)
  rw [sp3]
  simp only [Bool.true_and, Bool.false_and, Bool.false_eq_true, if_false]
  show (if ((inL l 0 128 191 && inL l 1 128 191) && inL l 2 128 191) = true then (4 : Int) else 0) = ((if ((inL l 0 128 191 && inL l 1 128 191) && inL l 2 128 191) = true then 4 else 0 : Nat) : Int)
  split <;> rfl
 by_cases h9 : n = 244
 ·have hb : behindP n = some [(128, 143), (128, 191), (128, 191)] := by unfold behindP any1; repeat' (first | rw [if_pos (by omega)] | rw [if_neg (by omega)])
  rw [k' 194 223 (by omega), k' 224 239 (by omega), k 240 244 (by omega) (by omega), hb, if_neg (show ¬ (n : Int) = 240 by omega), if_pos (show (n : Int) = 244 by omega)]
  show _ = ((if l.length + 1 ≤ 3 then 0 else if inSp [(128, 143), (128, 191), (128, 191)] l = true then 1 + 3 else 0 : Nat) : Int)
  rw [sp3]
  simp only [Bool.true_and, Bool.false_and, Bool.false_eq_true, if_false]
  show (if ((inL l 0 128 143 && inL l 1 128 191) && inL l 2 128 191) = true then (4 : Int) else 0) = ((if ((inL l 0 128 143 && inL l 1 128 191) && inL l 2 128 191) = true then 4 else 0 : Nat) : Int)
  split <;> rfl
 have hb : behindP n = none := by unfold behindP any1; repeat' (first | rw [if_pos (by omega)] | rw [if_neg (by omega)])
 rw [k' 194 223 (by omega), k' 224 239 (by omega), k' 240 244 (by omega), hb]
 rfl
theorem character_ (s : ByteArray) (i : Nat) (hi : i < s.size) (hs : s.size ≤ 1000000) (H : Hp) : CallO Tryz.prog 102 [pv (.string s), pv (.int .i64 i)] H [] fun e H' G' => e = .ret (pv (.int .i64 (charP ((tL s).drop i)))) ∧ H' = H ∧ G' = [] := by
 obtain ⟨c, hc, hv⟩ := Pa.bAt s i hi
 have hd : (tL s).drop i = c :: (tL s).drop (i + 1) := by
  rw [List.drop_eq_getElem?_toList_append, show (tL s)[i]? = some c from hc]; rfl
 have hE : ((charP ((tL s).drop i) : Nat) : Int) = chR (c.toNat : Int) (tL s) i := by rw [hd, ← chR_eq, ← hd, ← chR_drop]
 rw [hE]
 have hin := fun k lo hi' (hk : k ≤ 2000000) => in_ s k lo hi' hk H
 obtain ⟨r, hr⟩ : ∃ r, r = chR (c.toNat : Int) (tL s) i := ⟨_, rfl⟩
 rw [← hr]
 have hc2 : (0 : Int) ≤ (c.toNat : Int) ∧ (c.toNat : Int) < 256 := by have := c.toNat_lt; omega
 refine CallO.of_body tab Tryz.func102 rfl (nt := Tryz.f102.ntmps) rfl (by kernel_rfl) ?_
 (conv => whnf)
 refine ⟨⟨by omega, by omega⟩, ?_⟩
 rw [hv]
 (conv => whnf)
 generalize (c.toNat : Int) = m at hc2 hr ⊢
 rw [wrap64 (x := m) (by omega) (by omega)]
 refine br.of (fun h1 => ?_) (fun h1 => ?_) <;> (conv => whnf)
 ·have h1 := of_decide_eq_true h1
  obtain rfl : r = 1 := by rw [hr]; unfold chR; rw [if_pos h1]
  exact ⟨rfl, rfl, rfl⟩
 have h1 := of_decide_eq_false h1
 unfold chR at hr
 rw [if_neg h1] at hr
 by_cases h : m < 194
 ·have hr : r = 0 := by
   rw [hr, if_neg (show ¬ m = 224 by omega), if_neg (show ¬ m = 237 by omega), if_neg (show ¬ m = 240 by omega), if_neg (show ¬ m = 244 by omega)]
   (simp only [Bool.and_true, Bool.and_false, Bool.true_and, Bool.false_and, Bool.and_eq_true, decide_eq_true_eq, Bool.false_eq_true, if_false, if_true]; repeat' split; all_goals omega)
  have q1 : (m == 224) = false := beq_eq_false_iff_ne.2 (by omega)
  have q2 : (m == 237) = false := beq_eq_false_iff_ne.2 (by omega)
  have q3 : (m == 240) = false := beq_eq_false_iff_ne.2 (by omega)
  have q4 : (m == 244) = false := beq_eq_false_iff_ne.2 (by omega)
  have d1 : decide (m ≥ 194) = false := decide_eq_false (by omega)
  have d3 : decide (m ≥ 224) = false := decide_eq_false (by omega)
  have d5 : decide (m ≥ 240) = false := decide_eq_false (by omega)
  rw [d1]
  (conv => whnf)
  rw [q1]
  (conv => whnf)
  rw [q2]
  (conv => whnf)
  rw [d3]
  (conv => whnf)
  rw [q3]
  (conv => whnf)
  rw [q4]
  (conv => whnf)
  rw [d5]
  (conv => whnf)
  exact ⟨by rw [hr]; rfl, rfl, rfl⟩
 by_cases h : m < 224
 ·have hr : r = if inL (tL s) (i + 1) 128 191 then 2 else 0 := by
   rw [hr, if_neg (show ¬ m = 224 by omega), if_neg (show ¬ m = 237 by omega), if_neg (show ¬ m = 240 by omega), if_neg (show ¬ m = 244 by omega)]
   cases inL (tL s) (i + 1) 128 191 <;> (simp only [Bool.and_true, Bool.and_false, Bool.true_and, Bool.false_and, Bool.and_eq_true, decide_eq_true_eq, Bool.false_eq_true, if_false, if_true]; repeat' split; all_goals omega)
  have q1 : (m == 224) = false := beq_eq_false_iff_ne.2 (by omega)
  have q2 : (m == 237) = false := beq_eq_false_iff_ne.2 (by omega)
  have q3 : (m == 240) = false := beq_eq_false_iff_ne.2 (by omega)
  have q4 : (m == 244) = false := beq_eq_false_iff_ne.2 (by omega)
  have d1 : decide (m ≥ 194) = true := decide_eq_true (by omega)
  have d2 : decide (m ≤ 223) = true := decide_eq_true (by omega)
  have d3 : decide (m ≥ 224) = false := decide_eq_false (by omega)
  have d5 : decide (m ≥ 240) = false := decide_eq_false (by omega)
  rw [d1]
  (conv => whnf)
  rw [d2]
  (conv => whnf)
  rw [wrap64 (x := (i : Int) + 1) (by omega) (by omega)]
  refine ⟨⟨_, Tryz.func140, rfl, by kernel_rfl⟩, CallS.use (hin (i + 1) 128 191 (by omega)) [] rfl rfl trivial ?_⟩
  rintro e H2 G' hle2 ⟨rfl, rfl, rfl⟩
  cases a1 : inL (tL s) (i + 1) 128 191 <;> (conv => whnf)
  ·rw [q1]
   (conv => whnf)
   rw [q2]
   (conv => whnf)
   rw [d3]
   (conv => whnf)
   rw [q3]
   (conv => whnf)
   rw [q4]
   (conv => whnf)
   rw [d5]
   (conv => whnf)
   exact ⟨by rw [hr, a1]; rfl, rfl, rfl⟩
  ·exact ⟨by rw [hr, a1]; rfl, rfl, rfl⟩
 by_cases h : m = 224
 ·have hr : r = if inL (tL s) (i + 1) 160 191 && inL (tL s) (i + 2) 128 191 then 3 else 0 := by
   rw [hr, if_pos (show m = 224 by omega), if_neg (show ¬ m = 237 by omega), if_neg (show ¬ m = 240 by omega), if_neg (show ¬ m = 244 by omega)]
   cases inL (tL s) (i + 1) 160 191 <;> cases inL (tL s) (i + 2) 128 191 <;> (simp only [Bool.and_true, Bool.and_false, Bool.true_and, Bool.false_and, Bool.and_eq_true, decide_eq_true_eq, Bool.false_eq_true, if_false, if_true]; repeat' split; all_goals omega)
  have q1 : (m == 224) = true := by rw [beq_iff_eq]; omega
  have q2 : (m == 237) = false := beq_eq_false_iff_ne.2 (by omega)
  have q3 : (m == 240) = false := beq_eq_false_iff_ne.2 (by omega)
  have q4 : (m == 244) = false := beq_eq_false_iff_ne.2 (by omega)
  have d1 : decide (m ≥ 194) = true := decide_eq_true (by omega)
  have d2 : decide (m ≤ 223) = false := decide_eq_false (by omega)
  have d3 : decide (m ≥ 224) = true := decide_eq_true (by omega)
  have d4 : decide (m ≤ 239) = true := decide_eq_true (by omega)
  have d5 : decide (m ≥ 240) = false := decide_eq_false (by omega)
  rw [d1]
  (conv => whnf)
  rw [d2]
  (conv => whnf)
  rw [q1]
  (conv => whnf)
  rw [q2]
  (conv => whnf)
  rw [d3]
  (conv => whnf)
  rw [d4]
  (conv => whnf)
  rw [wrap64 (x := (i : Int) + 1) (by omega) (by omega)]
  refine ⟨⟨_, Tryz.func140, rfl, by kernel_rfl⟩, CallS.use (hin (i + 1) 160 191 (by omega)) [] rfl rfl trivial ?_⟩
  rintro e H2 G' hle2 ⟨rfl, rfl, rfl⟩
  cases a1 : inL (tL s) (i + 1) 160 191 <;> (conv => whnf)
  ·rw [q3]
   (conv => whnf)
   rw [q4]
   (conv => whnf)
   rw [d5]
   (conv => whnf)
   exact ⟨by rw [hr, a1]; rfl, rfl, rfl⟩
  ·rw [wrap64 (x := (i : Int) + 2) (by omega) (by omega)]
   refine ⟨⟨_, Tryz.func140, rfl, by kernel_rfl⟩, CallS.use (hin (i + 2) 128 191 (by omega)) [] rfl rfl trivial ?_⟩
   rintro e H2 G' hle2 ⟨rfl, rfl, rfl⟩
   cases a2 : inL (tL s) (i + 2) 128 191 <;> (conv => whnf)
   ·rw [q3]
    (conv => whnf)
    rw [q4]
    (conv => whnf)
    rw [d5]
    (conv => whnf)
    exact ⟨by rw [hr, a1, a2]; rfl, rfl, rfl⟩
   ·exact ⟨by rw [hr, a1, a2]; rfl, rfl, rfl⟩
 by_cases h : m < 237
 ·have hr : r = if inL (tL s) (i + 1) 128 191 && inL (tL s) (i + 2) 128 191 then 3 else 0 := by
   rw [hr, if_neg (show ¬ m = 224 by omega), if_neg (show ¬ m = 237 by omega), if_neg (show ¬ m = 240 by omega), if_neg (show ¬ m = 244 by omega)]
   cases inL (tL s) (i + 1) 128 191 <;> cases inL (tL s) (i + 2) 128 191 <;> (simp only [Bool.and_true, Bool.and_false, Bool.true_and, Bool.false_and, Bool.and_eq_true, decide_eq_true_eq, Bool.false_eq_true, if_false, if_true]; repeat' split; all_goals omega)
  have q1 : (m == 224) = false := beq_eq_false_iff_ne.2 (by omega)
  have q2 : (m == 237) = false := beq_eq_false_iff_ne.2 (by omega)
  have q3 : (m == 240) = false := beq_eq_false_iff_ne.2 (by omega)
  have q4 : (m == 244) = false := beq_eq_false_iff_ne.2 (by omega)
  have d1 : decide (m ≥ 194) = true := decide_eq_true (by omega)
  have d2 : decide (m ≤ 223) = false := decide_eq_false (by omega)
  have d3 : decide (m ≥ 224) = true := decide_eq_true (by omega)
  have d4 : decide (m ≤ 239) = true := decide_eq_true (by omega)
  have d5 : decide (m ≥ 240) = false := decide_eq_false (by omega)
  rw [d1]
  (conv => whnf)
  rw [d2]
  (conv => whnf)
  rw [q1]
  (conv => whnf)
  rw [q2]
  (conv => whnf)
  rw [d3]
  (conv => whnf)
  rw [d4]
  (conv => whnf)
  rw [wrap64 (x := (i : Int) + 1) (by omega) (by omega)]
  refine ⟨⟨_, Tryz.func140, rfl, by kernel_rfl⟩, CallS.use (hin (i + 1) 128 191 (by omega)) [] rfl rfl trivial ?_⟩
  rintro e H2 G' hle2 ⟨rfl, rfl, rfl⟩
  cases a1 : inL (tL s) (i + 1) 128 191 <;> (conv => whnf)
  ·rw [q3]
   (conv => whnf)
   rw [q4]
   (conv => whnf)
   rw [d5]
   (conv => whnf)
   exact ⟨by rw [hr, a1]; rfl, rfl, rfl⟩
  ·rw [wrap64 (x := (i : Int) + 2) (by omega) (by omega)]
   refine ⟨⟨_, Tryz.func140, rfl, by kernel_rfl⟩, CallS.use (hin (i + 2) 128 191 (by omega)) [] rfl rfl trivial ?_⟩
   rintro e H2 G' hle2 ⟨rfl, rfl, rfl⟩
   cases a2 : inL (tL s) (i + 2) 128 191 <;> (conv => whnf)
   ·rw [q3]
    (conv => whnf)
    rw [q4]
    (conv => whnf)
    rw [d5]
    (conv => whnf)
    exact ⟨by rw [hr, a1, a2]; rfl, rfl, rfl⟩
   ·exact ⟨by rw [hr, a1, a2]; rfl, rfl, rfl⟩
 by_cases h : m = 237
 ·have hr : r = if inL (tL s) (i + 1) 128 159 && inL (tL s) (i + 2) 128 191 then 3 else 0 := by
   rw [hr, if_neg (show ¬ m = 224 by omega), if_pos (show m = 237 by omega), if_neg (show ¬ m = 240 by omega), if_neg (show ¬ m = 244 by omega)]
   cases inL (tL s) (i + 1) 128 159 <;> cases inL (tL s) (i + 2) 128 191 <;> (simp only [Bool.and_true, Bool.and_false, Bool.true_and, Bool.false_and, Bool.and_eq_true, decide_eq_true_eq, Bool.false_eq_true, if_false, if_true]; repeat' split; all_goals omega)
  have q1 : (m == 224) = false := beq_eq_false_iff_ne.2 (by omega)
  have q2 : (m == 237) = true := by rw [beq_iff_eq]; omega
  have q3 : (m == 240) = false := beq_eq_false_iff_ne.2 (by omega)
  have q4 : (m == 244) = false := beq_eq_false_iff_ne.2 (by omega)
  have d1 : decide (m ≥ 194) = true := decide_eq_true (by omega)
  have d2 : decide (m ≤ 223) = false := decide_eq_false (by omega)
  have d3 : decide (m ≥ 224) = true := decide_eq_true (by omega)
  have d4 : decide (m ≤ 239) = true := decide_eq_true (by omega)
  have d5 : decide (m ≥ 240) = false := decide_eq_false (by omega)
  rw [d1]
  (conv => whnf)
  rw [d2]
  (conv => whnf)
  rw [q1]
  (conv => whnf)
  rw [q2]
  (conv => whnf)
  rw [d3]
  (conv => whnf)
  rw [d4]
  (conv => whnf)
  rw [wrap64 (x := (i : Int) + 1) (by omega) (by omega)]
  refine ⟨⟨_, Tryz.func140, rfl, by kernel_rfl⟩, CallS.use (hin (i + 1) 128 159 (by omega)) [] rfl rfl trivial ?_⟩
  rintro e H2 G' hle2 ⟨rfl, rfl, rfl⟩
  cases a1 : inL (tL s) (i + 1) 128 159 <;> (conv => whnf)
  ·rw [q3]
   (conv => whnf)
   rw [q4]
   (conv => whnf)
   rw [d5]
   (conv => whnf)
   exact ⟨by rw [hr, a1]; rfl, rfl, rfl⟩
  ·rw [wrap64 (x := (i : Int) + 2) (by omega) (by omega)]
   refine ⟨⟨_, Tryz.func140, rfl, by kernel_rfl⟩, CallS.use (hin (i + 2) 128 191 (by omega)) [] rfl rfl trivial ?_⟩
   rintro e H2 G' hle2 ⟨rfl, rfl, rfl⟩
   cases a2 : inL (tL s) (i + 2) 128 191 <;> (conv => whnf)
   ·rw [q3]
    (conv => whnf)
    rw [q4]
    (conv => whnf)
    rw [d5]
    (conv => whnf)
    exact ⟨by rw [hr, a1, a2]; rfl, rfl, rfl⟩
   ·exact ⟨by rw [hr, a1, a2]; rfl, rfl, rfl⟩
 by_cases h : m < 240
 ·have hr : r = if inL (tL s) (i + 1) 128 191 && inL (tL s) (i + 2) 128 191 then 3 else 0 := by
   rw [hr, if_neg (show ¬ m = 224 by omega), if_neg (show ¬ m = 237 by omega), if_neg (show ¬ m = 240 by omega), if_neg (show ¬ m = 244 by omega)]
   cases inL (tL s) (i + 1) 128 191 <;> cases inL (tL s) (i + 2) 128 191 <;> (simp only [Bool.and_true, Bool.and_false, Bool.true_and, Bool.false_and, Bool.and_eq_true, decide_eq_true_eq, Bool.false_eq_true, if_false, if_true]; repeat' split; all_goals omega)
  have q1 : (m == 224) = false := beq_eq_false_iff_ne.2 (by omega)
  have q2 : (m == 237) = false := beq_eq_false_iff_ne.2 (by omega)
  have q3 : (m == 240) = false := beq_eq_false_iff_ne.2 (by omega)
  have q4 : (m == 244) = false := beq_eq_false_iff_ne.2 (by omega)
  have d1 : decide (m ≥ 194) = true := decide_eq_true (by omega)
  have d2 : decide (m ≤ 223) = false := decide_eq_false (by omega)
  have d3 : decide (m ≥ 224) = true := decide_eq_true (by omega)
  have d4 : decide (m ≤ 239) = true := decide_eq_true (by omega)
  have d5 : decide (m ≥ 240) = false := decide_eq_false (by omega)
  rw [d1]
  (conv => whnf)
  rw [d2]
  (conv => whnf)
  rw [q1]
  (conv => whnf)
  rw [q2]
  (conv => whnf)
  rw [d3]
  (conv => whnf)
  rw [d4]
  (conv => whnf)
  rw [wrap64 (x := (i : Int) + 1) (by omega) (by omega)]
  refine ⟨⟨_, Tryz.func140, rfl, by kernel_rfl⟩, CallS.use (hin (i + 1) 128 191 (by omega)) [] rfl rfl trivial ?_⟩
  rintro e H2 G' hle2 ⟨rfl, rfl, rfl⟩
  cases a1 : inL (tL s) (i + 1) 128 191 <;> (conv => whnf)
  ·rw [q3]
   (conv => whnf)
   rw [q4]
   (conv => whnf)
   rw [d5]
   (conv => whnf)
   exact ⟨by rw [hr, a1]; rfl, rfl, rfl⟩
  ·rw [wrap64 (x := (i : Int) + 2) (by omega) (by omega)]
   refine ⟨⟨_, Tryz.func140, rfl, by kernel_rfl⟩, CallS.use (hin (i + 2) 128 191 (by omega)) [] rfl rfl trivial ?_⟩
   rintro e H2 G' hle2 ⟨rfl, rfl, rfl⟩
   cases a2 : inL (tL s) (i + 2) 128 191 <;> (conv => whnf)
   ·rw [q3]
    (conv => whnf)
    rw [q4]
    (conv => whnf)
    rw [d5]
    (conv => whnf)
    exact ⟨by rw [hr, a1, a2]; rfl, rfl, rfl⟩
   ·exact ⟨by rw [hr, a1, a2]; rfl, rfl, rfl⟩
 by_cases h : m = 240
 ·have hr : r = if (inL (tL s) (i + 1) 144 191 && inL (tL s) (i + 2) 128 191) && inL (tL s) (i + 3) 128 191 then 4 else 0 := by
   rw [hr, if_neg (show ¬ m = 224 by omega), if_neg (show ¬ m = 237 by omega), if_pos (show m = 240 by omega), if_neg (show ¬ m = 244 by omega)]
   cases inL (tL s) (i + 1) 144 191 <;> cases inL (tL s) (i + 2) 128 191 <;> cases inL (tL s) (i + 3) 128 191 <;> (simp only [Bool.and_true, Bool.and_false, Bool.true_and, Bool.false_and, Bool.and_eq_true, decide_eq_true_eq, Bool.false_eq_true, if_false, if_true]; repeat' split; all_goals omega)
  have q1 : (m == 224) = false := beq_eq_false_iff_ne.2 (by omega)
  have q2 : (m == 237) = false := beq_eq_false_iff_ne.2 (by omega)
  have q3 : (m == 240) = true := by rw [beq_iff_eq]; omega
  have q4 : (m == 244) = false := beq_eq_false_iff_ne.2 (by omega)
  have d1 : decide (m ≥ 194) = true := decide_eq_true (by omega)
  have d2 : decide (m ≤ 223) = false := decide_eq_false (by omega)
  have d3 : decide (m ≥ 224) = true := decide_eq_true (by omega)
  have d4 : decide (m ≤ 239) = false := decide_eq_false (by omega)
  have d5 : decide (m ≥ 240) = true := decide_eq_true (by omega)
  have d6 : decide (m ≤ 244) = true := decide_eq_true (by omega)
  rw [d1]
  (conv => whnf)
  rw [d2]
  (conv => whnf)
  rw [q1]
  (conv => whnf)
  rw [q2]
  (conv => whnf)
  rw [d3]
  (conv => whnf)
  rw [d4]
  (conv => whnf)
  rw [q3]
  (conv => whnf)
  rw [q4]
  (conv => whnf)
  rw [d5]
  (conv => whnf)
  rw [d6]
  (conv => whnf)
  rw [wrap64 (x := (i : Int) + 1) (by omega) (by omega)]
  refine ⟨⟨_, Tryz.func140, rfl, by kernel_rfl⟩, CallS.use (hin (i + 1) 144 191 (by omega)) [] rfl rfl trivial ?_⟩
  rintro e H2 G' hle2 ⟨rfl, rfl, rfl⟩
  cases a1 : inL (tL s) (i + 1) 144 191 <;> (conv => whnf)
  ·exact ⟨by rw [hr, a1]; rfl, rfl, rfl⟩
  ·rw [wrap64 (x := (i : Int) + 2) (by omega) (by omega)]
   refine ⟨⟨_, Tryz.func140, rfl, by kernel_rfl⟩, CallS.use (hin (i + 2) 128 191 (by omega)) [] rfl rfl trivial ?_⟩
   rintro e H2 G' hle2 ⟨rfl, rfl, rfl⟩
   cases a2 : inL (tL s) (i + 2) 128 191 <;> (conv => whnf)
   ·exact ⟨by rw [hr, a1, a2]; rfl, rfl, rfl⟩
   ·rw [wrap64 (x := (i : Int) + 3) (by omega) (by omega)]
    refine ⟨⟨_, Tryz.func140, rfl, by kernel_rfl⟩, CallS.use (hin (i + 3) 128 191 (by omega)) [] rfl rfl trivial ?_⟩
    rintro e H2 G' hle2 ⟨rfl, rfl, rfl⟩
    cases a3 : inL (tL s) (i + 3) 128 191 <;> (conv => whnf)
    ·exact ⟨by rw [hr, a1, a2, a3]; rfl, rfl, rfl⟩
    ·exact ⟨by rw [hr, a1, a2, a3]; rfl, rfl, rfl⟩
 by_cases h : m < 244
 ·have hr : r = if (inL (tL s) (i + 1) 128 191 && inL (tL s) (i + 2) 128 191) && inL (tL s) (i + 3) 128 191 then 4 else 0 := by
   rw [hr, if_neg (show ¬ m = 224 by omega), if_neg (show ¬ m = 237 by omega), if_neg (show ¬ m = 240 by omega), if_neg (show ¬ m = 244 by omega)]
   cases inL (tL s) (i + 1) 128 191 <;> cases inL (tL s) (i + 2) 128 191 <;> cases inL (tL s) (i + 3) 128 191 <;> (simp only [Bool.and_true, Bool.and_false, Bool.true_and, Bool.false_and, Bool.and_eq_true, decide_eq_true_eq, Bool.false_eq_true, if_false, if_true]; repeat' split; all_goals omega)
  have q1 : (m == 224) = false := beq_eq_false_iff_ne.2 (by omega)
  have q2 : (m == 237) = false := beq_eq_false_iff_ne.2 (by omega)
  have q3 : (m == 240) = false := beq_eq_false_iff_ne.2 (by omega)
  have q4 : (m == 244) = false := beq_eq_false_iff_ne.2 (by omega)
  have d1 : decide (m ≥ 194) = true := decide_eq_true (by omega)
  have d2 : decide (m ≤ 223) = false := decide_eq_false (by omega)
  have d3 : decide (m ≥ 224) = true := decide_eq_true (by omega)
  have d4 : decide (m ≤ 239) = false := decide_eq_false (by omega)
  have d5 : decide (m ≥ 240) = true := decide_eq_true (by omega)
  have d6 : decide (m ≤ 244) = true := decide_eq_true (by omega)
  rw [d1]
  (conv => whnf)
  rw [d2]
  (conv => whnf)
  rw [q1]
  (conv => whnf)
  rw [q2]
  (conv => whnf)
  rw [d3]
  (conv => whnf)
  rw [d4]
  (conv => whnf)
  rw [q3]
  (conv => whnf)
  rw [q4]
  (conv => whnf)
  rw [d5]
  (conv => whnf)
  rw [d6]
  (conv => whnf)
  rw [wrap64 (x := (i : Int) + 1) (by omega) (by omega)]
  refine ⟨⟨_, Tryz.func140, rfl, by kernel_rfl⟩, CallS.use (hin (i + 1) 128 191 (by omega)) [] rfl rfl trivial ?_⟩
  rintro e H2 G' hle2 ⟨rfl, rfl, rfl⟩
  cases a1 : inL (tL s) (i + 1) 128 191 <;> (conv => whnf)
  ·exact ⟨by rw [hr, a1]; rfl, rfl, rfl⟩
  ·rw [wrap64 (x := (i : Int) + 2) (by omega) (by omega)]
   refine ⟨⟨_, Tryz.func140, rfl, by kernel_rfl⟩, CallS.use (hin (i + 2) 128 191 (by omega)) [] rfl rfl trivial ?_⟩
   rintro e H2 G' hle2 ⟨rfl, rfl, rfl⟩
   cases a2 : inL (tL s) (i + 2) 128 191 <;> (conv => whnf)
   ·exact ⟨by rw [hr, a1, a2]; rfl, rfl, rfl⟩
   ·rw [wrap64 (x := (i : Int) + 3) (by omega) (by omega)]
    refine ⟨⟨_, Tryz.func140, rfl, by kernel_rfl⟩, CallS.use (hin (i + 3) 128 191 (by omega)) [] rfl rfl trivial ?_⟩
    rintro e H2 G' hle2 ⟨rfl, rfl, rfl⟩
    cases a3 : inL (tL s) (i + 3) 128 191 <;> (conv => whnf)
    ·exact ⟨by rw [hr, a1, a2, a3]; rfl, rfl, rfl⟩
    ·exact ⟨by rw [hr, a1, a2, a3]; rfl, rfl, rfl⟩
 by_cases h : m = 244
 ·have hr : r = if (inL (tL s) (i + 1) 128 143 && inL (tL s) (i + 2) 128 191) && inL (tL s) (i + 3) 128 191 then 4 else 0 := by
   rw [hr, if_neg (show ¬ m = 224 by omega), if_neg (show ¬ m = 237 by omega), if_neg (show ¬ m = 240 by omega), if_pos (show m = 244 by omega)]
   cases inL (tL s) (i + 1) 128 143 <;> cases inL (tL s) (i + 2) 128 191 <;> cases inL (tL s) (i + 3) 128 191 <;> (simp only [Bool.and_true, Bool.and_false, Bool.true_and, Bool.false_and, Bool.and_eq_true, decide_eq_true_eq, Bool.false_eq_true, if_false, if_true]; repeat' split; all_goals omega)
  have q1 : (m == 224) = false := beq_eq_false_iff_ne.2 (by omega)
  have q2 : (m == 237) = false := beq_eq_false_iff_ne.2 (by omega)
  have q3 : (m == 240) = false := beq_eq_false_iff_ne.2 (by omega)
  have q4 : (m == 244) = true := by rw [beq_iff_eq]; omega
  have d1 : decide (m ≥ 194) = true := decide_eq_true (by omega)
  have d2 : decide (m ≤ 223) = false := decide_eq_false (by omega)
  have d3 : decide (m ≥ 224) = true := decide_eq_true (by omega)
  have d4 : decide (m ≤ 239) = false := decide_eq_false (by omega)
  have d5 : decide (m ≥ 240) = true := decide_eq_true (by omega)
  have d6 : decide (m ≤ 244) = true := decide_eq_true (by omega)
  rw [d1]
  (conv => whnf)
  rw [d2]
  (conv => whnf)
  rw [q1]
  (conv => whnf)
  rw [q2]
  (conv => whnf)
  rw [d3]
  (conv => whnf)
  rw [d4]
  (conv => whnf)
  rw [q3]
  (conv => whnf)
  rw [q4]
  (conv => whnf)
  rw [d5]
  (conv => whnf)
  rw [d6]
  (conv => whnf)
  rw [wrap64 (x := (i : Int) + 1) (by omega) (by omega)]
  refine ⟨⟨_, Tryz.func140, rfl, by kernel_rfl⟩, CallS.use (hin (i + 1) 128 143 (by omega)) [] rfl rfl trivial ?_⟩
  rintro e H2 G' hle2 ⟨rfl, rfl, rfl⟩
  cases a1 : inL (tL s) (i + 1) 128 143 <;> (conv => whnf)
  ·exact ⟨by rw [hr, a1]; rfl, rfl, rfl⟩
  ·rw [wrap64 (x := (i : Int) + 2) (by omega) (by omega)]
   refine ⟨⟨_, Tryz.func140, rfl, by kernel_rfl⟩, CallS.use (hin (i + 2) 128 191 (by omega)) [] rfl rfl trivial ?_⟩
   rintro e H2 G' hle2 ⟨rfl, rfl, rfl⟩
   cases a2 : inL (tL s) (i + 2) 128 191 <;> (conv => whnf)
   ·exact ⟨by rw [hr, a1, a2]; rfl, rfl, rfl⟩
   ·rw [wrap64 (x := (i : Int) + 3) (by omega) (by omega)]
    refine ⟨⟨_, Tryz.func140, rfl, by kernel_rfl⟩, CallS.use (hin (i + 3) 128 191 (by omega)) [] rfl rfl trivial ?_⟩
    rintro e H2 G' hle2 ⟨rfl, rfl, rfl⟩
    cases a3 : inL (tL s) (i + 3) 128 191 <;> (conv => whnf)
    ·exact ⟨by rw [hr, a1, a2, a3]; rfl, rfl, rfl⟩
    ·exact ⟨by rw [hr, a1, a2, a3]; rfl, rfl, rfl⟩
 have hr : r = 0 := by
  rw [hr, if_neg (show ¬ m = 224 by omega), if_neg (show ¬ m = 237 by omega), if_neg (show ¬ m = 240 by omega), if_neg (show ¬ m = 244 by omega)]
  (simp only [Bool.and_true, Bool.and_false, Bool.true_and, Bool.false_and, Bool.and_eq_true, decide_eq_true_eq, Bool.false_eq_true, if_false, if_true]; repeat' split; all_goals omega)
 have q1 : (m == 224) = false := beq_eq_false_iff_ne.2 (by omega)
 have q2 : (m == 237) = false := beq_eq_false_iff_ne.2 (by omega)
 have q3 : (m == 240) = false := beq_eq_false_iff_ne.2 (by omega)
 have q4 : (m == 244) = false := beq_eq_false_iff_ne.2 (by omega)
 have d1 : decide (m ≥ 194) = true := decide_eq_true (by omega)
 have d2 : decide (m ≤ 223) = false := decide_eq_false (by omega)
 have d3 : decide (m ≥ 224) = true := decide_eq_true (by omega)
 have d4 : decide (m ≤ 239) = false := decide_eq_false (by omega)
 have d5 : decide (m ≥ 240) = true := decide_eq_true (by omega)
 have d6 : decide (m ≤ 244) = false := decide_eq_false (by omega)
 rw [d1]
 (conv => whnf)
 rw [d2]
 (conv => whnf)
 rw [q1]
 (conv => whnf)
 rw [q2]
 (conv => whnf)
 rw [d3]
 (conv => whnf)
 rw [d4]
 (conv => whnf)
 rw [q3]
 (conv => whnf)
 rw [q4]
 (conv => whnf)
 rw [d5]
 (conv => whnf)
 rw [d6]
 (conv => whnf)
 exact ⟨by rw [hr]; rfl, rfl, rfl⟩
theorem wrong_ (s : ByteArray) (hs : s.size ≤ 1000000) (H : Hp) : CallO Tryz.prog 65 [pv (.string s)] H [] fun e H' G' => e = .ret (pv (.int .i64 (wrongI s))) ∧ H.Le H' ∧ G' = [] := by
 have hsz := size_eq s
 refine CallO.of_body tab Tryz.func65 rfl (nt := Tryz.f65.ntmps) rfl (by kernel_rfl) ?_
 (conv => whnf)
 refine WS.loop (fun k F H2 G => ∃ i j : Nat, i ≤ s.size ∧ s.size < i + j ∧ wrongP ((tL s).length + 1) (tL s) = wrongP j ((tL s).drop i) ∧ k = s.size - i ∧ F = [(0, pv (.string s)), (2, pv (.int .i64 0)), (3, pv (.int .i64 i))] ∧ H.Le H2 ∧ G = []) (s.size + 1) ?_ ?_
 ·refine ⟨s.size, by omega, _, _, [], ⟨0, s.size + 1, by omega, by omega, by rw [hsz]; rfl, rfl, rfl, .refl _, rfl⟩, ?_⟩
  exact ⟨rfl, trivial, rfl, rfl, rfl, trivial⟩
 rintro k F H2 G hle ⟨i, j, hi, hj, hw, rfl, rfl, hle2, rfl⟩
 refine codeL.go tab ?_
 (conv => whnf)
 refine br.of (fun h1 => ?_) (fun h1 => ?_) <;> (conv => whnf)
 ·have h1 := of_decide_eq_true h1
  refine ⟨⟨_, Tryz.func102, rfl, by kernel_rfl⟩, CallS.use (character_ s i (by omega) hs H2) [] rfl rfl trivial ?_⟩
  rintro e H3 G' hle3 ⟨rfl, rfl, rfl⟩
  have hdl : ((tL s).drop i).length = s.size - i := by rw [List.length_drop, hsz]
  obtain ⟨c, l, hcl⟩ : ∃ c l, (tL s).drop i = c :: l := by
   cases hx : (tL s).drop i with
   | nil => rw [hx] at hdl; simp at hdl; omega
   | cons c l => exact ⟨c, l, rfl⟩
  obtain ⟨j, rfl⟩ : ∃ j', j = j' + 1 := ⟨j - 1, by omega⟩
  have hch : charP ((tL s).drop i) ≤ s.size - i := by
   rw [← hdl, hcl]
   unfold charP
   split
   ·omega
   ·split
    ·omega
    ·split <;> omega
  rw [hcl] at hw hch ⊢
  rw [wrongP] at hw
  (conv => whnf)
  refine br.of (fun h2 => ?_) (fun h2 => ?_) <;> (conv => whnf)
  ·simp only [beq_iff_eq] at h2
   rw [if_pos (by omega)] at hw
   refine ⟨?_, hle2, rfl⟩
   unfold wrongI
   rw [hw]
   show _ = SE.ret (pv (.int .i64 ((Js.pos s (c :: l) : Nat) : Int)))
   unfold Js.pos
   rw [← hcl, hdl, ← hsz, show s.size - (s.size - i) = i by omega]
   rfl
  ·simp only [beq_eq_false_iff_ne, ne_eq] at h2
   rw [if_neg (by omega), ← hcl, List.drop_drop] at hw
   rw [hcl] at hw
   generalize charP (c :: l) = q at *
   rw [wrap64 (x := (i : Int) + q) (by omega) (by omega)]
   refine ⟨s.size - (i + q), by omega, _, _, [], ⟨i + q, j, by omega, by omega, hw, rfl, rfl, hle2, rfl⟩, ?_⟩
   exact ⟨rfl, trivial, rfl, rfl, rfl, trivial⟩
 ·have h1 := of_decide_eq_false h1
  obtain rfl : i = s.size := by omega
  obtain ⟨j, rfl⟩ : ∃ j', j = j' + 1 := ⟨j - 1, by omega⟩
  rw [List.drop_of_length_le (by omega), wrongP] at hw
  refine ⟨?_, hle2, rfl⟩
  unfold wrongI
  rw [hw]
  rfl
end Go.Kx.Rf
namespace Go.Kx.Rf
open Go.Proofs Go.Kx Go.RowKit Go.Kx.Js Go.Kx.Pr
set_option maxRecDepth 20000
set_option linter.unusedSimpArgs false
namespace Qu
def T : Tab := [(9, { k := TK.string, agg := false, size := 1, bytes := 16, zero := [Z.s] }), (3, { k := TK.int IntKind.i64, agg := false, size := 1, bytes := 8, zero := [Z.i IntKind.i64] }), (4, { k := TK.bool, agg := false, size := 1, bytes := 1, zero := [Z.b] }), (5, { k := TK.int IntKind.u8, agg := false, size := 1, bytes := 1, zero := [Z.i IntKind.u8] })]
set_option maxRecDepth 100000 in
theorem tab : TabOk Tryz.prog T := tabOk_mk (ts := [9, 3, 4, 5]) (by kernel_rfl)
end Qu
abbrev means : List UInt8 := [8, 12, 10, 13, 9, 34, 92]
def c0 (x : UInt8) : List UInt8 := if x.toNat < 32 then [92, 117, 48, 48, hexL (x.toNat / 16), hexL (x.toNat % 16)] else [x]
def qI (x : UInt8) (k : Nat) : List UInt8 := if (means.take k).contains x then escB x else c0 x
theorem qI_end (x : UInt8) : qI x 7 = escB x := by
 have h : ∀ n : Fin 256, qI (UInt8.ofNat n.val) 7 = escB (UInt8.ofNat n.val) := by decide +kernel
 have h1 := h ⟨x.toNat, x.toNat_lt⟩
 simpa using h1
theorem esc_le (c : UInt8) : (escB c).length ≤ 6 := by
 unfold escB
 repeat' split
 all_goals simp
theorem flat_le : ∀ l : List UInt8, (l.flatMap escB).length ≤ 6 * l.length
 | [] => by simp
 | c :: l => by have := esc_le c; have := flat_le l; simp only [List.flatMap_cons, List.length_append, List.length_cons]; omega
theorem str_app (a b : List UInt8) : (⟨a.toArray⟩ : ByteArray) ++ ⟨b.toArray⟩ = ⟨(a ++ b).toArray⟩ := by
 apply ByteArray.ext
 rw [ByteArray.data_append]; simp
theorem ext1 (s : ByteArray) (i : Nat) (x : UInt8) (h : s.data.toList[i]? = some x) : s.extract i (i + 1) = ⟨#[x]⟩ := by
 have := Lib.extract_mk s.data.toList i (i + 1)
 have e : (⟨s.data.toList.toArray⟩ : ByteArray) = s := by cases s; simp
 rw [e] at this
 rw [this, show i + 1 - i = 1 by omega, List.drop_eq_getElem?_toList_append, h]
 rfl
abbrev hexS : ByteArray := ⟨#[48, 49, 50, 51, 52, 53, 54, 55, 56, 57, 97, 98, 99, 100, 101, 102]⟩
theorem q16 (n : Nat) (h : n < 32) : IntKind.u8.wrap ((n : Int).tdiv 16) = ((n / 16 : Nat) : Int) ∧ IntKind.u8.wrap (((n / 16 : Nat) : Int) + 1) = ((n / 16 + 1 : Nat) : Int) ∧ (n : Int).tmod 16 = ((n % 16 : Nat) : Int) ∧ IntKind.u8.wrap (((n % 16 : Nat) : Int) + 1) = ((n % 16 + 1 : Nat) : Int) := by
 have h1 : ∀ n : Fin 32, IntKind.u8.wrap ((n.val : Int).tdiv 16) = ((n.val / 16 : Nat) : Int) ∧ IntKind.u8.wrap (((n.val / 16 : Nat) : Int) + 1) = ((n.val / 16 + 1 : Nat) : Int) ∧ (n.val : Int).tmod 16 = ((n.val % 16 : Nat) : Int) ∧ IntKind.u8.wrap (((n.val % 16 : Nat) : Int) + 1) = ((n.val % 16 + 1 : Nat) : Int) := by decide +kernel
 exact h1 ⟨n, h⟩
theorem dg (j : Nat) (h : j < 16) : hexS.extract j (j + 1) = ⟨#[hexL j]⟩ := by
 refine ext1 hexS j (hexL j) ?_
 have h1 : ∀ j : Fin 16, hexS.data.toList[j.val]? = some (hexL j.val) := by decide +kernel
 exact h1 ⟨j, h⟩
abbrev shorts : List UInt8 := [98, 102, 110, 114, 116, 34, 92]
theorem qI_hit {j : Nat} (h : j < 7) : ∃ m d, means[j]? = some m ∧ shorts[j]? = some d ∧ qI m (j + 1) = [92, d] := by
 have h1 : ∀ j : Fin 7, means[j.val]? = some (means.getD j.val 0) ∧ shorts[j.val]? = some (shorts.getD j.val 0) ∧ qI (means.getD j.val 0) (j.val + 1) = [92, shorts.getD j.val 0] := by decide +kernel
 exact ⟨_, _, h1 ⟨j, h⟩⟩
theorem qI_miss {j : Nat} {m x : UInt8} (hm : means[j]? = some m) (h : m ≠ x) : qI x (j + 1) = qI x j := by
 unfold qI
 rw [List.take_add_one, hm]
 have e : ((means.take j) ++ (some m).toList).contains x = (means.take j).contains x := by
  rw [List.contains_eq_any_beq, List.contains_eq_any_beq, List.any_append]
  have : (x == m) = false := beq_eq_false_iff_ne.2 (Ne.symm h)
  simp [this]
 rw [e]
theorem quote_ (s : ByteArray) (hs : s.size ≤ 100000) (H : Hp) : CallO Tryz.prog 45 [pv (.string s)] H [] fun e H' G' => e = .ret (pv (.string ⟨(quoteB (tL s)).toArray⟩)) ∧ H' = H ∧ G' = [] := by
 have hsz := size_eq s
 refine CallO.of_body Qu.tab Tryz.func45 rfl (nt := Tryz.f45.ntmps) rfl (by kernel_rfl) ?_
 (conv => whnf)
 refine WS.loop (fun k F H2 G => ∃ i : Nat, i ≤ s.size ∧ k = s.size - i ∧ F = [(0, pv (.string s)), (2, pv (.string ⟨#[]⟩)), (3, pv (.string ⟨#[98, 102, 110, 114, 116, 34, 92]⟩)), (4, pv (.string ⟨#[8, 12, 10, 13, 9, 34, 92]⟩)), (5, pv (.string ⟨([34] ++ ((tL s).take i).flatMap escB).toArray⟩)), (6, pv (.int .i64 i))] ∧ H2 = H ∧ G = []) (s.size + 1) ?_ ?_
 ·refine ⟨s.size, by omega, _, _, [], ⟨0, by omega, rfl, rfl, rfl, rfl⟩, ?_⟩
  exact ⟨rfl, trivial, rfl, rfl, rfl, rfl, rfl, rfl, trivial⟩
 rintro k F H2 G hle ⟨i, hi, rfl, rfl, rfl, rfl⟩
 refine codeL.go Qu.tab ?_
 (conv => whnf)
 refine br.of (fun h1 => ?_) (fun h1 => ?_) <;> (conv => whnf)
 ·have h1 := of_decide_eq_true h1
  rw [wrap64 (x := (i : Int) + 1) (by omega) (by omega)]
  obtain ⟨x, hx, hv⟩ := Pa.bAt s i (by omega)
  refine ⟨⟨by omega, by omega, by omega⟩, ?_⟩
  rw [show s.extract (i : Int).toNat ((i : Int) + 1).toNat = ⟨#[x]⟩ from ext1 s i x hx]
  (conv => whnf)
  refine ⟨⟨by omega, by omega⟩, ?_⟩
  rw [hv]
  (conv => whnf)
  refine br.of (fun h2 => ?_) (fun h2 => ?_) <;> (conv => whnf)
  refine WS.draw Qu.tab Rf.mixed (.take 0 (.take 1 (.take 2 (.take 3 (.take 4 (.take 5 (.take 6 (.take 7 (.take 8 (.take 9 (.take 10 (.take 11 (.take 12 (.take 13 (.take 14 (.take 15 (.take 16 (.take 17 (.take 18 (.take 19 (.take 20 (.take 21 (.take 22 .done))))))))))))))))))))))) (by kernel_rfl) [] ?_
  (conv => whnf)
  rw [hv]
  refine ⟨⟨by omega, by omega⟩, ?_⟩
  (conv => whnf)
  refine ⟨by decide, ?_⟩
  (conv => whnf)
  refine ⟨⟨by omega, by omega⟩, ?_⟩
  rw [hv]
  (conv => whnf)
  refine ⟨by decide, ?_⟩
  (conv => whnf)
  obtain ⟨w1, w2, w3, w4⟩ := q16 x.toNat (by have := of_decide_eq_true h2; omega)
  rw [w1, w2]
  have hx32 : x.toNat < 32 := by have := of_decide_eq_true h2; omega
  refine ⟨⟨by omega, by omega, by show ((x.toNat / 16 + 1 : Nat) : Int) ≤ 16; omega⟩, ?_⟩
  rw [show hexS.extract (((x.toNat / 16 : Nat) : Int)).toNat (((x.toNat / 16 + 1 : Nat) : Int)).toNat = ⟨#[hexL (x.toNat / 16)]⟩ from dg _ (by omega)]
  (conv => whnf)
  refine ⟨by show 4 + 1 ≤ _; decide, ?_⟩
  rw [show (⟨#[92, 117, 48, 48]⟩ : ByteArray) ++ ⟨#[hexL (x.toNat / 16)]⟩ = ⟨#[92, 117, 48, 48, hexL (x.toNat / 16)]⟩ from str_app [92, 117, 48, 48] [hexL (x.toNat / 16)]]
  (conv => whnf)
  refine ⟨⟨by omega, by omega⟩, ?_⟩
  rw [hv]
  (conv => whnf)
  refine ⟨by decide, ?_⟩
  (conv => whnf)
  refine ⟨⟨by omega, by omega⟩, ?_⟩
  rw [hv]
  (conv => whnf)
  refine ⟨by decide, ?_⟩
  (conv => whnf)
  rw [w3, w4]
  refine ⟨⟨by omega, by omega, by show ((x.toNat % 16 + 1 : Nat) : Int) ≤ 16; omega⟩, ?_⟩
  rw [show hexS.extract (((x.toNat % 16 : Nat) : Int)).toNat (((x.toNat % 16 + 1 : Nat) : Int)).toNat = ⟨#[hexL (x.toNat % 16)]⟩ from dg _ (by omega)]
  (conv => whnf)
  refine ⟨by show 5 + 1 ≤ _; decide, ?_⟩
  rw [show (⟨#[92, 117, 48, 48, hexL (x.toNat / 16)]⟩ : ByteArray) ++ ⟨#[hexL (x.toNat % 16)]⟩ = ⟨(c0 x).toArray⟩ from (str_app [92, 117, 48, 48, hexL (x.toNat / 16)] [hexL (x.toNat % 16)]).trans (by unfold c0; rw [if_pos hx32]; rfl)]
  (conv => whnf)
  rotate_left
  rw [show (⟨#[x]⟩ : ByteArray) = ⟨(c0 x).toArray⟩ by unfold c0; rw [if_neg (by have := of_decide_eq_false h2; omega)]]
  all_goals refine WS.loop (fun k F H3 G => ∃ j : Nat, j ≤ 7 ∧ k = 7 - j ∧ F = [(0, pv (.string s)), (2, pv (.string ⟨#[]⟩)), (3, pv (.string ⟨#[98, 102, 110, 114, 116, 34, 92]⟩)), (4, pv (.string ⟨#[8, 12, 10, 13, 9, 34, 92]⟩)), (5, pv (.string ⟨([34] ++ ((tL s).take i).flatMap escB).toArray⟩)), (6, pv (.int .i64 i)), (7, pv (.string ⟨(qI x j).toArray⟩)), (8, pv (.int .i64 j))] ∧ H3 = H2 ∧ G = []) 8 ?_ ?_
  any_goals (refine ⟨7, by omega, _, _, [], ⟨0, by omega, rfl, rfl, rfl, rfl⟩, ?_⟩; exact ⟨rfl, trivial, rfl, rfl, rfl, rfl, rfl, rfl, rfl, rfl, trivial⟩)
  all_goals rintro k F H3 G hle3 ⟨j, hj, rfl, rfl, rfl, rfl⟩
  all_goals refine codeL.go Qu.tab ?_
  all_goals (conv => whnf)
  all_goals refine br.of (fun h3 => ?_) (fun h3 => ?_) <;> (conv => whnf)
  iterate 2
   ·have h3 : (j : Int) < 7 := of_decide_eq_true h3
    obtain ⟨m, d, hm, hd, hq⟩ := qI_hit (show j < 7 by omega)
    refine WS.draw Qu.tab Rf.mixed (.take 0 (.take 1 (.take 2 (.take 3 (.take 4 (.take 5 (.take 6 .done))))))) (by kernel_rfl) [] ?_
    (conv => whnf)
    refine ⟨⟨by omega, by show (j : Int) < 7; omega⟩, ?_⟩
    rw [show byteAt ⟨#[8, 12, 10, 13, 9, 34, 92]⟩ (j : Int) = (m.toNat : Int) from (by obtain ⟨m', hm', hv'⟩ := Pa.bAt ⟨#[8, 12, 10, 13, 9, 34, 92]⟩ j (by show j < 7; omega); rw [hv']; have : some m' = some m := hm'.symm.trans hm; injection this with this; rw [this])]
    (conv => whnf)
    refine ⟨⟨by omega, by omega⟩, ?_⟩
    rw [hv]
    (conv => whnf)
    refine br.of (fun h4 => ?_) (fun h4 => ?_) <;> (conv => whnf)
    ·have hmx : m = x := by
      simp only [beq_iff_eq] at h4
      exact UInt8.toNat_inj.1 (by omega)
     rw [wrap64 (x := (j : Int) + 1) (by omega) (by omega)]
     refine ⟨⟨by omega, by omega, by show (j : Int) + 1 ≤ 7; omega⟩, ?_⟩
     rw [show (⟨#[98, 102, 110, 114, 116, 34, 92]⟩ : ByteArray).extract (j : Int).toNat ((j : Int) + 1).toNat = ⟨#[d]⟩ from ext1 _ j d hd]
     (conv => whnf)
     refine ⟨by show 1 + 1 ≤ _; decide, ?_⟩
     rw [show (⟨#[92]⟩ : ByteArray) ++ ⟨#[d]⟩ = ⟨(qI x (j + 1)).toArray⟩ from (str_app [92] [d]).trans (by rw [← hmx, hq]; rfl)]
     (conv => whnf)
     rw [wrap64 (x := (j : Int) + 1) (by omega) (by omega)]
     refine ⟨7 - (j + 1), by omega, _, _, [], ⟨j + 1, by omega, rfl, rfl, rfl, rfl⟩, ?_⟩
     exact ⟨rfl, trivial, rfl, rfl, rfl, rfl, rfl, rfl, rfl, rfl, trivial⟩
    ·have hmx : m ≠ x := fun h => by subst h; simp at h4
     rw [wrap64 (x := (j : Int) + 1) (by omega) (by omega)]
     refine ⟨7 - (j + 1), by omega, _, _, [], ⟨j + 1, by omega, rfl, rfl, rfl, rfl⟩, ?_⟩
     rw [qI_miss hm hmx]
     exact ⟨rfl, trivial, rfl, rfl, rfl, rfl, rfl, rfl, rfl, rfl, trivial⟩
   ·have h3 : ¬ (j : Int) < 7 := of_decide_eq_false h3
    obtain rfl : j = 7 := by omega
    have hf := flat_le ((tL s).take i)
    have hl : ((tL s).take i).length ≤ s.size := by rw [List.length_take]; omega
    rw [qI_end]
    have he := esc_le x
    refine ⟨?_, ?_⟩
    ·show ([34] ++ List.flatMap escB ((tL s).take i)).toArray.size + (escB x).toArray.size ≤ _
     rw [List.size_toArray, List.size_toArray, List.length_append, List.length_singleton]; omega
    rw [str_app]
    (conv => whnf)
    rw [wrap64 (x := (i : Int) + 1) (by omega) (by omega)]
    refine ⟨s.size - (i + 1), by omega, _, _, [], ⟨i + 1, by omega, rfl, rfl, rfl, rfl⟩, ?_⟩
    rw [List.take_add_one, show (tL s)[i]? = some x from hx, List.flatMap_append, ← List.append_assoc, show (some x).toList.flatMap escB = escB x by simp]
    exact ⟨rfl, trivial, rfl, rfl, rfl, rfl, rfl, rfl, trivial⟩
 ·have h1 := of_decide_eq_false h1
  obtain rfl : i = s.size := by omega
  rw [List.take_of_length_le (by omega)]
  have hf := flat_le (tL s)
  refine ⟨?_, ?_⟩
  ·show ([34] ++ List.flatMap escB (tL s)).toArray.size + 1 ≤ _
   rw [List.size_toArray, List.length_append, List.length_singleton]; omega
  (conv => whnf)
  refine ⟨?_, rfl, rfl⟩
  show SE.ret (pv (.string ((⟨([34] ++ List.flatMap escB (tL s)).toArray⟩ : ByteArray) ++ ⟨[34].toArray⟩))) = _
  rw [str_app]; rfl
end Go.Kx.Rf
namespace Go.Kx.Rf
open Go.Proofs Go.Kx Go.RowKit Go.Kx.Js Go.Kx.Pr Go.Kx.Cl
set_option maxRecDepth 20000
set_option linter.unusedSimpArgs false
namespace Wd
def T : Tab := [(9, { k := TK.string, agg := false, size := 1, bytes := 16, zero := [Z.s] }), (4, { k := TK.bool, agg := false, size := 1, bytes := 1, zero := [Z.b] }), (3, { k := TK.int IntKind.i64, agg := false, size := 1, bytes := 8, zero := [Z.i IntKind.i64] }), (62, { k := TK.slice 9, agg := false, size := 1, bytes := 24, zero := [Z.sl] }), (5, { k := TK.int IntKind.u8, agg := false, size := 1, bytes := 1, zero := [Z.i IntKind.u8] })]
set_option maxRecDepth 100000 in
theorem tab : TabOk Tryz.prog T := tabOk_mk (ts := [9, 4, 3, 62, 5]) (by kernel_rfl)
end Wd
theorem word_eq (m : Nat) (s : ByteArray) : Wo.wordP m s = (decide (1 ≤ s.size) && (decide (s.size ≤ m) && decide (wrongI s < 0))) := by
 unfold Wo.wordP toldP
 congr 1
 cases h : strEq s ⟨#[]⟩
 ·have : s ≠ ⟨#[]⟩ := (strEq_false ..).1 h
  have : s.size ≠ 0 := fun h0 => this (by apply ByteArray.ext; exact Array.eq_empty_of_size_eq_zero h0)
  exact (decide_eq_true (by omega)).symm
 ·have := (strEq_iff ..).1 h
  subst this
  rfl
theorem word12 (s : ByteArray) (hs : s.size ≤ 1000000) (H : Hp) : CallO Tryz.prog 66 [pv (.string s)] H [] fun e H' G' => e = .ret (pv (.bool (Wo.wordP 256 s))) ∧ H.Le H' ∧ G' = [] := by
 have hw : Wo.wordP 256 s = (decide (1 ≤ s.size) && (decide (s.size ≤ 256) && decide (wrongI s < 0))) := word_eq 256 s
 rw [hw]
 refine CallO.of_body Wd.tab Tryz.func66 rfl (nt := Tryz.f66.ntmps) rfl (by kernel_rfl) ?_
 by_cases h1 : 1 ≤ s.size
 ·(conv => whnf)
  rw [decide_eq_true (show (s.size : Int) ≥ 1 by omega), decide_eq_true h1]
  (conv => whnf)
  by_cases h2 : s.size ≤ 256
  ·rw [decide_eq_true (show (s.size : Int) ≤ 256 by omega), decide_eq_true h2]
   (conv => whnf)
   refine ⟨⟨_, Tryz.func65, rfl, by kernel_rfl⟩, CallS.use (wrong_ s hs H) [] rfl rfl trivial ?_⟩
   rintro e H2 G' hle ⟨rfl, hle2, rfl⟩
   (conv => whnf)
   exact ⟨rfl, hle, rfl⟩
  ·rw [decide_eq_false (show ¬ (s.size : Int) ≤ 256 by omega), decide_eq_false h2]
   (conv => whnf)
   exact ⟨rfl, .refl _, rfl⟩
 ·(conv => whnf)
  rw [decide_eq_false (show ¬ (s.size : Int) ≥ 1 by omega), decide_eq_false h1]
  (conv => whnf)
  exact ⟨rfl, .refl _, rfl⟩
theorem word13 (s : ByteArray) (hs : s.size ≤ 1000000) (H : Hp) : CallO Tryz.prog 35 [pv (.string s)] H [] fun e H' G' => e = .ret (pv (.bool (Wo.wordP 256 s))) ∧ H.Le H' ∧ G' = [] := by
 have hw : Wo.wordP 256 s = (decide (1 ≤ s.size) && (decide (s.size ≤ 256) && decide (wrongI s < 0))) := word_eq 256 s
 rw [hw]
 refine CallO.of_body Wd.tab Tryz.func35 rfl (nt := Tryz.f35.ntmps) rfl (by kernel_rfl) ?_
 by_cases h1 : 1 ≤ s.size
 ·(conv => whnf)
  rw [decide_eq_true (show (s.size : Int) ≥ 1 by omega), decide_eq_true h1]
  (conv => whnf)
  by_cases h2 : s.size ≤ 256
  ·rw [decide_eq_true (show (s.size : Int) ≤ 256 by omega), decide_eq_true h2]
   (conv => whnf)
   refine ⟨⟨_, Tryz.func65, rfl, by kernel_rfl⟩, CallS.use (wrong_ s hs H) [] rfl rfl trivial ?_⟩
   rintro e H2 G' hle ⟨rfl, hle2, rfl⟩
   (conv => whnf)
   exact ⟨rfl, hle, rfl⟩
  ·rw [decide_eq_false (show ¬ (s.size : Int) ≤ 256 by omega), decide_eq_false h2]
   (conv => whnf)
   exact ⟨rfl, .refl _, rfl⟩
 ·(conv => whnf)
  rw [decide_eq_false (show ¬ (s.size : Int) ≥ 1 by omega), decide_eq_false h1]
  (conv => whnf)
  exact ⟨rfl, .refl _, rfl⟩
theorem word11 (s : ByteArray) (hs : s.size ≤ 1000000) (H : Hp) : CallO Tryz.prog 51 [pv (.string s)] H [] fun e H' G' => e = .ret (pv (.bool (Wo.wordP 40 s))) ∧ H.Le H' ∧ G' = [] := by
 have hw : Wo.wordP 40 s = (decide (1 ≤ s.size) && (decide (s.size ≤ 40) && decide (wrongI s < 0))) := word_eq 40 s
 rw [hw]
 refine CallO.of_body Wd.tab Tryz.func51 rfl (nt := Tryz.f51.ntmps) rfl (by kernel_rfl) ?_
 by_cases h1 : 1 ≤ s.size
 ·(conv => whnf)
  rw [decide_eq_true (show (s.size : Int) ≥ 1 by omega), decide_eq_true h1]
  (conv => whnf)
  by_cases h2 : s.size ≤ 40
  ·rw [decide_eq_true (show (s.size : Int) ≤ 40 by omega), decide_eq_true h2]
   (conv => whnf)
   refine ⟨⟨_, Tryz.func65, rfl, by kernel_rfl⟩, CallS.use (wrong_ s hs H) [] rfl rfl trivial ?_⟩
   rintro e H2 G' hle ⟨rfl, hle2, rfl⟩
   (conv => whnf)
   exact ⟨rfl, hle, rfl⟩
  ·rw [decide_eq_false (show ¬ (s.size : Int) ≤ 40 by omega), decide_eq_false h2]
   (conv => whnf)
   exact ⟨rfl, .refl _, rfl⟩
 ·(conv => whnf)
  rw [decide_eq_false (show ¬ (s.size : Int) ≥ 1 by omega), decide_eq_false h1]
  (conv => whnf)
  exact ⟨rfl, .refl _, rfl⟩
theorem parts_no (c : UInt8) : ∀ l cur : List UInt8, c ∉ l → Pa.partsL c cur l = [cur ++ l]
 | [], cur, _ => by simp [Pa.partsL]
 | x :: r, cur, h => by
  simp only [List.mem_cons, not_or] at h
  unfold Pa.partsL
  rw [if_neg (Ne.symm h.1), parts_no c r (cur ++ [x]) h.2]
  simp
theorem parts_at (c : UInt8) : ∀ a b cur : List UInt8, c ∉ a → Pa.partsL c cur (a ++ c :: b) = (cur ++ a) :: Pa.partsL c [] b
 | [], b, cur, _ => by rw [List.nil_append, Pa.partsL, if_pos rfl, List.append_nil]
 | x :: r, b, cur, h => by
  simp only [List.mem_cons, not_or] at h
  rw [List.cons_append, Pa.partsL, if_neg (Ne.symm h.1), parts_at c r b (cur ++ [x]) h.2]
  simp
theorem split_at (c : UInt8) : ∀ l : List UInt8, c ∈ l → ∃ a b, l = a ++ c :: b ∧ c ∉ a
 | x :: r, h => by
  by_cases hx : x = c
  ·exact ⟨[], r, by simp [hx], by simp⟩
  ·obtain ⟨a, b, rfl, h2⟩ := split_at c r (by rcases List.mem_cons.1 h with h | h; exact absurd h.symm hx; exact h)
   exact ⟨x :: a, b, rfl, by simp only [List.mem_cons, not_or]; exact ⟨Ne.symm hx, h2⟩⟩
theorem parts_one (c : UInt8) (l : List UInt8) : ((Pa.partsL c [] l).length = 1 ↔ l.count c = 0) := by
 by_cases h : c ∈ l
 ·obtain ⟨a, b, rfl, h2⟩ := split_at c l h
  rw [parts_at c a b [] h2]
  have := Pa.partsL_pos c b []
  simp only [List.length_cons, List.count_append, List.count_cons_self]
  omega
 ·rw [parts_no c l [] h, List.count_eq_zero_of_not_mem h]
  simp
theorem addr_no {s : ByteArray} (h : (64 : UInt8) ∉ tL s) : addrP s = false := by
 unfold addrP
 rw [show s.data.toList.count 64 = 0 from List.count_eq_zero_of_not_mem h]
 simp
theorem ix_at (c : UInt8) : ∀ a b : List UInt8, c ∉ a → Lib.indexByte (a ++ c :: b) c = (a.length : Int)
 | [], b, _ => by simp [Lib.indexByte]
 | x :: r, b, h => by
  simp only [List.mem_cons, not_or] at h
  rw [List.cons_append, Lib.indexByte, if_neg (by rw [beq_iff_eq]; exact Ne.symm h.1), ix_at c r b h.2, if_neg (by rw [beq_iff_eq]; omega)]
  rfl
theorem addr_at {s : ByteArray} {a b : List UInt8} (h : tL s = a ++ 64 :: b) (ha : (64 : UInt8) ∉ a) : addrP s = (decide (b.count 64 = 0) && (decide (a ≠ []) && decide (b ≠ []))) := by
 have hi : ixB s.data.toList 64 = (a.length : Int) := by
  show Lib.indexByte (tL s) 64 = _
  rw [h, ix_at 64 a b ha]
 have hc : s.data.toList.count 64 = b.count 64 + 1 := by
  show (tL s).count 64 = _
  rw [h, List.count_append, List.count_cons_self, List.count_eq_zero_of_not_mem ha, Nat.zero_add]
 have hz : s.size = a.length + b.length + 1 := by rw [size_eq, h, List.length_append]; rfl
 unfold addrP
 rw [hi, hc, hz]
 have e1 : decide (0 < (a.length : Int)) = decide (a ≠ []) := by cases a <;> simp
 have e2 : decide ((a.length : Int) < ((a.length + b.length + 1 : Nat) : Int) - 1) = decide (b ≠ []) := by cases b <;> simp; omega
 have e3 : (b.count 64 + 1 == 1) = decide (b.count 64 = 0) := by
  rw [Bool.eq_iff_iff]; simp
 rw [e1, e2, e3]
 cases decide (a ≠ []) <;> cases decide (b ≠ []) <;> cases decide (b.count 64 = 0) <;> rfl
theorem email_parts (s : ByteArray) : (∃ a b, Pa.partsL 64 [] (tL s) = [a, b] ∧ addrP s = (decide (a ≠ []) && decide (b ≠ []))) ∨ ((Pa.partsL 64 [] (tL s)).length ≠ 2 ∧ addrP s = false) := by
 by_cases h : (64 : UInt8) ∈ tL s
 ·obtain ⟨a, b, h1, h2⟩ := split_at 64 _ h
  have hp : Pa.partsL 64 [] (tL s) = a :: Pa.partsL 64 [] b := by rw [h1]; exact parts_at 64 a b [] h2
  rw [addr_at h1 h2, hp]
  by_cases h3 : b.count 64 = 0
  ·refine .inl ⟨a, b, ?_, ?_⟩
   ·rw [parts_no 64 b [] (List.count_eq_zero.1 h3)]; rfl
   ·rw [decide_eq_true h3]; rfl
  ·refine .inr ⟨?_, ?_⟩
   ·have := mt (parts_one 64 b).1 h3
    simp only [List.length_cons, ne_eq, Nat.add_eq_right]
    omega
   ·rw [decide_eq_false h3]; rfl
 ·refine .inr ⟨?_, addr_no h⟩
  rw [parts_no 64 _ [] h]; simp
theorem str_nil (a : List UInt8) : strEq ⟨a.toArray⟩ ⟨#[]⟩ = decide (a = []) := by
 cases a with
 | nil => rfl
 | cons c l => rw [decide_eq_false (by simp)]; rw [strEq_false]; intro h; have := congrArg (fun s : ByteArray => s.data.size) h; simp at this
theorem right12 (f id own : ByteArray) (hf : f.size ≤ 100000) (hi : id.size ≤ 100000) (ho : own.size ≤ 100000) (H : Hp) : CallO Tryz.prog 36 [pv (.string f), pv (.string id), pv (.string own)] H [] fun e H' G' => e = .ret (pv (.bool (subRight ⟨f, id, own⟩))) ∧ H.Le H' ∧ G' = [] := by
 obtain ⟨r, hr⟩ : ∃ r, r = subRight ⟨f, id, own⟩ := ⟨_, rfl⟩
 rw [← hr]
 unfold subRight at hr
 dsimp only at hr
 refine CallO.of_body Wd.tab Tryz.func36 rfl (nt := Tryz.f36.ntmps) rfl (by kernel_rfl) ?_
 (conv => whnf)
 refine ⟨⟨_, Tryz.func66, rfl, by kernel_rfl⟩, CallS.use (word12 id (by omega) H) [] rfl rfl trivial ?_⟩
 rintro e H2 G' hle ⟨rfl, hle2, rfl⟩
 cases hw : Wo.wordP 256 id
 ·(conv => whnf)
  obtain rfl : r = false := by rw [hr, hw]; simp
  exact ⟨rfl, hle2, rfl⟩
 rw [hw] at hr
 (conv => whnf)
 refine br.of (fun h1 => ?_) (fun h1 => ?_) <;> (conv => whnf)
 ·have h1 := (strEq_iff ..).1 h1
  subst h1
  rw [if_neg (by decide), if_neg (by decide), if_pos rfl, Bool.true_and] at hr
  refine ⟨⟨_, Tryz.func66, rfl, by kernel_rfl⟩, CallS.use (word12 own (by omega) H2) [] rfl rfl trivial ?_⟩
  rintro e H3 G' hle3 ⟨rfl, hle4, rfl⟩
  (conv => whnf)
  obtain rfl := hr
  exact ⟨rfl, hle2.trans hle4, rfl⟩
 have h1 : f ≠ sIssSub := (strEq_false ..).1 h1
 rw [if_neg h1] at hr
 cases hn : strEq own ⟨#[]⟩
 ·(conv => whnf)
  obtain rfl : r = false := by rw [hr, hn]; simp
  exact ⟨rfl, hle2, rfl⟩
 rw [hn] at hr
 (conv => whnf)
 refine br.of (fun h2 => ?_) (fun h2 => ?_) <;> (conv => whnf)
 ·have h2 := (strEq_iff ..).1 h2
  subst h2
  rw [if_pos rfl] at hr
  obtain rfl := hr
  exact ⟨rfl, hle2, rfl⟩
 have h2 : f ≠ sOpaque := (strEq_false ..).1 h2
 rw [if_neg h2] at hr
 refine ⟨⟨_, Tryz.func67, rfl, by kernel_rfl⟩, CallS.use (Pa.parts_ id (by omega) 64 H2) [] rfl rfl trivial ?_⟩
 rintro e H3 G' hle3 ⟨⟨B, m, c, rfl, hv⟩, rfl⟩
 (conv => whnf)
 cases hf' : strEq f ⟨#[101, 109, 97, 105, 108]⟩
 ·(conv => whnf)
  have h3 : f ≠ sEmail := (strEq_false ..).1 hf'
  rw [if_neg h3] at hr
  obtain rfl : r = false := by rw [hr]; try rw [if_neg h1]
  exact ⟨rfl, hle2.trans hle3, rfl⟩
 have h3 : f = sEmail := (strEq_iff ..).1 hf'
 rw [if_pos h3] at hr
 have hm : m = (Pa.partsL 64 [] (tL id)).length := by have := hv.1; rw [Pa.stC_len] at this; exact this
 rcases email_parts id with ⟨a, b, hp, he⟩ | ⟨hp, he⟩
 ·obtain rfl : m = 2 := by rw [hm, hp]; rfl
  have hv0 : (Pa.stC (Pa.partsL 64 [] (tL id)))[0]? = some (.string ⟨a.toArray⟩) := by rw [hp]; rfl
  have hv1 : (Pa.stC (Pa.partsL 64 [] (tL id)))[1]? = some (.string ⟨b.toArray⟩) := by rw [hp]; rfl
  have hr : r = ((!strEq ⟨a.toArray⟩ ⟨#[]⟩) && (!strEq ⟨b.toArray⟩ ⟨#[]⟩)) := by
   rw [hr, he, str_nil, str_nil]
   simp
  (conv => whnf)
  refine ⟨by decide, hv.addr (by decide), ?_⟩
  (conv => whnf)
  refine ⟨_, hv.get hv0 rfl, ?_⟩
  (conv => whnf)
  cases ha : strEq ⟨a.toArray⟩ ⟨#[]⟩
  ·(conv => whnf)
   refine ⟨by decide, hv.addr (by decide), ?_⟩
   (conv => whnf)
   refine ⟨_, hv.get hv1 rfl, ?_⟩
   (conv => whnf)
   rw [ha] at hr
   exact ⟨by rw [hr]; rfl, hle2.trans hle3, rfl⟩
  ·(conv => whnf)
   rw [ha] at hr
   exact ⟨by rw [hr]; rfl, hle2.trans hle3, rfl⟩
 ·have hm2 : ((m : Nat) : Int) ≠ 2 := by omega
  (conv => whnf)
  rw [show (((m : Nat) : Int) == 2) = false from beq_eq_false_iff_ne.2 hm2]
  (conv => whnf)
  rw [he] at hr
  obtain rfl : r = false := by rw [hr]; simp
  exact ⟨rfl, hle2.trans hle3, rfl⟩
end Go.Kx.Rf
namespace Go.Kx.Rf
open Go.Proofs Go.Kx Go.RowKit Go.Kx.Js Go.Kx.Pr Go.Kx.Cl Go.Kx.Se
set_option maxRecDepth 20000
set_option linter.unusedSimpArgs false
namespace Cr
def T : Tab := [(9, { k := TK.string, agg := false, size := 1, bytes := 16, zero := [Z.s] }), (28, { k := TK.st [(0, 9, 1), (1, 9, 1), (2, 9, 1), (3, 3, 1), (4, 9, 1), (5, 9, 1), (6, 9, 1), (7, 9, 1), (8, 3, 1), (9, 9, 1)], agg := true, size := 10, bytes := 144, zero := [Z.s, Z.s, Z.s, Z.i IntKind.i64, Z.s, Z.s, Z.s, Z.s, Z.i IntKind.i64, Z.s] }), (3, { k := TK.int IntKind.i64, agg := false, size := 1, bytes := 8, zero := [Z.i IntKind.i64] }), (4, { k := TK.bool, agg := false, size := 1, bytes := 1, zero := [Z.b] }), (62, { k := TK.slice 9, agg := false, size := 1, bytes := 24, zero := [Z.sl] }), (5, { k := TK.int IntKind.u8, agg := false, size := 1, bytes := 1, zero := [Z.i IntKind.u8] })]
set_option maxRecDepth 100000 in
theorem tab : TabOk Tryz.prog T := tabOk_mk (ts := [9, 28, 3, 4, 62, 5]) (by kernel_rfl)
end Cr
def FitT (c : Clm) : Prop := c.iss.size ≤ 1000 ∧ c.jti.size ≤ 1000 ∧ c.aud.size ≤ 1000 ∧ c.txn.size ≤ 1000 ∧ c.sub.fmt.size ≤ 1000 ∧ c.sub.id.size ≤ 1000 ∧ c.sub.own.size ≤ 1000 ∧ c.reason.size ≤ 1000
theorem right13 (a b c : ByteArray) (n : Int) (t f i o : ByteArray) (k : Int) (r : ByteArray) (hf : FitT ⟨a, b, c, n, t, ⟨f, i, o⟩, k, r⟩) (H : Hp) : CallO Tryz.prog 12 [.si (.ag (cs10 a b c n t f i o k r))] H [] fun e H' G' => e = .ret (pv (.bool (clRight ⟨a, b, c, n, t, ⟨f, i, o⟩, k, r⟩))) ∧ H.Le H' ∧ G' = [] := by
 obtain ⟨f1, f2, f3, f4, f5, f6, f7, f8⟩ := hf
 dsimp only at f1 f2 f3 f4 f5 f6 f7 f8
 obtain ⟨R, hR⟩ : ∃ R, R = clRight ⟨a, b, c, n, t, ⟨f, i, o⟩, k, r⟩ := ⟨_, rfl⟩
 rw [← hR]
 unfold clRight at hR
 dsimp only at hR
 refine CallO.of_body Cr.tab Tryz.func12 rfl (nt := Tryz.f12.ntmps) rfl (by kernel_rfl) ?_
 (conv => whnf)
 cases h1 : decide (k < 1) <;> (conv => whnf)
 rotate_left
 ·obtain rfl : R = false := by rw [hR, decide_eq_false (show ¬ 1 ≤ k by have := of_decide_eq_true h1; omega)]; rfl
  exact ⟨rfl, .refl _, rfl⟩
 rw [decide_eq_true (show 1 ≤ k by have := of_decide_eq_false h1; omega)] at hR
 rw [show decide (k > 6) = decide (6 < k) from rfl]
 cases h2 : decide (6 < k) <;> (conv => whnf)
 rotate_left
 ·obtain rfl : R = false := by rw [hR, decide_eq_false (show ¬ k ≤ 6 by have := of_decide_eq_true h2; omega)]; rfl
  exact ⟨rfl, .refl _, rfl⟩
 rw [decide_eq_true (show k ≤ 6 by have := of_decide_eq_false h2; omega)] at hR
 cases h3 : decide (n < 0) <;> (conv => whnf)
 rotate_left
 ·obtain rfl : R = false := by rw [hR, decide_eq_false (show ¬ 0 ≤ n by have := of_decide_eq_true h3; omega)]; simp
  exact ⟨rfl, .refl _, rfl⟩
 rw [decide_eq_true (show 0 ≤ n by have := of_decide_eq_false h3; omega)] at hR
 rw [show decide (n > 1099511627776) = decide (1099511627776 < n) from rfl]
 cases h4 : decide (1099511627776 < n) <;> (conv => whnf)
 rotate_left
 ·obtain rfl : R = false := by rw [hR, decide_eq_false (show ¬ n ≤ 1099511627776 by have := of_decide_eq_true h4; omega)]; simp
  exact ⟨rfl, .refl _, rfl⟩
 rw [decide_eq_true (show n ≤ 1099511627776 by have := of_decide_eq_false h4; omega)] at hR
 simp only [Bool.true_and] at hR
 cases h5 : strEq r ⟨#[]⟩ <;> (conv => whnf)
 ·refine ⟨⟨_, Tryz.func35, rfl, by kernel_rfl⟩, CallS.use (word13 r (by omega) H) [] rfl rfl trivial ?_⟩
  rintro e H2 G' hle2 ⟨rfl, hle0, rfl⟩
  cases wr : Wo.wordP 256 r <;> (conv => whnf)
  ·obtain rfl : R = false := by rw [hR, h5, wr]; simp
   exact ⟨rfl, hle0, rfl⟩
  have hRR : R = (Wo.wordP 256 a && (Wo.wordP 256 b && (Wo.wordP 256 c && (Wo.wordP 256 t && subRight ⟨f, i, o⟩)))) := by rw [hR, h5, wr]; simp
  refine ⟨⟨_, Tryz.func35, rfl, by kernel_rfl⟩, CallS.use (word13 a (by omega) _) [] rfl rfl trivial ?_⟩
  rintro e Ha G' hlea ⟨rfl, hlea', rfl⟩
  cases wa : Wo.wordP 256 a <;> (conv => whnf)
  ·obtain rfl : R = false := by rw [hRR, wa]; simp
   exact ⟨rfl, hle0.trans hlea', rfl⟩
  refine ⟨⟨_, Tryz.func35, rfl, by kernel_rfl⟩, CallS.use (word13 b (by omega) _) [] rfl rfl trivial ?_⟩
  rintro e Hb G' hleb ⟨rfl, hleb', rfl⟩
  cases wb : Wo.wordP 256 b <;> (conv => whnf)
  ·obtain rfl : R = false := by rw [hRR, wa, wb]; simp
   exact ⟨rfl, (hle0.trans hlea').trans hleb', rfl⟩
  refine ⟨⟨_, Tryz.func35, rfl, by kernel_rfl⟩, CallS.use (word13 c (by omega) _) [] rfl rfl trivial ?_⟩
  rintro e Hc G' hlec ⟨rfl, hlec', rfl⟩
  cases wc : Wo.wordP 256 c <;> (conv => whnf)
  ·obtain rfl : R = false := by rw [hRR, wa, wb, wc]; simp
   exact ⟨rfl, ((hle0.trans hlea').trans hleb').trans hlec', rfl⟩
  refine ⟨⟨_, Tryz.func35, rfl, by kernel_rfl⟩, CallS.use (word13 t (by omega) _) [] rfl rfl trivial ?_⟩
  rintro e Ht G' hlet ⟨rfl, hlet', rfl⟩
  cases wt : Wo.wordP 256 t <;> (conv => whnf)
  ·obtain rfl : R = false := by rw [hRR, wa, wb, wc, wt]; simp
   exact ⟨rfl, (((hle0.trans hlea').trans hleb').trans hlec').trans hlet', rfl⟩
  refine ⟨⟨_, Tryz.func36, rfl, by kernel_rfl⟩, CallS.use (right12 f i o (by omega) (by omega) (by omega) _) [] rfl rfl trivial ?_⟩
  rintro e Hf G' hlef ⟨rfl, hlef', rfl⟩
  (conv => whnf)
  obtain rfl : R = subRight ⟨f, i, o⟩ := by rw [hRR, wa, wb, wc, wt]; simp
  exact ⟨rfl, ((((hle0.trans hlea').trans hleb').trans hlec').trans hlet').trans hlef', rfl⟩
 ·have hRR : R = (Wo.wordP 256 a && (Wo.wordP 256 b && (Wo.wordP 256 c && (Wo.wordP 256 t && subRight ⟨f, i, o⟩)))) := by rw [hR, h5]; simp
  have hle0 : H.Le H := .refl _
  refine ⟨⟨_, Tryz.func35, rfl, by kernel_rfl⟩, CallS.use (word13 a (by omega) _) [] rfl rfl trivial ?_⟩
  rintro e Ha G' hlea ⟨rfl, hlea', rfl⟩
  cases wa : Wo.wordP 256 a <;> (conv => whnf)
  ·obtain rfl : R = false := by rw [hRR, wa]; simp
   exact ⟨rfl, hle0.trans hlea', rfl⟩
  refine ⟨⟨_, Tryz.func35, rfl, by kernel_rfl⟩, CallS.use (word13 b (by omega) _) [] rfl rfl trivial ?_⟩
  rintro e Hb G' hleb ⟨rfl, hleb', rfl⟩
  cases wb : Wo.wordP 256 b <;> (conv => whnf)
  ·obtain rfl : R = false := by rw [hRR, wa, wb]; simp
   exact ⟨rfl, (hle0.trans hlea').trans hleb', rfl⟩
  refine ⟨⟨_, Tryz.func35, rfl, by kernel_rfl⟩, CallS.use (word13 c (by omega) _) [] rfl rfl trivial ?_⟩
  rintro e Hc G' hlec ⟨rfl, hlec', rfl⟩
  cases wc : Wo.wordP 256 c <;> (conv => whnf)
  ·obtain rfl : R = false := by rw [hRR, wa, wb, wc]; simp
   exact ⟨rfl, ((hle0.trans hlea').trans hleb').trans hlec', rfl⟩
  refine ⟨⟨_, Tryz.func35, rfl, by kernel_rfl⟩, CallS.use (word13 t (by omega) _) [] rfl rfl trivial ?_⟩
  rintro e Ht G' hlet ⟨rfl, hlet', rfl⟩
  cases wt : Wo.wordP 256 t <;> (conv => whnf)
  ·obtain rfl : R = false := by rw [hRR, wa, wb, wc, wt]; simp
   exact ⟨rfl, (((hle0.trans hlea').trans hleb').trans hlec').trans hlet', rfl⟩
  refine ⟨⟨_, Tryz.func36, rfl, by kernel_rfl⟩, CallS.use (right12 f i o (by omega) (by omega) (by omega) _) [] rfl rfl trivial ?_⟩
  rintro e Hf G' hlef ⟨rfl, hlef', rfl⟩
  (conv => whnf)
  obtain rfl : R = subRight ⟨f, i, o⟩ := by rw [hRR, wa, wb, wc, wt]; simp
  exact ⟨rfl, ((((hle0.trans hlea').trans hleb').trans hlec').trans hlet').trans hlef', rfl⟩
end Go.Kx.Rf
namespace Go.Kx.Rf
open Go.Proofs Go.Kx Go.RowKit Go.Kx.Js Go.Kx.Pr Go.Kx.Cl Go.Kx.Se Go.Kx.Lb Go.Kx.Jw Go.Kx.Ob
set_option maxRecDepth 20000
set_option linter.unusedSimpArgs false
namespace Dg
def T : Tab := [(9, { k := TK.string, agg := false, size := 1, bytes := 16, zero := [Z.s] }), (28, { k := TK.st [(0, 9, 1), (1, 9, 1), (2, 9, 1), (3, 3, 1), (4, 9, 1), (5, 9, 1), (6, 9, 1), (7, 9, 1), (8, 3, 1), (9, 9, 1)], agg := true, size := 10, bytes := 144, zero := [Z.s, Z.s, Z.s, Z.i IntKind.i64, Z.s, Z.s, Z.s, Z.s, Z.i IntKind.i64, Z.s] }), (3, { k := TK.int IntKind.i64, agg := false, size := 1, bytes := 8, zero := [Z.i IntKind.i64] }), (4, { k := TK.bool, agg := false, size := 1, bytes := 1, zero := [Z.b] }), (5, { k := TK.int IntKind.u8, agg := false, size := 1, bytes := 1, zero := [Z.i IntKind.u8] }), (55, { k := TK.slice 5, agg := false, size := 1, bytes := 24, zero := [Z.sl] })]
set_option maxRecDepth 100000 in
theorem tab : TabOk Tryz.prog T := tabOk_mk (ts := [9, 28, 3, 4, 5, 55]) (by kernel_rfl)
theorem wrap8 (x : Int) : IntKind.u8.wrap x = x % 256 := by simp [IntKind.wrap, IntKind.bits, IntKind.signed]
theorem itoa_nat (n : Nat) : Lib.itoa (n : Int) = Lib.decDigits n := by
 unfold Lib.itoa
 rw [if_neg (by omega), Int.toNat_natCast]
def digB (d : Nat) : ByteArray := ⟨#[UInt8.ofNat (48 + d)]⟩
theorem dig_cells (d : Nat) (hd : d < 10) {x : Int} (hx : x = (d : Int)) : byteCells (digB d) = [Value.int .u8 (IntKind.u8.wrap (IntKind.i64.wrap (48 + x)))] := by
 subst hx
 rw [wrap64 (by omega) (by omega), wrap8, byteCells_map]
 show [Value.int .u8 ((UInt8.ofNat (48 + d)).toNat : Int)] = _
 rw [UInt8.toNat_ofNat']
 congr 2
theorem itoaB_one (n : Nat) (h : n < 10) : itoaB n = digB n := by
 unfold itoaB digB
 rw [itoa_nat, Lib.decDigits_one h]
theorem itoaB_snoc (n : Nat) (h : ¬ n < 10) : itoaB n = itoaB (n / 10 : Nat) ++ digB (n % 10) := by
 unfold itoaB digB
 rw [itoa_nat, itoa_nat, decDigits_big h]
 apply ByteArray.ext
 rw [ByteArray.data_append]
 simp
theorem itoa_le (n : Nat) (h : n < 10 ^ 15) : (itoaB n).data.size ≤ 15 := by
 unfold itoaB
 rw [itoa_nat, List.size_toArray]
 exact dec_len 15 n h (by decide)
theorem digits (n : Nat) (hn : n < 10 ^ 15) (H : Hp) : CallO Tryz.prog 46 [pv (.int .i64 n)] H [] fun e _ G' => e = .ret (pv (.string (itoaB n))) ∧ G' = [] := by
 induction n using Nat.strongRecOn generalizing H with
 | _ n ih =>
  refine CallO.of_body tab Tryz.func46 rfl (nt := Tryz.f46.ntmps) rfl (by kernel_rfl) ?_
  (conv => whnf)
  refine br.of (fun h1 => ?_) (fun h1 => ?_) <;> (conv => whnf)
  ·simp only [decide_eq_true_eq] at h1
   refine ⟨by decide, .inl ?_⟩
   intro g H2 hle hrd
   (conv => whnf)
   refine ⟨digB n, rfl, .inr (by rw [dig_cells n (by omega) rfl]; exact hrd), ?_⟩
   (conv => whnf)
   exact ⟨by rw [itoaB_one n (by omega)]; rfl, rfl⟩
  ·simp only [decide_eq_false_iff_not] at h1
   have h10 : ¬ n < 10 := by omega
   have hd : (n : Int).tdiv 10 = ((n / 10 : Nat) : Int) := by rw [Int.tdiv_eq_ediv_of_nonneg (by omega)]; omega
   have hm : (n : Int).tmod 10 = ((n % 10 : Nat) : Int) := by rw [Int.tmod_eq_emod_of_nonneg (by omega)]; omega
   have hdw : IntKind.i64.wrap ((n : Int).tdiv 10) = ((n / 10 : Nat) : Int) := by rw [hd, wrap64 (by omega) (by omega)]
   have hi := itoa_le (n / 10) (by omega)
   refine WS.draw tab mixed (.take 0 (.take 1 (.take 3 (.take 4 (.take 5 (.take 6 (.alt 2 (.alt 7 (.alt 8 (.take 9 (.take 10 .done)) .no) .no) (.alt 7 (.alt 2 (.alt 8 (.take 9 (.take 10 .done)) .no) (.alt 8 (.alt 2 (.take 9 (.take 10 .done)) .no) .no)) .no)))))))) (by kernel_rfl) [] ?_
   (conv => whnf)
   refine ⟨by decide, ?_⟩
   (conv => whnf)
   refine ⟨by decide, ?_⟩
   (conv => whnf)
   rw [hdw, hm]
   (conv => whnf)
   repeat' (first
    | exact trivial
    | exact rfl
    | exact ⟨_, Tryz.func46, rfl, by kernel_rfl⟩
    | (refine CallS.use (ih (n / 10) (by omega) (by omega) _) [] rfl rfl trivial ?_; rintro e H' G' hle ⟨rfl, rfl⟩; (conv => whnf))
    | (refine ⟨by decide, .inl ?_⟩; intro g H2 hle2 hrd; (conv => whnf))
    | (refine ⟨digB (n % 10), rfl, .inr (by rw [dig_cells (n % 10) (by omega) rfl]; exact hrd), ?_⟩; (conv => whnf))
    | (refine ⟨digB (n % 10), rfl, .inr (by rw [dig_cells (n % 10) (by omega) rfl]; exact hrd.mono hle), ?_⟩; (conv => whnf))
    | (refine ⟨by show (itoaB ((n / 10 : Nat) : Int)).data.size + 1 ≤ _; omega, ?_⟩; (conv => whnf))
    | exact ⟨by rw [itoaB_snoc n h10]; rfl, rfl⟩
    | (refine And.intro ?_ ?_ <;> (conv => whnf)))
end Dg
theorem digits13 (v : Int) (h0 : 0 ≤ v) (hn : v ≤ 1099511627776) (H : Hp) : CallO Tryz.prog 46 [pv (.int .i64 v)] H [] fun e _ G' => e = .ret (pv (.string (itoaB v))) ∧ G' = [] := by
 obtain ⟨n, rfl⟩ : ∃ n : Nat, v = n := ⟨v.toNat, by omega⟩
 exact Dg.digits n (by omega) H
theorem quoteS (s : ByteArray) (hs : s.size ≤ 1000) (H : Hp) : CallO Tryz.prog 45 [pv (.string s)] H [] fun e H' G' => (∃ q : ByteArray, e = .ret (pv (.string q)) ∧ q.data.toList = quoteB (tL s) ∧ q.size ≤ 6100) ∧ H' = H ∧ G' = [] := by
 refine (CallS.use (quote_ s (by omega) H) [] rfl rfl trivial ?_).to
 rintro e H' G' hle ⟨rfl, rfl, rfl⟩
 (conv => whnf)
 refine ⟨⟨_, rfl, rfl, ?_⟩, rfl, rfl⟩
 have := flat_le (tL s)
 have := size_eq s
 show (quoteB (tL s)).toArray.size ≤ 6100
 unfold quoteB
 simp only [List.size_toArray, List.length_append, List.length_singleton]
 omega
theorem sub_w1 (id e : ByteArray) : wrJ (subJ ⟨sOpaque, id, e⟩) = ([123, 34, 102, 111, 114, 109, 97, 116, 34, 58, 34, 111, 112, 97, 113, 117, 101, 34, 44] : List UInt8) ++ (([34, 105, 100, 34, 58] : List UInt8) ++ (quoteB (tL id) ++ [125])) := by
 have h : subMs ⟨sOpaque, id, e⟩ = [(sFormat, strJ sOpaque), (sId, strJ id)] := rfl
 unfold subJ
 rw [h]
 simp only [objJ, wrJ, wrMs, wr_str]
 show _ = ([123, 34, 102, 111, 114, 109, 97, 116, 34, 58, 34, 111, 112, 97, 113, 117, 101, 34, 44] : List UInt8) ++ (([34, 105, 100, 34, 58] : List UInt8) ++ (quoteB id.data.toList ++ [125]))
 rw [show quoteB sFormat.data.toList = ([34, 102, 111, 114, 109, 97, 116, 34] : List UInt8) from by decide +kernel, show quoteB sOpaque.data.toList = ([34, 111, 112, 97, 113, 117, 101, 34] : List UInt8) from by decide +kernel, show quoteB sId.data.toList = ([34, 105, 100, 34] : List UInt8) from by decide +kernel]
 simp
theorem sub_w2 (id e : ByteArray) : wrJ (subJ ⟨sEmail, id, e⟩) = ([123, 34, 102, 111, 114, 109, 97, 116, 34, 58, 34, 101, 109, 97, 105, 108, 34, 44] : List UInt8) ++ (([34, 101, 109, 97, 105, 108, 34, 58] : List UInt8) ++ (quoteB (tL id) ++ [125])) := by
 have h : subMs ⟨sEmail, id, e⟩ = [(sFormat, strJ sEmail), (sEmail, strJ id)] := rfl
 unfold subJ
 rw [h]
 simp only [objJ, wrJ, wrMs, wr_str]
 show _ = ([123, 34, 102, 111, 114, 109, 97, 116, 34, 58, 34, 101, 109, 97, 105, 108, 34, 44] : List UInt8) ++ (([34, 101, 109, 97, 105, 108, 34, 58] : List UInt8) ++ (quoteB id.data.toList ++ [125]))
 rw [show quoteB sFormat.data.toList = ([34, 102, 111, 114, 109, 97, 116, 34] : List UInt8) from by decide +kernel, show quoteB sEmail.data.toList = ([34, 101, 109, 97, 105, 108, 34] : List UInt8) from by decide +kernel]
 simp
theorem sub_w3 (id own : ByteArray) : wrJ (subJ ⟨sIssSub, id, own⟩) = ([123, 34, 102, 111, 114, 109, 97, 116, 34, 58, 34, 105, 115, 115, 95, 115, 117, 98, 34, 44] : List UInt8) ++ (([34, 105, 115, 115, 34, 58] : List UInt8) ++ (quoteB (tL own) ++ (([44, 34, 115, 117, 98, 34, 58] : List UInt8) ++ (quoteB (tL id) ++ [125])))) := by
 have h : subMs ⟨sIssSub, id, own⟩ = [(sFormat, strJ sIssSub), (sIss, strJ own), (sSub, strJ id)] := rfl
 unfold subJ
 rw [h]
 simp only [objJ, wrJ, wrMs, wr_str]
 show _ = ([123, 34, 102, 111, 114, 109, 97, 116, 34, 58, 34, 105, 115, 115, 95, 115, 117, 98, 34, 44] : List UInt8) ++ (([34, 105, 115, 115, 34, 58] : List UInt8) ++ (quoteB own.data.toList ++ (([44, 34, 115, 117, 98, 34, 58] : List UInt8) ++ (quoteB id.data.toList ++ [125]))))
 rw [show quoteB sFormat.data.toList = ([34, 102, 111, 114, 109, 97, 116, 34] : List UInt8) from by decide +kernel, show quoteB sIssSub.data.toList = ([34, 105, 115, 115, 95, 115, 117, 98, 34] : List UInt8) from by decide +kernel, show quoteB sIss.data.toList = ([34, 105, 115, 115, 34] : List UInt8) from by decide +kernel, show quoteB sSub.data.toList = ([34, 115, 117, 98, 34] : List UInt8) from by decide +kernel]
 simp
theorem add_le {x y : ByteArray} {n m : Nat} (hx : x.size ≤ n) (hy : y.size ≤ m) : (x ++ y).size ≤ n + m := by rw [ByteArray.size_append]; omega
theorem add_ok {x y : ByteArray} {n m : Nat} (hx : x.size ≤ n) (hy : y.size ≤ m) (h : n + m ≤ 9223372036854775807) : x.size + y.size ≤ 9223372036854775807 := by omega
theorem about (a b c : ByteArray) (n : Int) (t : ByteArray) (x : Sub) (k : Int) (r : ByteArray) (hx : subRight x = true) (H : Hp) : CallO Tryz.prog 47 [.si (.ag (cs10 a b c n t x.fmt x.id x.own k r))] H [] fun e H' G' => (∃ q : ByteArray, e = .ret (pv (.string q)) ∧ q.data.toList = wrJ (subJ x) ∧ q.size ≤ 20000) ∧ H.Le H' ∧ G' = [] := by
 rcases sub_cases hx with ⟨id, rfl, h1⟩ | ⟨id, rfl, h1, h2⟩ | ⟨id, own, rfl, h1, h2⟩
 ·have h3 := (word_size h1).1
  dsimp only
  refine CallO.of_body Dg.tab Tryz.func47 rfl (nt := Tryz.f47.ntmps) rfl (by kernel_rfl) ?_
  (conv => whnf)
  refine ⟨by decide, ?_⟩
  (conv => whnf)
  refine ⟨by decide, ?_⟩
  (conv => whnf)
  refine ⟨by decide, ?_⟩
  (conv => whnf)
  refine ⟨⟨_, Tryz.func45, rfl, by kernel_rfl⟩, CallS.use (quoteS id (by omega) H) [] rfl rfl trivial ?_⟩
  rintro e H2 G' hle ⟨⟨q, rfl, hq, hqs⟩, rfl, rfl⟩
  (conv => whnf)
  refine ⟨add_ok (n := 100) (by decide) hqs (by decide), ?_⟩
  (conv => whnf)
  refine ⟨add_ok (add_le (n := 100) (by decide) hqs) (m := 1) (by decide) (by decide), ?_⟩
  (conv => whnf)
  refine ⟨⟨_, rfl, ?_, Nat.le_trans (add_le (add_le (n := 100) (by decide) hqs) (m := 1) (by decide)) (by decide)⟩, .refl _, rfl⟩
  rw [sub_w1]
  simp only [ByteArray.data_append, Array.toList_append, hq]
  simp
 ·have h3 := (word_size h1).1
  dsimp only
  refine CallO.of_body Dg.tab Tryz.func47 rfl (nt := Tryz.f47.ntmps) rfl (by kernel_rfl) ?_
  (conv => whnf)
  refine ⟨by decide, ?_⟩
  (conv => whnf)
  refine ⟨by decide, ?_⟩
  (conv => whnf)
  refine ⟨by decide, ?_⟩
  (conv => whnf)
  refine ⟨⟨_, Tryz.func45, rfl, by kernel_rfl⟩, CallS.use (quoteS id (by omega) H) [] rfl rfl trivial ?_⟩
  rintro e H2 G' hle ⟨⟨q, rfl, hq, hqs⟩, rfl, rfl⟩
  (conv => whnf)
  refine ⟨add_ok (n := 100) (by decide) hqs (by decide), ?_⟩
  (conv => whnf)
  refine ⟨add_ok (add_le (n := 100) (by decide) hqs) (m := 1) (by decide) (by decide), ?_⟩
  (conv => whnf)
  refine ⟨⟨_, rfl, ?_, Nat.le_trans (add_le (add_le (n := 100) (by decide) hqs) (m := 1) (by decide)) (by decide)⟩, .refl _, rfl⟩
  rw [sub_w2]
  simp only [ByteArray.data_append, Array.toList_append, hq]
  simp
 ·have h3 := (word_size h1).1
  have h4 := (word_size h2).1
  dsimp only
  refine CallO.of_body Dg.tab Tryz.func47 rfl (nt := Tryz.f47.ntmps) rfl (by kernel_rfl) ?_
  (conv => whnf)
  refine ⟨by decide, ?_⟩
  (conv => whnf)
  refine ⟨by decide, ?_⟩
  (conv => whnf)
  refine WS.draw Dg.tab Rf.mixed (.take 0 (.take 1 (.take 2 (.take 3 (.take 7 (.take 8 (.alt 4 (.take 5 (.take 6 (.alt 9 (.take 10 (.take 11 (.take 12 .done))) .no))) .no))))))) (by kernel_rfl) [] ?_
  (conv => whnf)
  refine ⟨by decide, ?_⟩
  (conv => whnf)
  refine And.intro ?_ ?_ <;> (conv => whnf)
  rotate_left
  ·exact trivial
  refine ⟨⟨_, Tryz.func45, rfl, by kernel_rfl⟩, CallS.use (quoteS own (by omega) H) [] rfl rfl trivial ?_⟩
  rintro e H2 G' hle ⟨⟨q2, rfl, hq2, hqs2⟩, rfl, rfl⟩
  (conv => whnf)
  refine ⟨⟨rfl, trivial⟩, ?_⟩
  (conv => whnf)
  refine ⟨add_ok (n := 100) (by decide) hqs2 (by decide), ?_⟩
  (conv => whnf)
  refine ⟨add_ok (add_le (n := 100) (by decide) hqs2) (m := 10) (by decide) (by decide), ?_⟩
  (conv => whnf)
  refine And.intro ?_ ?_ <;> (conv => whnf)
  rotate_left
  ·exact trivial
  refine ⟨⟨_, Tryz.func45, rfl, by kernel_rfl⟩, CallS.use (quoteS id (by omega) _) [] rfl rfl trivial ?_⟩
  rintro e H3 G' hle3 ⟨⟨q, rfl, hq, hqs⟩, rfl, rfl⟩
  (conv => whnf)
  refine ⟨⟨rfl, trivial⟩, ?_⟩
  (conv => whnf)
  refine ⟨add_ok (add_le (add_le (n := 100) (by decide) hqs2) (m := 10) (by decide)) hqs (by decide), ?_⟩
  (conv => whnf)
  refine ⟨add_ok (add_le (add_le (add_le (n := 100) (by decide) hqs2) (m := 10) (by decide)) hqs) (m := 1) (by decide) (by decide), ?_⟩
  (conv => whnf)
  refine ⟨⟨_, rfl, ?_, Nat.le_trans (add_le (add_le (add_le (add_le (n := 100) (by decide) hqs2) (m := 10) (by decide)) hqs) (m := 1) (by decide)) (by decide)⟩, .refl _, rfl⟩
  rw [sub_w3]
  simp only [ByteArray.data_append, Array.toList_append, hq, hq2]
  simp
end Go.Kx.Rf
