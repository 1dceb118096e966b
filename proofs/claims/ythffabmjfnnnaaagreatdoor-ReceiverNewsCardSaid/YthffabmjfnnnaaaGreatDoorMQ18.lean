/- The reference of layer 5: where a text isn't told. No condition of its own. -/
import Derived.Test.YthffabmjfnnnaaaGreatDoorMQ17
namespace Go.Kx.Rf
open Go.Proofs Go.Kx Go.RowKit Go.Kx.Js Go.Kx.Pr
set_option maxRecDepth 20000
set_option linter.unusedSimpArgs false
theorem mixed : Tryz.prog.follows .mixedOrders = true := by kernel_rfl
def T : Tab := [(9, { k := TK.string, agg := false, size := 1, bytes := 16, zero := [Z.s] }), (3, { k := TK.int IntKind.i64, agg := false, size := 1, bytes := 8, zero := [Z.i IntKind.i64] }), (4, { k := TK.bool, agg := false, size := 1, bytes := 1, zero := [Z.b] }), (5, { k := TK.int IntKind.u8, agg := false, size := 1, bytes := 1, zero := [Z.i IntKind.u8] })]
set_option maxRecDepth 100000 in
theorem tab : TabOk Tryz.prog T := tabOk_mk (ts := [9, 3, 4, 5]) (by kernel_rfl)
def inL (l : List UInt8) (i : Nat) (lo hi : Int) : Bool := match l[i]? with
 | some c => decide (lo ≤ (c.toNat : Int)) && decide ((c.toNat : Int) ≤ hi)
 | none => false
theorem in_ (s : ByteArray) (at' : Nat) (lo hi : Int) (ha : at' ≤ 2000000) (H : Hp) : CallO Tryz.prog 85 [pv (.string s), pv (.int .i64 at'), pv (.int .i64 lo), pv (.int .i64 hi)] H [] fun e H' G' => e = .ret (pv (.bool (inL (tL s) at' lo hi))) ∧ H' = H ∧ G' = [] := by
 refine CallO.of_body tab Tryz.func85 rfl (nt := Tryz.f85.ntmps) rfl (by kernel_rfl) ?_
 by_cases h : at' < s.size
 ·obtain ⟨c, hc, hv⟩ := Pa.bAt s at' h
  have hL : inL (tL s) at' lo hi = (decide (lo ≤ (c.toNat : Int)) && decide ((c.toNat : Int) ≤ hi)) := by unfold inL tL; rw [hc]
  rw [hL]
  (conv => whnf)
  rw [decide_eq_true (show (at' : Int) < (s.size : Int) by omega)]
  (conv => whnf)
  refine ⟨⟨by omega, by omega⟩, ?_⟩
  rw [hv]
  (conv => whnf)
  rw [wrap64 (x := (c.toNat : Int)) (by have := c.toNat_lt; omega) (by have := c.toNat_lt; omega)]
  rw [show (decide ((c.toNat : Int) ≥ lo)) = decide (lo ≤ (c.toNat : Int)) from rfl]
  cases h1 : decide (lo ≤ (c.toNat : Int)) <;> (conv => whnf)
  ·exact ⟨rfl, rfl, rfl⟩
  refine ⟨⟨by omega, by omega⟩, ?_⟩
  rw [hv]
  (conv => whnf)
  rw [wrap64 (x := (c.toNat : Int)) (by have := c.toNat_lt; omega) (by have := c.toNat_lt; omega)]
  exact ⟨rfl, rfl, rfl⟩
 ·have hL : inL (tL s) at' lo hi = false := by
   unfold inL
   rw [List.getElem?_eq_none (by rw [← size_eq]; omega)]
  rw [hL]
  (conv => whnf)
  rw [decide_eq_false (show ¬ (at' : Int) < (s.size : Int) by omega)]
  (conv => whnf)
  exact ⟨rfl, rfl, rfl⟩
def chR (c : Int) (l : List UInt8) (i : Nat) : Int :=
 if c < 128 then 1 else
 if (decide (194 ≤ c) && decide (c ≤ 223)) && inL l (i + 1) 128 191 then 2 else
 if ((decide (224 ≤ c) && decide (c ≤ 239)) && inL l (i + 1) (if c = 224 then 160 else 128) (if c = 237 then 159 else 191)) && inL l (i + 2) 128 191 then 3 else
 if (((decide (240 ≤ c) && decide (c ≤ 244)) && inL l (i + 1) (if c = 240 then 144 else 128) (if c = 244 then 143 else 191)) && inL l (i + 2) 128 191) && inL l (i + 3) 128 191 then 4 else 0
theorem inL_cons (x : UInt8) (l : List UInt8) (i : Nat) (lo hi : Int) : inL (x :: l) (i + 1) lo hi = inL l i lo hi := rfl
theorem inL_drop (l : List UInt8) (i k : Nat) (lo hi : Int) : inL (l.drop i) k lo hi = inL l (i + k) lo hi := by unfold inL; rw [List.getElem?_drop]
theorem chR_drop (c : Int) (l : List UInt8) (i : Nat) : chR c l i = chR c (l.drop i) 0 := by
 unfold chR
 simp only [inL_drop]
theorem inL_sp (l : List UInt8) (i a b : Nat) (c : UInt8) (h : l[i]? = some c) : inL l i a b = (decide (a ≤ c.toNat) && decide (c.toNat ≤ b)) := by
 unfold inL
 rw [h]
 simp only [Int.ofNat_le]
theorem inL_none (l : List UInt8) (i : Nat) (a b : Int) (h : l.length ≤ i) : inL l i a b = false := by
 unfold inL
 rw [List.getElem?_eq_none h]
theorem sp1 (a b : Nat) (l : List UInt8) : (if l.length + 1 ≤ 1 then 0 else if inSp [(a, b)] l = true then 1 + 1 else 0 : Nat) = if inL l 0 a b = true then 2 else 0 := by
 cases l with
 | nil => rw [inL_none [] 0 _ _ (Nat.le_refl _)]; rfl
 | cons c l => rw [inL_sp (c :: l) 0 a b c rfl, if_neg (by simp)]; simp only [inSp, Bool.and_true]
theorem sp2 (a b x y : Nat) (l : List UInt8) : (if l.length + 1 ≤ 2 then 0 else if inSp [(a, b), (x, y)] l = true then 1 + 2 else 0 : Nat) = if (inL l 0 a b && inL l 1 x y) = true then 3 else 0 := by
 rcases l with _ | ⟨c, _ | ⟨d, l⟩⟩
 ·rw [inL_none [] 0 _ _ (Nat.le_refl _)]; rfl
 ·rw [inL_none [c] 1 _ _ (Nat.le_refl _), Bool.and_false]; rfl
 ·rw [inL_sp (c :: d :: l) 0 a b c rfl, inL_sp (c :: d :: l) 1 x y d rfl, if_neg (by simp)]; simp only [inSp, Bool.and_true]
theorem sp3 (a b x y u v : Nat) (l : List UInt8) : (if l.length + 1 ≤ 3 then 0 else if inSp [(a, b), (x, y), (u, v)] l = true then 1 + 3 else 0 : Nat) = if ((inL l 0 a b && inL l 1 x y) && inL l 2 u v) = true then 4 else 0 := by
 rcases l with _ | ⟨c, _ | ⟨d, _ | ⟨f, l⟩⟩⟩
 ·rw [inL_none [] 0 _ _ (Nat.le_refl _)]; rfl
 ·rw [inL_none [c] 1 _ _ (Nat.le_refl _), Bool.and_false]; rfl
 ·rw [inL_none [c, d] 2 _ _ (Nat.le_refl _), Bool.and_false]; rfl
 ·rw [inL_sp (c :: d :: f :: l) 0 a b c rfl, inL_sp (c :: d :: f :: l) 1 x y d rfl, inL_sp (c :: d :: f :: l) 2 u v f rfl, if_neg (by simp)]; simp only [inSp, Bool.and_true, Bool.and_assoc]
theorem chR_eq (c : UInt8) (l : List UInt8) : chR (c.toNat : Int) (c :: l) 0 = ((charP (c :: l) : Nat) : Int) := by
 have hc := c.toNat_lt
 have e : (pk (c :: l)).toNat = c.toNat := rfl
 unfold chR charP
 rw [e]
 generalize c.toNat = n at hc
 have k : ∀ a b : Int, a ≤ n → n ≤ b → (decide (a ≤ (n : Int)) && decide ((n : Int) ≤ b)) = true := fun a b h1 h2 => by rw [decide_eq_true h1, decide_eq_true h2]; rfl
 have k' : ∀ a b : Int, (n < a ∨ b < n) → (decide (a ≤ (n : Int)) && decide ((n : Int) ≤ b)) = false := fun a b h => by
  rcases h with h | h
  ·rw [decide_eq_false (show ¬ a ≤ (n : Int) by omega)]; rfl
  ·rw [decide_eq_false (show ¬ (n : Int) ≤ b by omega), Bool.and_false]
 have m : ∀ (i : Nat) lo hi, inL (c :: l) (0 + (i + 1)) lo hi = inL l i lo hi := fun i lo hi => by rw [Nat.zero_add]; rfl
 rw [show (∀ lo hi, inL (c :: l) (0 + 1) lo hi = inL l 0 lo hi) from m 0]
 simp only [show (∀ lo hi, inL (c :: l) (0 + 1) lo hi = inL l 0 lo hi) from m 0, show (∀ lo hi, inL (c :: l) (0 + 2) lo hi = inL l 1 lo hi) from m 1, show (∀ lo hi, inL (c :: l) (0 + 3) lo hi = inL l 2 lo hi) from m 2, List.tail_cons, List.length_cons]
 by_cases h1 : n < 128
 ·rw [if_pos (show (n : Int) < 128 by omega), show behindP n = some [] by unfold behindP; rw [if_pos h1]]
  rfl
 rw [if_neg (show ¬ (n : Int) < 128 by omega)]
 by_cases h2 : n < 194
 ·rw [k' 194 223 (by omega), k' 224 239 (by omega), k' 240 244 (by omega), show behindP n = none by unfold behindP; rw [if_neg h1, if_pos h2]]
  rfl
 by_cases h3 : n < 224
 ·have hb : behindP n = some [(128, 191)] := by unfold behindP any1; repeat' (first | rw [if_pos (by omega)] | rw [if_neg (by omega)])
  rw [k 194 223 (by omega) (by omega), k' 224 239 (by omega), k' 240 244 (by omega), hb]
  show _ = ((if l.length + 1 ≤ 1 then 0 else if inSp [(128, 191)] l = true then 1 + 1 else 0 : Nat) : Int)
  rw [sp1]
  simp only [Bool.true_and, Bool.false_and, Bool.false_eq_true, if_false]
  show (if inL l 0 128 191 = true then (2 : Int) else 0) = ((if inL l 0 128 191 = true then 2 else 0 : Nat) : Int)
  split <;> rfl
 by_cases h4 : n = 224
 ·have hb : behindP n = some [(160, 191), (128, 191)] := by unfold behindP any1; repeat' (first | rw [if_pos (by omega)] | rw [if_neg (by omega)])
  rw [k' 194 223 (by omega), k 224 239 (by omega) (by omega), k' 240 244 (by omega), hb, if_pos (show (n : Int) = 224 by omega), if_neg (show ¬ (n : Int) = 237 by omega)]
  show _ = ((if l.length + 1 ≤ 2 then 0 else if inSp [(160, 191), (128, 191)] l = true then 1 + 2 else 0 : Nat) : Int)
  rw [sp2]
  simp only [Bool.true_and, Bool.false_and, Bool.false_eq_true, if_false]
  show (if (inL l 0 160 191 && inL l 1 128 191) = true then (3 : Int) else 0) = ((if (inL l 0 160 191 && inL l 1 128 191) = true then 3 else 0 : Nat) : Int)
  split <;> rfl
 by_cases h5 : n = 237
 ·have hb : behindP n = some [(128, 159), (128, 191)] := by unfold behindP any1; repeat' (first | rw [if_pos (by omega)] | rw [if_neg (by omega)])
  rw [k' 194 223 (by omega), k 224 239 (by omega) (by omega), k' 240 244 (by omega), hb, if_neg (show ¬ (n : Int) = 224 by omega), if_pos (show (n : Int) = 237 by omega)]
  show _ = ((if l.length + 1 ≤ 2 then 0 else if inSp [(128, 159), (128, 191)] l = true then 1 + 2 else 0 : Nat) : Int)
  rw [sp2]
  simp only [Bool.true_and, Bool.false_and, Bool.false_eq_true, if_false]
  show (if (inL l 0 128 159 && inL l 1 128 191) = true then (3 : Int) else 0) = ((if (inL l 0 128 159 && inL l 1 128 191) = true then 3 else 0 : Nat) : Int)
  split <;> rfl
 by_cases h6 : n < 240
 ·have hb : behindP n = some [(128, 191), (128, 191)] := by unfold behindP any1; repeat' (first | rw [if_pos (by omega)] | rw [if_neg (by omega)])
  rw [k' 194 223 (by omega), k 224 239 (by omega) (by omega), k' 240 244 (by omega), hb, if_neg (show ¬ (n : Int) = 224 by omega), if_neg (show ¬ (n : Int) = 237 by omega)]
  show _ = ((if l.length + 1 ≤ 2 then 0 else if inSp [(128, 191), (128, 191)] l = true then 1 + 2 else 0 : Nat) : Int)
  rw [sp2]
  simp only [Bool.true_and, Bool.false_and, Bool.false_eq_true, if_false]
  show (if (inL l 0 128 191 && inL l 1 128 191) = true then (3 : Int) else 0) = ((if (inL l 0 128 191 && inL l 1 128 191) = true then 3 else 0 : Nat) : Int)
  split <;> rfl
 by_cases h7 : n = 240
 ·have hb : behindP n = some [(144, 191), (128, 191), (128, 191)] := by unfold behindP any1; repeat' (first | rw [if_pos (by omega)] | rw [if_neg (by omega)])
  rw [k' 194 223 (by omega), k' 224 239 (by omega), k 240 244 (by omega) (by omega), hb, if_pos (show (n : Int) = 240 by omega), if_neg (show ¬ (n : Int) = 244 by omega)]
  show _ = ((if l.length + 1 ≤ 3 then 0 else if inSp [(144, 191), (128, 191), (128, 191)] l = true then 1 + 3 else 0 : Nat) : Int)
  rw [sp3]
  simp only [Bool.true_and, Bool.false_and, Bool.false_eq_true, if_false]
  show (if ((inL l 0 144 191 && inL l 1 128 191) && inL l 2 128 191) = true then (4 : Int) else 0) = ((if ((inL l 0 144 191 && inL l 1 128 191) && inL l 2 128 191) = true then 4 else 0 : Nat) : Int)
  split <;> rfl
 by_cases h8 : n < 244
 ·have hb : behindP n = some [(128, 191), (128, 191), (128, 191)] := by unfold behindP any1; repeat' (first | rw [if_pos (by omega)] | rw [if_neg (by omega)])
  rw [k' 194 223 (by omega), k' 224 239 (by omega), k 240 244 (by omega) (by omega), hb, if_neg (show ¬ (n : Int) = 240 by omega), if_neg (show ¬ (n : Int) = 244 by omega)]
  show _ = ((if l.length + 1 ≤ 3 then 0 else if inSp [(128, 191), (128, 191), (128, 191)] l = true then 1 + 3 else 0 : Nat) : Int)
  rw [sp3]
  simp only [Bool.true_and, Bool.false_and, Bool.false_eq_true, if_false]
  show (if ((inL l 0 128 191 && inL l 1 128 191) && inL l 2 128 191) = true then (4 : Int) else 0) = ((if ((inL l 0 128 191 && inL l 1 128 191) && inL l 2 128 191) = true then 4 else 0 : Nat) : Int)
  split <;> rfl
 by_cases h9 : n = 244
 ·have hb : behindP n = some [(128, 143), (128, 191), (128, 191)] := by unfold behindP any1; repeat' (first | rw [if_pos (by omega)] | rw [if_neg (by omega)])
  rw [k' 194 223 (by omega), k' 224 239 (by omega), k 240 244 (by omega) (by omega), hb, if_neg (show ¬ (n : Int) = 240 by omega), if_pos (show (n : Int) = 244 by omega)]
  show _ = ((if l.length + 1 ≤ 3 then 0 else if inSp [(128, 143), (128, 191), (128, 191)] l = true then 1 + 3 else 0 : Nat) : Int)
  rw [sp3]
  simp only [Bool.true_and, Bool.false_and, Bool.false_eq_true, if_false]
  show (if ((inL l 0 128 143 && inL l 1 128 191) && inL l 2 128 191) = true then (4 : Int) else 0) = ((if ((inL l 0 128 143 && inL l 1 128 191) && inL l 2 128 191) = true then 4 else 0 : Nat) : Int)
  split <;> rfl
 have hb : behindP n = none := by unfold behindP any1; repeat' (first | rw [if_pos (by omega)] | rw [if_neg (by omega)])
 rw [k' 194 223 (by omega), k' 224 239 (by omega), k' 240 244 (by omega), hb]
 rfl
theorem character_ (s : ByteArray) (i : Nat) (hi : i < s.size) (hs : s.size ≤ 1000000) (H : Hp) : CallO Tryz.prog 53 [pv (.string s), pv (.int .i64 i)] H [] fun e H' G' => e = .ret (pv (.int .i64 (charP ((tL s).drop i)))) ∧ H' = H ∧ G' = [] := by
 obtain ⟨c, hc, hv⟩ := Pa.bAt s i hi
 have hd : (tL s).drop i = c :: (tL s).drop (i + 1) := by
  rw [List.drop_eq_getElem?_toList_append, show (tL s)[i]? = some c from hc]; rfl
 have hE : ((charP ((tL s).drop i) : Nat) : Int) = chR (c.toNat : Int) (tL s) i := by rw [hd, ← chR_eq, ← hd, ← chR_drop]
 rw [hE]
 have hin := fun k lo hi' (hk : k ≤ 2000000) => in_ s k lo hi' hk H
 obtain ⟨r, hr⟩ : ∃ r, r = chR (c.toNat : Int) (tL s) i := ⟨_, rfl⟩
 rw [← hr]
 have hc2 : (0 : Int) ≤ (c.toNat : Int) ∧ (c.toNat : Int) < 256 := by have := c.toNat_lt; omega
 refine CallO.of_body tab Tryz.func53 rfl (nt := Tryz.f53.ntmps) rfl (by kernel_rfl) ?_
 (conv => whnf)
 refine ⟨⟨by omega, by omega⟩, ?_⟩
 rw [hv]
 (conv => whnf)
 generalize (c.toNat : Int) = m at hc2 hr ⊢
 rw [wrap64 (x := m) (by omega) (by omega)]
 refine br.of (fun h1 => ?_) (fun h1 => ?_) <;> (conv => whnf)
 ·have h1 := of_decide_eq_true h1
  obtain rfl : r = 1 := by rw [hr]; unfold chR; rw [if_pos h1]
  exact ⟨rfl, rfl, rfl⟩
 have h1 := of_decide_eq_false h1
 unfold chR at hr
 rw [if_neg h1] at hr
 by_cases h : m < 194
 ·have hr : r = 0 := by
   rw [hr, if_neg (show ¬ m = 224 by omega), if_neg (show ¬ m = 237 by omega), if_neg (show ¬ m = 240 by omega), if_neg (show ¬ m = 244 by omega)]
   (simp only [Bool.and_true, Bool.and_false, Bool.true_and, Bool.false_and, Bool.and_eq_true, decide_eq_true_eq, Bool.false_eq_true, if_false, if_true]; repeat' split; all_goals omega)
  have q1 : (m == 224) = false := beq_eq_false_iff_ne.2 (by omega)
  have q2 : (m == 237) = false := beq_eq_false_iff_ne.2 (by omega)
  have q3 : (m == 240) = false := beq_eq_false_iff_ne.2 (by omega)
  have q4 : (m == 244) = false := beq_eq_false_iff_ne.2 (by omega)
  have d1 : decide (m ≥ 194) = false := decide_eq_false (by omega)
  have d3 : decide (m ≥ 224) = false := decide_eq_false (by omega)
  have d5 : decide (m ≥ 240) = false := decide_eq_false (by omega)
  rw [d1]
  (conv => whnf)
  rw [q1]
  (conv => whnf)
  rw [q2]
  (conv => whnf)
  rw [d3]
  (conv => whnf)
  rw [q3]
  (conv => whnf)
  rw [q4]
  (conv => whnf)
  rw [d5]
  (conv => whnf)
  exact ⟨by rw [hr]; rfl, rfl, rfl⟩
 by_cases h : m < 224
 ·have hr : r = if inL (tL s) (i + 1) 128 191 then 2 else 0 := by
   rw [hr, if_neg (show ¬ m = 224 by omega), if_neg (show ¬ m = 237 by omega), if_neg (show ¬ m = 240 by omega), if_neg (show ¬ m = 244 by omega)]
   cases inL (tL s) (i + 1) 128 191 <;> (simp only [Bool.and_true, Bool.and_false, Bool.true_and, Bool.false_and, Bool.and_eq_true, decide_eq_true_eq, Bool.false_eq_true, if_false, if_true]; repeat' split; all_goals omega)
  have q1 : (m == 224) = false := beq_eq_false_iff_ne.2 (by omega)
  have q2 : (m == 237) = false := beq_eq_false_iff_ne.2 (by omega)
  have q3 : (m == 240) = false := beq_eq_false_iff_ne.2 (by omega)
  have q4 : (m == 244) = false := beq_eq_false_iff_ne.2 (by omega)
  have d1 : decide (m ≥ 194) = true := decide_eq_true (by omega)
  have d2 : decide (m ≤ 223) = true := decide_eq_true (by omega)
  have d3 : decide (m ≥ 224) = false := decide_eq_false (by omega)
  have d5 : decide (m ≥ 240) = false := decide_eq_false (by omega)
  rw [d1]
  (conv => whnf)
  rw [d2]
  (conv => whnf)
  rw [wrap64 (x := (i : Int) + 1) (by omega) (by omega)]
  refine ⟨⟨_, Tryz.func85, rfl, by kernel_rfl⟩, CallS.use (hin (i + 1) 128 191 (by omega)) [] rfl rfl trivial ?_⟩
  rintro e H2 G' hle2 ⟨rfl, rfl, rfl⟩
  cases a1 : inL (tL s) (i + 1) 128 191 <;> (conv => whnf)
  ·rw [q1]
   (conv => whnf)
   rw [q2]
   (conv => whnf)
   rw [d3]
   (conv => whnf)
   rw [q3]
   (conv => whnf)
   rw [q4]
   (conv => whnf)
   rw [d5]
   (conv => whnf)
   exact ⟨by rw [hr, a1]; rfl, rfl, rfl⟩
  ·exact ⟨by rw [hr, a1]; rfl, rfl, rfl⟩
 by_cases h : m = 224
 ·have hr : r = if inL (tL s) (i + 1) 160 191 && inL (tL s) (i + 2) 128 191 then 3 else 0 := by
   rw [hr, if_pos (show m = 224 by omega), if_neg (show ¬ m = 237 by omega), if_neg (show ¬ m = 240 by omega), if_neg (show ¬ m = 244 by omega)]
   cases inL (tL s) (i + 1) 160 191 <;> cases inL (tL s) (i + 2) 128 191 <;> (simp only [Bool.and_true, Bool.and_false, Bool.true_and, Bool.false_and, Bool.and_eq_true, decide_eq_true_eq, Bool.false_eq_true, if_false, if_true]; repeat' split; all_goals omega)
  have q1 : (m == 224) = true := by rw [beq_iff_eq]; omega
  have q2 : (m == 237) = false := beq_eq_false_iff_ne.2 (by omega)
  have q3 : (m == 240) = false := beq_eq_false_iff_ne.2 (by omega)
  have q4 : (m == 244) = false := beq_eq_false_iff_ne.2 (by omega)
  have d1 : decide (m ≥ 194) = true := decide_eq_true (by omega)
  have d2 : decide (m ≤ 223) = false := decide_eq_false (by omega)
  have d3 : decide (m ≥ 224) = true := decide_eq_true (by omega)
  have d4 : decide (m ≤ 239) = true := decide_eq_true (by omega)
  have d5 : decide (m ≥ 240) = false := decide_eq_false (by omega)
  rw [d1]
  (conv => whnf)
  rw [d2]
  (conv => whnf)
  rw [q1]
  (conv => whnf)
  rw [q2]
  (conv => whnf)
  rw [d3]
  (conv => whnf)
  rw [d4]
  (conv => whnf)
  rw [wrap64 (x := (i : Int) + 1) (by omega) (by omega)]
  refine ⟨⟨_, Tryz.func85, rfl, by kernel_rfl⟩, CallS.use (hin (i + 1) 160 191 (by omega)) [] rfl rfl trivial ?_⟩
  rintro e H2 G' hle2 ⟨rfl, rfl, rfl⟩
  cases a1 : inL (tL s) (i + 1) 160 191 <;> (conv => whnf)
  ·rw [q3]
   (conv => whnf)
   rw [q4]
   (conv => whnf)
   rw [d5]
   (conv => whnf)
   exact ⟨by rw [hr, a1]; rfl, rfl, rfl⟩
  ·rw [wrap64 (x := (i : Int) + 2) (by omega) (by omega)]
   refine ⟨⟨_, Tryz.func85, rfl, by kernel_rfl⟩, CallS.use (hin (i + 2) 128 191 (by omega)) [] rfl rfl trivial ?_⟩
   rintro e H2 G' hle2 ⟨rfl, rfl, rfl⟩
   cases a2 : inL (tL s) (i + 2) 128 191 <;> (conv => whnf)
   ·rw [q3]
    (conv => whnf)
    rw [q4]
    (conv => whnf)
    rw [d5]
    (conv => whnf)
    exact ⟨by rw [hr, a1, a2]; rfl, rfl, rfl⟩
   ·exact ⟨by rw [hr, a1, a2]; rfl, rfl, rfl⟩
 by_cases h : m < 237
 ·have hr : r = if inL (tL s) (i + 1) 128 191 && inL (tL s) (i + 2) 128 191 then 3 else 0 := by
   rw [hr, if_neg (show ¬ m = 224 by omega), if_neg (show ¬ m = 237 by omega), if_neg (show ¬ m = 240 by omega), if_neg (show ¬ m = 244 by omega)]
   cases inL (tL s) (i + 1) 128 191 <;> cases inL (tL s) (i + 2) 128 191 <;> (simp only [Bool.and_true, Bool.and_false, Bool.true_and, Bool.false_and, Bool.and_eq_true, decide_eq_true_eq, Bool.false_eq_true, if_false, if_true]; repeat' split; all_goals omega)
  have q1 : (m == 224) = false := beq_eq_false_iff_ne.2 (by omega)
  have q2 : (m == 237) = false := beq_eq_false_iff_ne.2 (by omega)
  have q3 : (m == 240) = false := beq_eq_false_iff_ne.2 (by omega)
  have q4 : (m == 244) = false := beq_eq_false_iff_ne.2 (by omega)
  have d1 : decide (m ≥ 194) = true := decide_eq_true (by omega)
  have d2 : decide (m ≤ 223) = false := decide_eq_false (by omega)
  have d3 : decide (m ≥ 224) = true := decide_eq_true (by omega)
  have d4 : decide (m ≤ 239) = true := decide_eq_true (by omega)
  have d5 : decide (m ≥ 240) = false := decide_eq_false (by omega)
  rw [d1]
  (conv => whnf)
  rw [d2]
  (conv => whnf)
  rw [q1]
  (conv => whnf)
  rw [q2]
  (conv => whnf)
  rw [d3]
  (conv => whnf)
  rw [d4]
  (conv => whnf)
  rw [wrap64 (x := (i : Int) + 1) (by omega) (by omega)]
  refine ⟨⟨_, Tryz.func85, rfl, by kernel_rfl⟩, CallS.use (hin (i + 1) 128 191 (by omega)) [] rfl rfl trivial ?_⟩
  rintro e H2 G' hle2 ⟨rfl, rfl, rfl⟩
  cases a1 : inL (tL s) (i + 1) 128 191 <;> (conv => whnf)
  ·rw [q3]
   (conv => whnf)
   rw [q4]
   (conv => whnf)
   rw [d5]
   (conv => whnf)
   exact ⟨by rw [hr, a1]; rfl, rfl, rfl⟩
  ·rw [wrap64 (x := (i : Int) + 2) (by omega) (by omega)]
   refine ⟨⟨_, Tryz.func85, rfl, by kernel_rfl⟩, CallS.use (hin (i + 2) 128 191 (by omega)) [] rfl rfl trivial ?_⟩
   rintro e H2 G' hle2 ⟨rfl, rfl, rfl⟩
   cases a2 : inL (tL s) (i + 2) 128 191 <;> (conv => whnf)
   ·rw [q3]
    (conv => whnf)
    rw [q4]
    (conv => whnf)
    rw [d5]
    (conv => whnf)
    exact ⟨by rw [hr, a1, a2]; rfl, rfl, rfl⟩
   ·exact ⟨by rw [hr, a1, a2]; rfl, rfl, rfl⟩
 by_cases h : m = 237
 ·have hr : r = if inL (tL s) (i + 1) 128 159 && inL (tL s) (i + 2) 128 191 then 3 else 0 := by
   rw [hr, if_neg (show ¬ m = 224 by omega), if_pos (show m = 237 by omega), if_neg (show ¬ m = 240 by omega), if_neg (show ¬ m = 244 by omega)]
   cases inL (tL s) (i + 1) 128 159 <;> cases inL (tL s) (i + 2) 128 191 <;> (simp only [Bool.and_true, Bool.and_false, Bool.true_and, Bool.false_and, Bool.and_eq_true, decide_eq_true_eq, Bool.false_eq_true, if_false, if_true]; repeat' split; all_goals omega)
  have q1 : (m == 224) = false := beq_eq_false_iff_ne.2 (by omega)
  have q2 : (m == 237) = true := by rw [beq_iff_eq]; omega
  have q3 : (m == 240) = false := beq_eq_false_iff_ne.2 (by omega)
  have q4 : (m == 244) = false := beq_eq_false_iff_ne.2 (by omega)
  have d1 : decide (m ≥ 194) = true := decide_eq_true (by omega)
  have d2 : decide (m ≤ 223) = false := decide_eq_false (by omega)
  have d3 : decide (m ≥ 224) = true := decide_eq_true (by omega)
  have d4 : decide (m ≤ 239) = true := decide_eq_true (by omega)
  have d5 : decide (m ≥ 240) = false := decide_eq_false (by omega)
  rw [d1]
  (conv => whnf)
  rw [d2]
  (conv => whnf)
  rw [q1]
  (conv => whnf)
  rw [q2]
  (conv => whnf)
  rw [d3]
  (conv => whnf)
  rw [d4]
  (conv => whnf)
  rw [wrap64 (x := (i : Int) + 1) (by omega) (by omega)]
  refine ⟨⟨_, Tryz.func85, rfl, by kernel_rfl⟩, CallS.use (hin (i + 1) 128 159 (by omega)) [] rfl rfl trivial ?_⟩
  rintro e H2 G' hle2 ⟨rfl, rfl, rfl⟩
  cases a1 : inL (tL s) (i + 1) 128 159 <;> (conv => whnf)
  ·rw [q3]
   (conv => whnf)
   rw [q4]
   (conv => whnf)
   rw [d5]
   (conv => whnf)
   exact ⟨by rw [hr, a1]; rfl, rfl, rfl⟩
  ·rw [wrap64 (x := (i : Int) + 2) (by omega) (by omega)]
   refine ⟨⟨_, Tryz.func85, rfl, by kernel_rfl⟩, CallS.use (hin (i + 2) 128 191 (by omega)) [] rfl rfl trivial ?_⟩
   rintro e H2 G' hle2 ⟨rfl, rfl, rfl⟩
   cases a2 : inL (tL s) (i + 2) 128 191 <;> (conv => whnf)
   ·rw [q3]
    (conv => whnf)
    rw [q4]
    (conv => whnf)
    rw [d5]
    (conv => whnf)
    exact ⟨by rw [hr, a1, a2]; rfl, rfl, rfl⟩
   ·exact ⟨by rw [hr, a1, a2]; rfl, rfl, rfl⟩
 by_cases h : m < 240
 ·have hr : r = if inL (tL s) (i + 1) 128 191 && inL (tL s) (i + 2) 128 191 then 3 else 0 := by
   rw [hr, if_neg (show ¬ m = 224 by omega), if_neg (show ¬ m = 237 by omega), if_neg (show ¬ m = 240 by omega), if_neg (show ¬ m = 244 by omega)]
   cases inL (tL s) (i + 1) 128 191 <;> cases inL (tL s) (i + 2) 128 191 <;> (simp only [Bool.and_true, Bool.and_false, Bool.true_and, Bool.false_and, Bool.and_eq_true, decide_eq_true_eq, Bool.false_eq_true, if_false, if_true]; repeat' split; all_goals omega)
  have q1 : (m == 224) = false := beq_eq_false_iff_ne.2 (by omega)
  have q2 : (m == 237) = false := beq_eq_false_iff_ne.2 (by omega)
  have q3 : (m == 240) = false := beq_eq_false_iff_ne.2 (by omega)
  have q4 : (m == 244) = false := beq_eq_false_iff_ne.2 (by omega)
  have d1 : decide (m ≥ 194) = true := decide_eq_true (by omega)
  have d2 : decide (m ≤ 223) = false := decide_eq_false (by omega)
  have d3 : decide (m ≥ 224) = true := decide_eq_true (by omega)
  have d4 : decide (m ≤ 239) = true := decide_eq_true (by omega)
  have d5 : decide (m ≥ 240) = false := decide_eq_false (by omega)
  rw [d1]
  (conv => whnf)
  rw [d2]
  (conv => whnf)
  rw [q1]
  (conv => whnf)
  rw [q2]
  (conv => whnf)
  rw [d3]
  (conv => whnf)
  rw [d4]
  (conv => whnf)
  rw [wrap64 (x := (i : Int) + 1) (by omega) (by omega)]
  refine ⟨⟨_, Tryz.func85, rfl, by kernel_rfl⟩, CallS.use (hin (i + 1) 128 191 (by omega)) [] rfl rfl trivial ?_⟩
  rintro e H2 G' hle2 ⟨rfl, rfl, rfl⟩
  cases a1 : inL (tL s) (i + 1) 128 191 <;> (conv => whnf)
  ·rw [q3]
   (conv => whnf)
   rw [q4]
   (conv => whnf)
   rw [d5]
   (conv => whnf)
   exact ⟨by rw [hr, a1]; rfl, rfl, rfl⟩
  ·rw [wrap64 (x := (i : Int) + 2) (by omega) (by omega)]
   refine ⟨⟨_, Tryz.func85, rfl, by kernel_rfl⟩, CallS.use (hin (i + 2) 128 191 (by omega)) [] rfl rfl trivial ?_⟩
   rintro e H2 G' hle2 ⟨rfl, rfl, rfl⟩
   cases a2 : inL (tL s) (i + 2) 128 191 <;> (conv => whnf)
   ·rw [q3]
    (conv => whnf)
    rw [q4]
    (conv => whnf)
    rw [d5]
    (conv => whnf)
    exact ⟨by rw [hr, a1, a2]; rfl, rfl, rfl⟩
   ·exact ⟨by rw [hr, a1, a2]; rfl, rfl, rfl⟩
 by_cases h : m = 240
 ·have hr : r = if (inL (tL s) (i + 1) 144 191 && inL (tL s) (i + 2) 128 191) && inL (tL s) (i + 3) 128 191 then 4 else 0 := by
   rw [hr, if_neg (show ¬ m = 224 by omega), if_neg (show ¬ m = 237 by omega), if_pos (show m = 240 by omega), if_neg (show ¬ m = 244 by omega)]
   cases inL (tL s) (i + 1) 144 191 <;> cases inL (tL s) (i + 2) 128 191 <;> cases inL (tL s) (i + 3) 128 191 <;> (simp only [Bool.and_true, Bool.and_false, Bool.true_and, Bool.false_and, Bool.and_eq_true, decide_eq_true_eq, Bool.false_eq_true, if_false, if_true]; repeat' split; all_goals omega)
  have q1 : (m == 224) = false := beq_eq_false_iff_ne.2 (by omega)
  have q2 : (m == 237) = false := beq_eq_false_iff_ne.2 (by omega)
  have q3 : (m == 240) = true := by rw [beq_iff_eq]; omega
  have q4 : (m == 244) = false := beq_eq_false_iff_ne.2 (by omega)
  have d1 : decide (m ≥ 194) = true := decide_eq_true (by omega)
  have d2 : decide (m ≤ 223) = false := decide_eq_false (by omega)
  have d3 : decide (m ≥ 224) = true := decide_eq_true (by omega)
  have d4 : decide (m ≤ 239) = false := decide_eq_false (by omega)
  have d5 : decide (m ≥ 240) = true := decide_eq_true (by omega)
  have d6 : decide (m ≤ 244) = true := decide_eq_true (by omega)
  rw [d1]
  (conv => whnf)
  rw [d2]
  (conv => whnf)
  rw [q1]
  (conv => whnf)
  rw [q2]
  (conv => whnf)
  rw [d3]
  (conv => whnf)
  rw [d4]
  (conv => whnf)
  rw [q3]
  (conv => whnf)
  rw [q4]
  (conv => whnf)
  rw [d5]
  (conv => whnf)
  rw [d6]
  (conv => whnf)
  rw [wrap64 (x := (i : Int) + 1) (by omega) (by omega)]
  refine ⟨⟨_, Tryz.func85, rfl, by kernel_rfl⟩, CallS.use (hin (i + 1) 144 191 (by omega)) [] rfl rfl trivial ?_⟩
  rintro e H2 G' hle2 ⟨rfl, rfl, rfl⟩
  cases a1 : inL (tL s) (i + 1) 144 191 <;> (conv => whnf)
  ·exact ⟨by rw [hr, a1]; rfl, rfl, rfl⟩
  ·rw [wrap64 (x := (i : Int) + 2) (by omega) (by omega)]
   refine ⟨⟨_, Tryz.func85, rfl, by kernel_rfl⟩, CallS.use (hin (i + 2) 128 191 (by omega)) [] rfl rfl trivial ?_⟩
   rintro e H2 G' hle2 ⟨rfl, rfl, rfl⟩
   cases a2 : inL (tL s) (i + 2) 128 191 <;> (conv => whnf)
   ·exact ⟨by rw [hr, a1, a2]; rfl, rfl, rfl⟩
   ·rw [wrap64 (x := (i : Int) + 3) (by omega) (by omega)]
    refine ⟨⟨_, Tryz.func85, rfl, by kernel_rfl⟩, CallS.use (hin (i + 3) 128 191 (by omega)) [] rfl rfl trivial ?_⟩
    rintro e H2 G' hle2 ⟨rfl, rfl, rfl⟩
    cases a3 : inL (tL s) (i + 3) 128 191 <;> (conv => whnf)
    ·exact ⟨by rw [hr, a1, a2, a3]; rfl, rfl, rfl⟩
    ·exact ⟨by rw [hr, a1, a2, a3]; rfl, rfl, rfl⟩
 by_cases h : m < 244
 ·have hr : r = if (inL (tL s) (i + 1) 128 191 && inL (tL s) (i + 2) 128 191) && inL (tL s) (i + 3) 128 191 then 4 else 0 := by
   rw [hr, if_neg (show ¬ m = 224 by omega), if_neg (show ¬ m = 237 by omega), if_neg (show ¬ m = 240 by omega), if_neg (show ¬ m = 244 by omega)]
   cases inL (tL s) (i + 1) 128 191 <;> cases inL (tL s) (i + 2) 128 191 <;> cases inL (tL s) (i + 3) 128 191 <;> (simp only [Bool.and_true, Bool.and_false, Bool.true_and, Bool.false_and, Bool.and_eq_true, decide_eq_true_eq, Bool.false_eq_true, if_false, if_true]; repeat' split; all_goals omega)
  have q1 : (m == 224) = false := beq_eq_false_iff_ne.2 (by omega)
  have q2 : (m == 237) = false := beq_eq_false_iff_ne.2 (by omega)
  have q3 : (m == 240) = false := beq_eq_false_iff_ne.2 (by omega)
  have q4 : (m == 244) = false := beq_eq_false_iff_ne.2 (by omega)
  have d1 : decide (m ≥ 194) = true := decide_eq_true (by omega)
  have d2 : decide (m ≤ 223) = false := decide_eq_false (by omega)
  have d3 : decide (m ≥ 224) = true := decide_eq_true (by omega)
  have d4 : decide (m ≤ 239) = false := decide_eq_false (by omega)
  have d5 : decide (m ≥ 240) = true := decide_eq_true (by omega)
  have d6 : decide (m ≤ 244) = true := decide_eq_true (by omega)
  rw [d1]
  (conv => whnf)
  rw [d2]
  (conv => whnf)
  rw [q1]
  (conv => whnf)
  rw [q2]
  (conv => whnf)
  rw [d3]
  (conv => whnf)
  rw [d4]
  (conv => whnf)
  rw [q3]
  (conv => whnf)
  rw [q4]
  (conv => whnf)
  rw [d5]
  (conv => whnf)
  rw [d6]
  (conv => whnf)
  rw [wrap64 (x := (i : Int) + 1) (by omega) (by omega)]
  refine ⟨⟨_, Tryz.func85, rfl, by kernel_rfl⟩, CallS.use (hin (i + 1) 128 191 (by omega)) [] rfl rfl trivial ?_⟩
  rintro e H2 G' hle2 ⟨rfl, rfl, rfl⟩
  cases a1 : inL (tL s) (i + 1) 128 191 <;> (conv => whnf)
  ·exact ⟨by rw [hr, a1]; rfl, rfl, rfl⟩
  ·rw [wrap64 (x := (i : Int) + 2) (by omega) (by omega)]
   refine ⟨⟨_, Tryz.func85, rfl, by kernel_rfl⟩, CallS.use (hin (i + 2) 128 191 (by omega)) [] rfl rfl trivial ?_⟩
   rintro e H2 G' hle2 ⟨rfl, rfl, rfl⟩
   cases a2 : inL (tL s) (i + 2) 128 191 <;> (conv => whnf)
   ·exact ⟨by rw [hr, a1, a2]; rfl, rfl, rfl⟩
   ·rw [wrap64 (x := (i : Int) + 3) (by omega) (by omega)]
    refine ⟨⟨_, Tryz.func85, rfl, by kernel_rfl⟩, CallS.use (hin (i + 3) 128 191 (by omega)) [] rfl rfl trivial ?_⟩
    rintro e H2 G' hle2 ⟨rfl, rfl, rfl⟩
    cases a3 : inL (tL s) (i + 3) 128 191 <;> (conv => whnf)
    ·exact ⟨by rw [hr, a1, a2, a3]; rfl, rfl, rfl⟩
    ·exact ⟨by rw [hr, a1, a2, a3]; rfl, rfl, rfl⟩
 by_cases h : m = 244
 ·have hr : r = if (inL (tL s) (i + 1) 128 143 && inL (tL s) (i + 2) 128 191) && inL (tL s) (i + 3) 128 191 then 4 else 0 := by
   rw [hr, if_neg (show ¬ m = 224 by omega), if_neg (show ¬ m = 237 by omega), if_neg (show ¬ m = 240 by omega), if_pos (show m = 244 by omega)]
   cases inL (tL s) (i + 1) 128 143 <;> cases inL (tL s) (i + 2) 128 191 <;> cases inL (tL s) (i + 3) 128 191 <;> (simp only [Bool.and_true, Bool.and_false, Bool.true_and, Bool.false_and, Bool.and_eq_true, decide_eq_true_eq, Bool.false_eq_true, if_false, if_true]; repeat' split; all_goals omega)
  have q1 : (m == 224) = false := beq_eq_false_iff_ne.2 (by omega)
  have q2 : (m == 237) = false := beq_eq_false_iff_ne.2 (by omega)
  have q3 : (m == 240) = false := beq_eq_false_iff_ne.2 (by omega)
  have q4 : (m == 244) = true := by rw [beq_iff_eq]; omega
  have d1 : decide (m ≥ 194) = true := decide_eq_true (by omega)
  have d2 : decide (m ≤ 223) = false := decide_eq_false (by omega)
  have d3 : decide (m ≥ 224) = true := decide_eq_true (by omega)
  have d4 : decide (m ≤ 239) = false := decide_eq_false (by omega)
  have d5 : decide (m ≥ 240) = true := decide_eq_true (by omega)
  have d6 : decide (m ≤ 244) = true := decide_eq_true (by omega)
  rw [d1]
  (conv => whnf)
  rw [d2]
  (conv => whnf)
  rw [q1]
  (conv => whnf)
  rw [q2]
  (conv => whnf)
  rw [d3]
  (conv => whnf)
  rw [d4]
  (conv => whnf)
  rw [q3]
  (conv => whnf)
  rw [q4]
  (conv => whnf)
  rw [d5]
  (conv => whnf)
  rw [d6]
  (conv => whnf)
  rw [wrap64 (x := (i : Int) + 1) (by omega) (by omega)]
  refine ⟨⟨_, Tryz.func85, rfl, by kernel_rfl⟩, CallS.use (hin (i + 1) 128 143 (by omega)) [] rfl rfl trivial ?_⟩
  rintro e H2 G' hle2 ⟨rfl, rfl, rfl⟩
  cases a1 : inL (tL s) (i + 1) 128 143 <;> (conv => whnf)
  ·exact ⟨by rw [hr, a1]; rfl, rfl, rfl⟩
  ·rw [wrap64 (x := (i : Int) + 2) (by omega) (by omega)]
   refine ⟨⟨_, Tryz.func85, rfl, by kernel_rfl⟩, CallS.use (hin (i + 2) 128 191 (by omega)) [] rfl rfl trivial ?_⟩
   rintro e H2 G' hle2 ⟨rfl, rfl, rfl⟩
   cases a2 : inL (tL s) (i + 2) 128 191 <;> (conv => whnf)
   ·exact ⟨by rw [hr, a1, a2]; rfl, rfl, rfl⟩
   ·rw [wrap64 (x := (i : Int) + 3) (by omega) (by omega)]
    refine ⟨⟨_, Tryz.func85, rfl, by kernel_rfl⟩, CallS.use (hin (i + 3) 128 191 (by omega)) [] rfl rfl trivial ?_⟩
    rintro e H2 G' hle2 ⟨rfl, rfl, rfl⟩
    cases a3 : inL (tL s) (i + 3) 128 191 <;> (conv => whnf)
    ·exact ⟨by rw [hr, a1, a2, a3]; rfl, rfl, rfl⟩
    ·exact ⟨by rw [hr, a1, a2, a3]; rfl, rfl, rfl⟩
 have hr : r = 0 := by
  rw [hr, if_neg (show ¬ m = 224 by omega), if_neg (show ¬ m = 237 by omega), if_neg (show ¬ m = 240 by omega), if_neg (show ¬ m = 244 by omega)]
  (simp only [Bool.and_true, Bool.and_false, Bool.true_and, Bool.false_and, Bool.and_eq_true, decide_eq_true_eq, Bool.false_eq_true, if_false, if_true]; repeat' split; all_goals omega)
 have q1 : (m == 224) = false := beq_eq_false_iff_ne.2 (by omega)
 have q2 : (m == 237) = false := beq_eq_false_iff_ne.2 (by omega)
 have q3 : (m == 240) = false := beq_eq_false_iff_ne.2 (by omega)
 have q4 : (m == 244) = false := beq_eq_false_iff_ne.2 (by omega)
 have d1 : decide (m ≥ 194) = true := decide_eq_true (by omega)
 have d2 : decide (m ≤ 223) = false := decide_eq_false (by omega)
 have d3 : decide (m ≥ 224) = true := decide_eq_true (by omega)
 have d4 : decide (m ≤ 239) = false := decide_eq_false (by omega)
 have d5 : decide (m ≥ 240) = true := decide_eq_true (by omega)
 have d6 : decide (m ≤ 244) = false := decide_eq_false (by omega)
 rw [d1]
 (conv => whnf)
 rw [d2]
 (conv => whnf)
 rw [q1]
 (conv => whnf)
 rw [q2]
 (conv => whnf)
 rw [d3]
 (conv => whnf)
 rw [d4]
 (conv => whnf)
 rw [q3]
 (conv => whnf)
 rw [q4]
 (conv => whnf)
 rw [d5]
 (conv => whnf)
 rw [d6]
 (conv => whnf)
 exact ⟨by rw [hr]; rfl, rfl, rfl⟩
theorem wrong_ (s : ByteArray) (hs : s.size ≤ 1000000) (H : Hp) : CallO Tryz.prog 24 [pv (.string s)] H [] fun e H' G' => e = .ret (pv (.int .i64 (wrongI s))) ∧ H.Le H' ∧ G' = [] := by
 have hsz := size_eq s
 refine CallO.of_body tab Tryz.func24 rfl (nt := Tryz.f24.ntmps) rfl (by kernel_rfl) ?_
 (conv => whnf)
 refine WS.loop (fun k F H2 G => ∃ i j : Nat, i ≤ s.size ∧ s.size < i + j ∧ wrongP ((tL s).length + 1) (tL s) = wrongP j ((tL s).drop i) ∧ k = s.size - i ∧ F = [(0, pv (.string s)), (2, pv (.int .i64 0)), (3, pv (.int .i64 i))] ∧ H.Le H2 ∧ G = []) (s.size + 1) ?_ ?_
 ·refine ⟨s.size, by omega, _, _, [], ⟨0, s.size + 1, by omega, by omega, by rw [hsz]; rfl, rfl, rfl, .refl _, rfl⟩, ?_⟩
  exact ⟨rfl, trivial, rfl, rfl, rfl, trivial⟩
 rintro k F H2 G hle ⟨i, j, hi, hj, hw, rfl, rfl, hle2, rfl⟩
 refine codeL.go tab ?_
 (conv => whnf)
 refine br.of (fun h1 => ?_) (fun h1 => ?_) <;> (conv => whnf)
 ·have h1 := of_decide_eq_true h1
  refine ⟨⟨_, Tryz.func53, rfl, by kernel_rfl⟩, CallS.use (character_ s i (by omega) hs H2) [] rfl rfl trivial ?_⟩
  rintro e H3 G' hle3 ⟨rfl, rfl, rfl⟩
  have hdl : ((tL s).drop i).length = s.size - i := by rw [List.length_drop, hsz]
  obtain ⟨c, l, hcl⟩ : ∃ c l, (tL s).drop i = c :: l := by
   cases hx : (tL s).drop i with
   | nil => rw [hx] at hdl; simp at hdl; omega
   | cons c l => exact ⟨c, l, rfl⟩
  obtain ⟨j, rfl⟩ : ∃ j', j = j' + 1 := ⟨j - 1, by omega⟩
  have hch : charP ((tL s).drop i) ≤ s.size - i := by
   rw [← hdl, hcl]
   unfold charP
   split
   ·omega
   ·split
    ·omega
    ·split <;> omega
  rw [hcl] at hw hch ⊢
  rw [wrongP] at hw
  (conv => whnf)
  refine br.of (fun h2 => ?_) (fun h2 => ?_) <;> (conv => whnf)
  ·simp only [beq_iff_eq] at h2
   rw [if_pos (by omega)] at hw
   refine ⟨?_, hle2, rfl⟩
   unfold wrongI
   rw [hw]
   show _ = SE.ret (pv (.int .i64 ((Js.pos s (c :: l) : Nat) : Int)))
   unfold Js.pos
   rw [← hcl, hdl, ← hsz, show s.size - (s.size - i) = i by omega]
   rfl
  ·simp only [beq_eq_false_iff_ne, ne_eq] at h2
   rw [if_neg (by omega), ← hcl, List.drop_drop] at hw
   rw [hcl] at hw
   generalize charP (c :: l) = q at *
   rw [wrap64 (x := (i : Int) + q) (by omega) (by omega)]
   refine ⟨s.size - (i + q), by omega, _, _, [], ⟨i + q, j, by omega, by omega, hw, rfl, rfl, hle2, rfl⟩, ?_⟩
   exact ⟨rfl, trivial, rfl, rfl, rfl, trivial⟩
 ·have h1 := of_decide_eq_false h1
  obtain rfl : i = s.size := by omega
  obtain ⟨j, rfl⟩ : ∃ j', j = j' + 1 := ⟨j - 1, by omega⟩
  rw [List.drop_of_length_le (by omega), wrongP] at hw
  refine ⟨?_, hle2, rfl⟩
  unfold wrongI
  rw [hw]
  rfl
end Go.Kx.Rf
namespace Go.Kx.L30
open Go.Proofs Go.Kx Go.RowKit Go.Kx.Js Go.Kx.Pr Go.Kx.Rt Go.Kx.Ob Go.Kx.Wo Go.Kx.Cl Go.Kx.Pa Go.Kx.Su Go.Kx.Se Go.Kx.Jw Go.Kx.L13 Go.Kx.Re
set_option maxRecDepth 20000
set_option linter.unusedSimpArgs false
namespace Nl
def T : Tab := [(9, { k := TK.string, agg := false, size := 1, bytes := 16, zero := [Z.s] }), (83, { k := TK.st [(0, 9, 1), (1, 9, 1), (2, 80, 1), (3, 36, 1), (4, 81, 1)], agg := true, size := 5, bytes := 72, zero := [Z.s, Z.s, Z.m, Z.sl, Z.m] }), (23, { k := TK.ptr 83, agg := false, size := 1, bytes := 8, zero := [Z.p] }), (44, { k := TK.st [(0, 9, 1), (1, 32, 1)], agg := true, size := 2, bytes := 40, zero := [Z.s, Z.sl] }), (39, { k := TK.slice 44, agg := false, size := 1, bytes := 24, zero := [Z.sl] }), (4, { k := TK.bool, agg := false, size := 1, bytes := 1, zero := [Z.b] }), (3, { k := TK.int IntKind.i64, agg := false, size := 1, bytes := 8, zero := [Z.i IntKind.i64] }), (32, { k := TK.slice 5, agg := false, size := 1, bytes := 24, zero := [Z.sl] }), (5, { k := TK.int IntKind.u8, agg := false, size := 1, bytes := 1, zero := [Z.i IntKind.u8] }), (40, { k := TK.int IntKind.i64, agg := false, size := 1, bytes := 8, zero := [Z.i IntKind.i64] }), (28, { k := TK.st [(0, 9, 1), (1, 9, 1), (2, 9, 1), (3, 3, 1), (4, 9, 1), (5, 26, 3), (8, 3, 1), (9, 9, 1)], agg := true, size := 10, bytes := 144, zero := [Z.s, Z.s, Z.s, Z.i IntKind.i64, Z.s, Z.s, Z.s, Z.s, Z.i IntKind.i64, Z.s] }), (34, { k := TK.st [(0, 3, 1), (1, 32, 1)], agg := true, size := 2, bytes := 32, zero := [Z.i IntKind.i64, Z.sl] }), (57, { k := TK.slice 60, agg := false, size := 1, bytes := 24, zero := [Z.sl] }), (60, { k := TK.st [(0, 9, 1), (1, 4, 1), (2, 3, 1), (3, 3, 1), (4, 3, 1)], agg := true, size := 5, bytes := 48, zero := [Z.s, Z.b, Z.i IntKind.i64, Z.i IntKind.i64, Z.i IntKind.i64] }), (36, { k := TK.slice 28, agg := false, size := 1, bytes := 24, zero := [Z.sl] }), (80, { k := TK.map 9 32, agg := false, size := 1, bytes := 8, zero := [Z.m] }), (81, { k := TK.map 9 4, agg := false, size := 1, bytes := 8, zero := [Z.m] }), (26, { k := TK.st [(0, 9, 1), (1, 9, 1), (2, 9, 1)], agg := true, size := 3, bytes := 48, zero := [Z.s, Z.s, Z.s] })]
set_option maxRecDepth 100000 in
theorem tab : TabOk Tryz.prog T := tabOk_mk (ts := [9, 83, 23, 44, 39, 4, 3, 32, 5, 40, 28, 34, 57, 60, 36, 80, 81, 26]) (by kernel_rfl)
end Nl
theorem word_eq (m : Nat) (s : ByteArray) : Wo.wordP m s = (decide (1 ≤ s.size) && (decide (s.size ≤ m) && decide (wrongI s < 0))) := by
 unfold Wo.wordP toldP
 congr 1
 cases h : strEq s ⟨#[]⟩
 ·have : s ≠ ⟨#[]⟩ := (strEq_false ..).1 h
  have : s.size ≠ 0 := fun h0 => this (by apply ByteArray.ext; exact Array.eq_empty_of_size_eq_zero h0)
  exact (decide_eq_true (by omega)).symm
 ·have := (strEq_iff ..).1 h
  subst this
  rfl
theorem word16_ (s : ByteArray) (hs : s.size ≤ 1000000) (H : Hp) : CallO Tryz.prog 15 [pv (.string s)] H [] fun e H' G' => e = .ret (pv (.bool (Wo.wordP 256 s))) ∧ H.Le H' ∧ G' = [] := by
 rw [word_eq]
 refine CallO.of_body Nl.tab Tryz.func15 rfl (nt := Tryz.f15.ntmps) rfl (by kernel_rfl) ?_
 (conv => whnf)
 refine br.of (fun h1 => ?_) (fun h1 => ?_) <;> (conv => whnf)
 ·have h1 : 1 ≤ s.size := by have := of_decide_eq_true h1; omega
  rw [decide_eq_true h1, Bool.true_and]
  refine br.of (fun h2 => ?_) (fun h2 => ?_) <;> (conv => whnf)
  ·have h2 : s.size ≤ 256 := by have := of_decide_eq_true h2; omega
   rw [decide_eq_true h2, Bool.true_and]
   refine ⟨⟨_, Tryz.func24, rfl, by kernel_rfl⟩, CallS.use (Rf.wrong_ s hs H) [] rfl rfl trivial ?_⟩
   rintro e H2 G' hle2 ⟨rfl, hle2', rfl⟩
   (conv => whnf)
   exact ⟨rfl, hle2, rfl⟩
  ·have h2 : ¬ s.size ≤ 256 := by have := of_decide_eq_false h2; omega
   rw [decide_eq_false h2, Bool.false_and]
   exact ⟨rfl, .refl _, rfl⟩
 ·have h1 : ¬ 1 ≤ s.size := by have := of_decide_eq_false h1; omega
  rw [decide_eq_false h1, Bool.false_and]
  exact ⟨rfl, .refl _, rfl⟩
def wG (base v : Int) (b : Bool) : Int := if base = 0 ∧ b = true then v else base
theorem wG_no {base v : Int} {b p : Bool} (h : wG base v b ≠ 0) : wG base v (b || p) = wG base v b := by
 unfold wG at h ⊢
 cases b <;> cases p <;> simp at h ⊢
 by_cases hb : base = 0 <;> simp_all
theorem wG_zero {base v : Int} {b p : Bool} (hv : v ≠ 0) (h : wG base v b = 0) : wG base v (b || p) = if p = true then v else 0 := by
 unfold wG at h ⊢
 cases b <;> cases p <;> simp at h ⊢ <;> by_cases hb : base = 0 <;> simp_all
theorem wG_f {base v : Int} : wG base v false = base := by unfold wG; simp
def newW (iss aud : ByteArray) : Int := if (Wo.wordP 256 iss && Wo.wordP 256 aud) = true then 0 else 10
theorem newP_eq (iss aud : ByteArray) (ks : List KS) : newP iss aud ks = wG (wG (wG (newW iss aud) 10 (ks.any badK)) 15 (decide (¬ (kidsOf ks).Nodup))) 41 (ks.any shortK) := by
 unfold newP newW wG
 cases h1 : Wo.wordP 256 iss <;> cases h2 : Wo.wordP 256 aud <;> cases h3 : ks.any badK <;> cases h4 : ks.any shortK <;> by_cases h5 : (kidsOf ks).Nodup <;> simp [h5]
theorem any_next {ks : List KS} {p : KS → Bool} {i : Nat} {x : KS} (hi : ks[i]? = some x) : (ks.take (i + 1)).any p = ((ks.take i).any p || p x) := by
 rw [List.take_add_one, hi, List.any_append]
 simp
theorem bad_eq (x : KS) : badK x = (decide ((x.kid.size : Int) < 1) || decide ((x.kid.size : Int) > 40)) := by
 unfold badK
 congr 1
 cases h : strEq x.kid ⟨#[]⟩
 ·have : x.kid ≠ ⟨#[]⟩ := (strEq_false ..).1 h
  have : x.kid.size ≠ 0 := fun h0 => this (by apply ByteArray.ext; exact Array.eq_empty_of_size_eq_zero h0)
  exact (decide_eq_false (by omega)).symm
 ·have := (strEq_iff ..).1 h
  rw [this]
  rfl
theorem dup_next {ks : List KS} {i : Nat} {x : KS} (hi : ks[i]? = some x) : decide (¬ (kidsOf (ks.take (i + 1))).Nodup) = (decide (¬ (kidsOf (ks.take i)).Nodup) || (ks.take i).any fun y => strEq y.kid x.kid) := by
 rw [kids_take hi]
 have h : (kidsOf (ks.take i) ++ [x.kid]).Nodup ↔ (kidsOf (ks.take i)).Nodup ∧ ¬ ((ks.take i).any fun y => strEq y.kid x.kid) = true := by
  rw [List.nodup_append]
  constructor
  ·rintro ⟨h1, _, h2⟩
   refine ⟨h1, fun h3 => ?_⟩
   obtain ⟨y, hy, hk⟩ := List.any_eq_true.1 h3
   exact h2 y.kid (List.mem_map.2 ⟨y, hy, rfl⟩) x.kid (by simp) (strEq_iff.1 hk)
  ·rintro ⟨h1, h2⟩
   refine ⟨h1, by simp, fun a ha b hb => ?_⟩
   simp at hb
   subst hb
   obtain ⟨y, hy, rfl⟩ := List.mem_map.1 ha
   exact fun e => h2 (List.any_eq_true.2 ⟨y, hy, strEq_iff.2 e⟩)
 by_cases h1 : (kidsOf (ks.take i)).Nodup
 ·cases h2 : (ks.take i).any fun y => strEq y.kid x.kid
  ·have : (kidsOf (ks.take i) ++ [x.kid]).Nodup := h.2 ⟨h1, by rw [h2]; decide⟩
   simp [this, h1]
  ·have : ¬ (kidsOf (ks.take i) ++ [x.kid]).Nodup := fun hh => (h.1 hh).2 h2
   simp [this]
 ·have : ¬ (kidsOf (ks.take i) ++ [x.kid]).Nodup := fun hh => h1 (h.1 hh).1
  simp [this, h1]
def Sv (iss aud : ByteArray) (ks : List KS) (sv : SC) (c : Bool) (G : List SB) : Prop :=
 (sv = .ptr 2 0 ∧ c = true ∧ ∃ f, G = [.map .string ks.length f, .map .string 0 zMap, nB iss aud]) ∨ (sv = .val (.pointer none) ∧ c = false ∧ G = [])
def stN (iss aud : ByteArray) (ks : List KS) (A : Option Addr) (n cap : Nat) (Z w : Int) (H2 : Hp) (F : Fr) (H' : Hp) (G : List SB) : Prop :=
 ∃ sv c, Sv iss aud ks sv c G ∧ c = decide (Z = 0) ∧ F = [(2, pv (.slice A n cap)), (7, .si (.ce sv)), (8, pv (.int .i64 Z)), (9, pv (.int .i64 w))] ∧ H2.Le H'
def lpN (A : Option Addr) (n cap : Nat) (Z : Int) (sv : SC) (G0 : List SB) (H0 : Hp) (a b c : Nat) (v : Nat → Int) (k : Nat) (F : Fr) (H : Hp) (G : List SB) : Prop :=
 ∃ (i : Nat) (w : Int), w = v i ∧ i ≤ n ∧ k = n - i ∧ F = [(2, pv (.slice A n cap)), (7, .si (.ce sv)), (8, pv (.int .i64 Z)), (9, pv (.int .i64 w)), (a, pv (.slice A n cap)), (b, pv (.int .i64 n)), (c, pv (.int .i64 i))] ∧ H = H0 ∧ G = G0
def lpI (A : Option Addr) (n cap : Nat) (Z : Int) (sv : SC) (G0 : List SB) (x : KS) (bx : Nat) (H0 : Hp) (i : Nat) (v : Nat → Int) (k : Nat) (F : Fr) (H : Hp) (G : List SB) : Prop :=
 ∃ (j : Nat) (w : Int), w = v j ∧ j ≤ i ∧ k = i - j ∧ F = [(2, pv (.slice A n cap)), (7, .si (.ce sv)), (8, pv (.int .i64 Z)), (9, pv (.int .i64 w)), (13, .si (.ce (.ptr bx 0))), (69, pv (.slice A n cap)), (70, pv (.int .i64 n)), (71, pv (.int .i64 i)), (78, pv (.slice A i cap)), (79, pv (.int .i64 i)), (80, pv (.int .i64 j))] ∧ H = H0 ∧ G = G0 ++ [.box 44 [.val (.string x.kid), .val (.slice x.A x.n x.c)]]
def stM (iss aud : ByteArray) (ks : List KS) (Z w : Int) (H2 : Hp) (F : Fr) (H' : Hp) (G : List SB) : Prop :=
 ∃ sv c, Sv iss aud ks sv c G ∧ c = decide (Z = 0) ∧ F = [(7, .si (.ce sv)), (8, pv (.int .i64 Z)), (9, pv (.int .i64 w))] ∧ H2.Le H'
def lpM (A : Option Addr) (n cap : Nat) (Z : Int) (sv : SC) (G0 : List SB) (H0 : Hp) (a b c : Nat) (v : Nat → Int) (k : Nat) (F : Fr) (H : Hp) (G : List SB) : Prop :=
 ∃ (i : Nat) (w : Int), w = v i ∧ i ≤ n ∧ k = n - i ∧ F = [(7, .si (.ce sv)), (8, pv (.int .i64 Z)), (9, pv (.int .i64 w)), (a, pv (.slice A n cap)), (b, pv (.int .i64 n)), (c, pv (.int .i64 i))] ∧ H = H0 ∧ G = G0
abbrev w0 (iss aud : ByteArray) : Int := newW iss aud
abbrev w1 (iss aud : ByteArray) (ks : List KS) : Int := wG (w0 iss aud) 10 (ks.any badK)
abbrev w2 (iss aud : ByteArray) (ks : List KS) : Int := wG (w1 iss aud ks) 15 (decide (¬ (kidsOf ks).Nodup))
abbrev w3 (iss aud : ByteArray) (ks : List KS) : Int := wG (w2 iss aud ks) 41 (ks.any shortK)
theorem news_ (iss aud : ByteArray) (ks : List KS) (A : Option Addr) (n cap : Nat) (hcap : n ≤ cap) (hbig : ∀ x ∈ ks, x.n ≤ 140737488355328) (H : Hp) (hE : ErrH H) (hA : KsAt H A n ks) (hks : ∀ x ∈ ks, BytesZ H x.A x.n x.bs) : CallO Tryz.prog 4 [pv (.string iss), pv (.string aud), pv (.slice A n cap)] H [] fun e _ _ => e = .ret (pv (.bool true)) := by
 have hnk : n = ks.length := hA.1
 refine CallO.of_bodyW Nl.tab Tryz.func4 rfl (nt := Tryz.f4.ntmps) rfl (by kernel_rfl) ?_
 refine (codeL.cutTo Nl.tab 6 (fun F H' G => n ≤ 10 ∧ stN iss aud ks A n cap (newP iss aud ks) (w0 iss aud) H F H' G) ?_ ?_).to
 ·(conv => whnf)
  refine ⟨⟨_, Tryz.func8, rfl, by kernel_rfl⟩, CallS.use (anchor_ H hE) [] rfl rfl trivial ?_⟩
  rintro e H2 G' hle2 ⟨rfl, _, rfl⟩
  (conv => whnf)
  refine br.of (fun h1 => ?_) (fun h1 => ?_) <;> (conv => whnf)
  ·rfl
  have h1 := of_decide_eq_false h1
  refine br.of (fun h2 => ?_) (fun h2 => ?_) <;> (conv => whnf)
  ·rfl
  have h2 := of_decide_eq_false h2
  refine br.of (fun h3 => ?_) (fun h3 => ?_) <;> (conv => whnf)
  ·rfl
  have h3 := of_decide_eq_false h3
  have hA2 := hA.mono hle2
  have hko : KsOk H2 ks := fun x hx => ⟨(hks x hx).mono hle2, hbig x hx⟩
  refine ⟨⟨_, Tryz.func14, rfl, by kernel_rfl⟩, CallS.use (new_ iss aud ks A n cap (by omega) H2 hA2 hko) [] rfl rfl trivial ?_⟩
  rintro e H3 G' hle3 ⟨⟨hr1, hr2⟩, hle3'⟩
  have key : ∃ (sv : SC) (c : Bool), Sv iss aud ks sv c G' ∧ c = decide (newP iss aud ks = 0) ∧ e = .ret (.tu [.ce sv, .ce (.val (.int .i64 (newP iss aud ks)))]) := by
   by_cases hz : newP iss aud ks = 0
   ·obtain ⟨rfl, f, _, rfl⟩ := hr2 hz
    exact ⟨.ptr 2 0, true, .inl ⟨rfl, rfl, f, rfl⟩, (decide_eq_true hz).symm, by rw [hz]⟩
   ·obtain ⟨rfl, rfl⟩ := hr1 hz
    exact ⟨_, false, .inr ⟨rfl, rfl, rfl⟩, (decide_eq_false hz).symm, rfl⟩
  obtain ⟨sv, c, hsv, hc, rfl⟩ := key
  generalize newP iss aud ks = Z at hc ⊢
  unfold w0 newW
  rcases hsv with ⟨rfl, rfl, f, rfl⟩ | ⟨rfl, rfl, rfl⟩
  ·(conv => whnf)
   refine ⟨⟨_, Tryz.func15, rfl, by kernel_rfl⟩, CallS.use (word16_ iss (by omega) H3) [] rfl rfl trivial ?_⟩
   rintro e H4 G' hle4 ⟨rfl, hle4', rfl⟩
   cases hw : Wo.wordP 256 iss
   ·(conv => whnf)
    exact ⟨_, _, [0, 1, 2], ⟨by omega, _, _, .inl ⟨rfl, rfl, f, rfl⟩, hc, rfl, (hle2.trans hle3).trans hle4⟩, rfl, ⟨rfl, rfl, rfl, trivial⟩, rfl, rfl, rfl, rfl, trivial⟩
   (conv => whnf)
   refine ⟨⟨_, Tryz.func15, rfl, by kernel_rfl⟩, CallS.use (word16_ aud (by omega) H4) [] rfl rfl trivial ?_⟩
   rintro e H5 G' hle5 ⟨rfl, hle5', rfl⟩
   cases hw2 : Wo.wordP 256 aud
   all_goals
    (conv => whnf)
    exact ⟨_, _, [0, 1, 2], ⟨by omega, _, _, .inl ⟨rfl, rfl, f, rfl⟩, hc, rfl, ((hle2.trans hle3).trans hle4).trans hle5⟩, rfl, ⟨rfl, rfl, rfl, trivial⟩, rfl, rfl, rfl, rfl, trivial⟩
  ·(conv => whnf)
   refine ⟨⟨_, Tryz.func15, rfl, by kernel_rfl⟩, CallS.use (word16_ iss (by omega) H3) [] rfl rfl trivial ?_⟩
   rintro e H4 G' hle4 ⟨rfl, hle4', rfl⟩
   cases hw : Wo.wordP 256 iss
   ·(conv => whnf)
    exact ⟨_, _, [], ⟨by omega, _, _, .inr ⟨rfl, rfl, rfl⟩, hc, rfl, (hle2.trans hle3).trans hle4⟩, rfl, trivial, rfl, rfl, rfl, rfl, trivial⟩
   (conv => whnf)
   refine ⟨⟨_, Tryz.func15, rfl, by kernel_rfl⟩, CallS.use (word16_ aud (by omega) H4) [] rfl rfl trivial ?_⟩
   rintro e H5 G' hle5 ⟨rfl, hle5', rfl⟩
   cases hw2 : Wo.wordP 256 aud
   all_goals
    (conv => whnf)
    exact ⟨_, _, [], ⟨by omega, _, _, .inr ⟨rfl, rfl, rfl⟩, hc, rfl, ((hle2.trans hle3).trans hle4).trans hle5⟩, rfl, trivial, rfl, rfl, rfl, rfl, trivial⟩
 rintro F H2 G hle2 ⟨hn10, hst⟩
 have hA2 := hA.mono hle2
 obtain ⟨Z, hZ⟩ : ∃ Z, newP iss aud ks = Z := ⟨_, rfl⟩
 have hnp := newP_eq iss aud ks
 rw [hZ] at hst hnp
 refine codeL.cutTo Nl.tab 1 (stN iss aud ks A n cap Z (w1 iss aud ks) H) ?_ ?_
 ·obtain ⟨sv, c, hsv, hc, rfl, hle⟩ := hst
  rcases hsv with ⟨rfl, rfl, f, rfl⟩ | ⟨rfl, rfl, rfl⟩
  all_goals
   (conv => whnf)
   first
    | refine WS.loop (lpN A n cap Z (.ptr 2 0) [.map .string ks.length f, .map .string 0 zMap, nB iss aud] H2 48 49 50 (fun i => wG (w0 iss aud) 10 ((ks.take i).any badK))) (n + 1) ?_ ?_
    | refine WS.loop (lpN A n cap Z (.val (.pointer none)) [] H2 48 49 50 (fun i => wG (w0 iss aud) 10 ((ks.take i).any badK))) (n + 1) ?_ ?_
   ·first
     | (refine ⟨n, by omega, _, _, [0, 1, 2], ⟨0, _, (wG_f (v := 10)).symm, by omega, rfl, rfl, rfl, rfl⟩, ?_⟩; exact ⟨rfl, ⟨rfl, rfl, rfl, trivial⟩, rfl, rfl, rfl, rfl, rfl, rfl, rfl, trivial⟩)
     | (refine ⟨n, by omega, _, _, [], ⟨0, _, (wG_f (v := 10)).symm, by omega, rfl, rfl, rfl, rfl⟩, ?_⟩; exact ⟨rfl, trivial, rfl, rfl, rfl, rfl, rfl, rfl, rfl, trivial⟩)
   rintro k' F H4 G hle4 ⟨i, w, hw, hi, rfl, rfl, rfl, rfl⟩
   dsimp only at hw
   refine codeL.go Nl.tab ?_
   (conv => whnf)
   refine br.of (fun h1 => ?_) (fun h1 => ?_) <;> (conv => whnf)
   ·have h1 := of_decide_eq_true h1
    refine ⟨⟨by omega, by omega⟩, ?_⟩
    (conv => whnf)
    have hil : i < ks.length := by omega
    have hget : ks[i]? = some ks[i] := List.getElem?_eq_getElem hil
    generalize ks[i] = x at hget
    refine ⟨hA2.addr (by omega), ?_⟩
    (conv => whnf)
    refine ⟨kCs x, rfl, hA2.rd hget (by show (i : Int).toNat * 2 = _; omega), ?_⟩
    (conv => whnf)
    have hnx := any_next (p := badK) hget
    have hbx := bad_eq x
    refine br.of (fun h2 => ?_) (fun h2 => ?_) <;> (conv => whnf)
    ·have h2 : w = 0 := by simpa using h2
     refine br.of (fun h3 => ?_) (fun h3 => ?_) <;> (conv => whnf)
     ·have hn : (10 : Int) = wG (w0 iss aud) 10 ((ks.take (i + 1)).any badK) := by
       rw [hnx, wG_zero (by decide) (hw.symm.trans h2), hbx, h3, Bool.true_or, if_pos rfl]
      rw [wrap64 (x := (i : Int) + 1) (by omega) (by omega)]
      first
       | (refine ⟨n - (i + 1), by omega, _, _, [0, 1, 2], ⟨i + 1, _, hn, by omega, rfl, rfl, rfl, rfl⟩, ?_⟩; exact ⟨rfl, ⟨rfl, rfl, rfl, trivial⟩, rfl, rfl, rfl, rfl, rfl, rfl, rfl, trivial⟩)
       | (refine ⟨n - (i + 1), by omega, _, _, [], ⟨i + 1, _, hn, by omega, rfl, rfl, rfl, rfl⟩, ?_⟩; exact ⟨rfl, trivial, rfl, rfl, rfl, rfl, rfl, rfl, rfl, trivial⟩)
     refine br.of (fun h4 => ?_) (fun h4 => ?_) <;> (conv => whnf)
     ·have hn : (10 : Int) = wG (w0 iss aud) 10 ((ks.take (i + 1)).any badK) := by
       rw [hnx, wG_zero (by decide) (hw.symm.trans h2), hbx, h4, Bool.or_true, if_pos rfl]
      rw [wrap64 (x := (i : Int) + 1) (by omega) (by omega)]
      first
       | (refine ⟨n - (i + 1), by omega, _, _, [0, 1, 2], ⟨i + 1, _, hn, by omega, rfl, rfl, rfl, rfl⟩, ?_⟩; exact ⟨rfl, ⟨rfl, rfl, rfl, trivial⟩, rfl, rfl, rfl, rfl, rfl, rfl, rfl, trivial⟩)
       | (refine ⟨n - (i + 1), by omega, _, _, [], ⟨i + 1, _, hn, by omega, rfl, rfl, rfl, rfl⟩, ?_⟩; exact ⟨rfl, trivial, rfl, rfl, rfl, rfl, rfl, rfl, rfl, trivial⟩)
     ·have hn : w = wG (w0 iss aud) 10 ((ks.take (i + 1)).any badK) := by
       rw [hnx, wG_zero (by decide) (hw.symm.trans h2), hbx, h3, h4, Bool.or_false, if_neg (by decide), h2]
      rw [wrap64 (x := (i : Int) + 1) (by omega) (by omega)]
      first
       | (refine ⟨n - (i + 1), by omega, _, _, [0, 1, 2], ⟨i + 1, _, hn, by omega, rfl, rfl, rfl, rfl⟩, ?_⟩; exact ⟨rfl, ⟨rfl, rfl, rfl, trivial⟩, rfl, rfl, rfl, rfl, rfl, rfl, rfl, trivial⟩)
       | (refine ⟨n - (i + 1), by omega, _, _, [], ⟨i + 1, _, hn, by omega, rfl, rfl, rfl, rfl⟩, ?_⟩; exact ⟨rfl, trivial, rfl, rfl, rfl, rfl, rfl, rfl, rfl, trivial⟩)
    ·have h2 : w ≠ 0 := by simpa using h2
     have hn : w = wG (w0 iss aud) 10 ((ks.take (i + 1)).any badK) := by
      rw [hnx, wG_no (fun h => h2 (hw.trans h))]
      exact hw
     rw [wrap64 (x := (i : Int) + 1) (by omega) (by omega)]
     first
      | (refine ⟨n - (i + 1), by omega, _, _, [0, 1, 2], ⟨i + 1, _, hn, by omega, rfl, rfl, rfl, rfl⟩, ?_⟩; exact ⟨rfl, ⟨rfl, rfl, rfl, trivial⟩, rfl, rfl, rfl, rfl, rfl, rfl, rfl, trivial⟩)
      | (refine ⟨n - (i + 1), by omega, _, _, [], ⟨i + 1, _, hn, by omega, rfl, rfl, rfl, rfl⟩, ?_⟩; exact ⟨rfl, trivial, rfl, rfl, rfl, rfl, rfl, rfl, rfl, trivial⟩)
   ·have h1 := of_decide_eq_false h1
    obtain rfl : i = n := by omega
    obtain rfl : w = w1 iss aud ks := by rw [hw, hnk, List.take_length]
    first
     | exact ⟨_, _, [0, 1, 2], ⟨_, _, .inl ⟨rfl, rfl, _, rfl⟩, hc, rfl, hle⟩, rfl, ⟨rfl, rfl, rfl, trivial⟩, rfl, rfl, rfl, rfl, trivial⟩
     | exact ⟨_, _, [], ⟨_, _, .inr ⟨rfl, rfl, rfl⟩, hc, rfl, hle⟩, rfl, trivial, rfl, rfl, rfl, rfl, trivial⟩
 rintro F H3 G hle3 hst
 refine codeL.cutTo Nl.tab 1 (stN iss aud ks A n cap Z (w2 iss aud ks) H) ?_ ?_
 ·obtain ⟨sv, c, hsv, hc, rfl, hle⟩ := hst
  have hA2 := hA.mono hle
  rcases hsv with ⟨rfl, rfl, f, rfl⟩ | ⟨rfl, rfl, rfl⟩
  all_goals
   (conv => whnf)
   first
    | refine WS.loop (lpN A n cap Z (.ptr 2 0) [.map .string ks.length f, .map .string 0 zMap, nB iss aud] H3 69 70 71 (fun i => wG (w1 iss aud ks) 15 (decide (¬ (kidsOf (ks.take i)).Nodup)))) (n + 1) ?_ ?_
    | refine WS.loop (lpN A n cap Z (.val (.pointer none)) [] H3 69 70 71 (fun i => wG (w1 iss aud ks) 15 (decide (¬ (kidsOf (ks.take i)).Nodup)))) (n + 1) ?_ ?_
   ·have hnd0 : (w1 iss aud ks) = wG (w1 iss aud ks) 15 (decide (¬ (kidsOf (ks.take 0)).Nodup)) := (wG_f (v := 15)).symm
    first
     | (refine ⟨n, by omega, _, _, [0, 1, 2], ⟨0, _, hnd0, by omega, rfl, rfl, rfl, rfl⟩, ?_⟩; exact ⟨rfl, ⟨rfl, rfl, rfl, trivial⟩, rfl, rfl, rfl, rfl, rfl, rfl, rfl, trivial⟩)
     | (refine ⟨n, by omega, _, _, [], ⟨0, _, hnd0, by omega, rfl, rfl, rfl, rfl⟩, ?_⟩; exact ⟨rfl, trivial, rfl, rfl, rfl, rfl, rfl, rfl, rfl, trivial⟩)
   rintro k' F H4 G hle4 ⟨i, w, hw, hi, rfl, rfl, rfl, rfl⟩
   dsimp only at hw
   refine codeL.go Nl.tab ?_
   (conv => whnf)
   refine br.of (fun h1 => ?_) (fun h1 => ?_) <;> (conv => whnf)
   ·have h1 := of_decide_eq_true h1
    refine ⟨⟨by omega, by omega⟩, ?_⟩
    (conv => whnf)
    have hil : i < ks.length := by omega
    have hget : ks[i]? = some ks[i] := List.getElem?_eq_getElem hil
    generalize ks[i] = x at hget
    refine ⟨hA2.addr (by omega), ?_⟩
    (conv => whnf)
    refine ⟨kCs x, rfl, hA2.rd hget (by show (i : Int).toNat * 2 = _; omega), ?_⟩
    (conv => whnf)
    have hnx := dup_next hget
    refine ⟨⟨by decide, by omega, by omega⟩, ?_⟩
    (conv => whnf)
    obtain ⟨b0, o0, hA0⟩ := hA2.addr (by omega)
    have hs1 : ∀ sz, subA A cap (Int.toNat 0) sz = A := fun sz => by
     rw [hA0]
     unfold subA
     split
     ·rfl
     ·simp [Addr.add]
    rw [show (i : Int).toNat - Int.toNat 0 = i by omega, hs1, show cap - Int.toNat 0 = cap by omega]
    first
     | refine WS.loop (lpI A n cap Z (.ptr 2 0) [.map .string ks.length f, .map .string 0 zMap, nB iss aud] x 3 H4 i (fun j => wG (w1 iss aud ks) 15 (decide (¬ (kidsOf (ks.take i)).Nodup) || (ks.take j).any fun y => strEq y.kid x.kid))) (i + 1) ?_ ?_
     | refine WS.loop (lpI A n cap Z (.val (.pointer none)) [] x 0 H4 i (fun j => wG (w1 iss aud ks) 15 (decide (¬ (kidsOf (ks.take i)).Nodup) || (ks.take j).any fun y => strEq y.kid x.kid))) (i + 1) ?_ ?_
    ·have h00 : w = wG (w1 iss aud ks) 15 (decide (¬ (kidsOf (ks.take i)).Nodup) || (ks.take 0).any fun y => strEq y.kid x.kid) := by
      rw [hw, List.take_zero, List.any_nil, Bool.or_false]
     first
      | (refine ⟨i, by omega, _, _, [0, 1, 2, 3], ⟨0, _, h00, by omega, rfl, rfl, rfl, rfl⟩, ?_⟩; exact ⟨rfl, ⟨rfl, rfl, rfl, rfl, trivial⟩, rfl, rfl, rfl, rfl, rfl, rfl, rfl, rfl, rfl, rfl, rfl, trivial⟩)
      | (refine ⟨i, by omega, _, _, [0], ⟨0, _, h00, by omega, rfl, rfl, rfl, rfl⟩, ?_⟩; exact ⟨rfl, ⟨rfl, trivial⟩, rfl, rfl, rfl, rfl, rfl, rfl, rfl, rfl, rfl, rfl, rfl, trivial⟩)
    rintro k'' F H5 G hle5 ⟨j, u, hu, hj, rfl, rfl, rfl, rfl⟩
    dsimp only at hu
    refine codeL.go Nl.tab ?_
    (conv => whnf)
    refine br.of (fun h2 => ?_) (fun h2 => ?_) <;> (conv => whnf)
    ·have h2 := of_decide_eq_true h2
     refine ⟨⟨by omega, by omega⟩, ?_⟩
     (conv => whnf)
     have hjl : j < ks.length := by omega
     have hgj : ks[j]? = some ks[j] := List.getElem?_eq_getElem hjl
     generalize ks[j] = y at hgj
     refine ⟨hA2.addr (by omega), ?_⟩
     (conv => whnf)
     refine ⟨kCs y, rfl, hA2.rd hgj (by show (j : Int).toNat * 2 = _; omega), ?_⟩
     (conv => whnf)
     have hny := any_next (p := fun y => strEq y.kid x.kid) hgj
     refine br.of (fun h3 => ?_) (fun h3 => ?_) <;> (conv => whnf)
     ·have h3 : u = 0 := by simpa using h3
      refine br.of (fun h4 => ?_) (fun h4 => ?_) <;> (conv => whnf)
      ·have hn : (15 : Int) = wG (w1 iss aud ks) 15 (decide (¬ (kidsOf (ks.take i)).Nodup) || (ks.take (j + 1)).any fun y => strEq y.kid x.kid) := by
        rw [hny, ← Bool.or_assoc, wG_zero (by decide) (hu.symm.trans h3), if_pos h4]
       rw [wrap64 (x := (j : Int) + 1) (by omega) (by omega)]
       first
        | (refine ⟨i - (j + 1), by omega, _, _, [0, 1, 2, 3], ⟨j + 1, _, hn, by omega, rfl, rfl, rfl, rfl⟩, ?_⟩; exact ⟨rfl, ⟨rfl, rfl, rfl, rfl, trivial⟩, rfl, rfl, rfl, rfl, rfl, rfl, rfl, rfl, rfl, rfl, rfl, trivial⟩)
        | (refine ⟨i - (j + 1), by omega, _, _, [0], ⟨j + 1, _, hn, by omega, rfl, rfl, rfl, rfl⟩, ?_⟩; exact ⟨rfl, ⟨rfl, trivial⟩, rfl, rfl, rfl, rfl, rfl, rfl, rfl, rfl, rfl, rfl, rfl, trivial⟩)
      ·have hn : u = wG (w1 iss aud ks) 15 (decide (¬ (kidsOf (ks.take i)).Nodup) || (ks.take (j + 1)).any fun y => strEq y.kid x.kid) := by
        rw [hny, ← Bool.or_assoc, wG_zero (by decide) (hu.symm.trans h3), if_neg (by rw [h4]; decide), h3]
       rw [wrap64 (x := (j : Int) + 1) (by omega) (by omega)]
       first
        | (refine ⟨i - (j + 1), by omega, _, _, [0, 1, 2, 3], ⟨j + 1, _, hn, by omega, rfl, rfl, rfl, rfl⟩, ?_⟩; exact ⟨rfl, ⟨rfl, rfl, rfl, rfl, trivial⟩, rfl, rfl, rfl, rfl, rfl, rfl, rfl, rfl, rfl, rfl, rfl, trivial⟩)
        | (refine ⟨i - (j + 1), by omega, _, _, [0], ⟨j + 1, _, hn, by omega, rfl, rfl, rfl, rfl⟩, ?_⟩; exact ⟨rfl, ⟨rfl, trivial⟩, rfl, rfl, rfl, rfl, rfl, rfl, rfl, rfl, rfl, rfl, rfl, trivial⟩)
     ·have h3 : u ≠ 0 := by simpa using h3
      have hn : u = wG (w1 iss aud ks) 15 (decide (¬ (kidsOf (ks.take i)).Nodup) || (ks.take (j + 1)).any fun y => strEq y.kid x.kid) := by
       rw [hny, ← Bool.or_assoc, wG_no (fun h => h3 (hu.trans h))]
       exact hu
      rw [wrap64 (x := (j : Int) + 1) (by omega) (by omega)]
      first
       | (refine ⟨i - (j + 1), by omega, _, _, [0, 1, 2, 3], ⟨j + 1, _, hn, by omega, rfl, rfl, rfl, rfl⟩, ?_⟩; exact ⟨rfl, ⟨rfl, rfl, rfl, rfl, trivial⟩, rfl, rfl, rfl, rfl, rfl, rfl, rfl, rfl, rfl, rfl, rfl, trivial⟩)
       | (refine ⟨i - (j + 1), by omega, _, _, [0], ⟨j + 1, _, hn, by omega, rfl, rfl, rfl, rfl⟩, ?_⟩; exact ⟨rfl, ⟨rfl, trivial⟩, rfl, rfl, rfl, rfl, rfl, rfl, rfl, rfl, rfl, rfl, rfl, trivial⟩)
    ·have h2 := of_decide_eq_false h2
     obtain rfl : j = i := by omega
     have hn : u = wG (w1 iss aud ks) 15 (decide (¬ (kidsOf (ks.take (j + 1))).Nodup)) := by rw [hnx]; exact hu
     rw [wrap64 (x := (j : Int) + 1) (by omega) (by omega)]
     first
      | (refine ⟨n - (j + 1), by omega, _, _, [0, 1, 2], ⟨j + 1, _, hn, by omega, rfl, rfl, rfl, rfl⟩, ?_⟩; exact ⟨rfl, ⟨rfl, rfl, rfl, trivial⟩, rfl, rfl, rfl, rfl, rfl, rfl, rfl, trivial⟩)
      | (refine ⟨n - (j + 1), by omega, _, _, [], ⟨j + 1, _, hn, by omega, rfl, rfl, rfl, rfl⟩, ?_⟩; exact ⟨rfl, trivial, rfl, rfl, rfl, rfl, rfl, rfl, rfl, trivial⟩)
   ·have h1 := of_decide_eq_false h1
    obtain rfl : i = n := by omega
    obtain rfl : w = w2 iss aud ks := by rw [hw, hnk, List.take_length]
    first
     | exact ⟨_, _, [0, 1, 2], ⟨_, _, .inl ⟨rfl, rfl, _, rfl⟩, hc, rfl, hle⟩, rfl, ⟨rfl, rfl, rfl, trivial⟩, rfl, rfl, rfl, rfl, trivial⟩
     | exact ⟨_, _, [], ⟨_, _, .inr ⟨rfl, rfl, rfl⟩, hc, rfl, hle⟩, rfl, trivial, rfl, rfl, rfl, rfl, trivial⟩
 rintro F H5 G hle5 hst
 refine codeL.cutTo Nl.tab 1 (stM iss aud ks Z (w3 iss aud ks) H) ?_ ?_
 ·obtain ⟨sv, c, hsv, hc, rfl, hle⟩ := hst
  have hA2 := hA.mono hle
  rcases hsv with ⟨rfl, rfl, f, rfl⟩ | ⟨rfl, rfl, rfl⟩
  all_goals
   (conv => whnf)
   first
    | refine WS.loop (lpM A n cap Z (.ptr 2 0) [.map .string ks.length f, .map .string 0 zMap, nB iss aud] H5 95 96 97 (fun i => wG (w2 iss aud ks) 41 ((ks.take i).any shortK))) (n + 1) ?_ ?_
    | refine WS.loop (lpM A n cap Z (.val (.pointer none)) [] H5 95 96 97 (fun i => wG (w2 iss aud ks) 41 ((ks.take i).any shortK))) (n + 1) ?_ ?_
   ·first
     | (refine ⟨n, by omega, _, _, [0, 1, 2], ⟨0, _, (wG_f (v := 41)).symm, by omega, rfl, rfl, rfl, rfl⟩, ?_⟩; exact ⟨rfl, ⟨rfl, rfl, rfl, trivial⟩, rfl, rfl, rfl, rfl, rfl, rfl, trivial⟩)
     | (refine ⟨n, by omega, _, _, [], ⟨0, _, (wG_f (v := 41)).symm, by omega, rfl, rfl, rfl, rfl⟩, ?_⟩; exact ⟨rfl, trivial, rfl, rfl, rfl, rfl, rfl, rfl, trivial⟩)
   rintro k' F H4 G hle4 ⟨i, w, hw, hi, rfl, rfl, rfl, rfl⟩
   dsimp only at hw
   refine codeL.go Nl.tab ?_
   (conv => whnf)
   refine br.of (fun h1 => ?_) (fun h1 => ?_) <;> (conv => whnf)
   ·have h1 := of_decide_eq_true h1
    refine ⟨⟨by omega, by omega⟩, ?_⟩
    (conv => whnf)
    have hil : i < ks.length := by omega
    have hget : ks[i]? = some ks[i] := List.getElem?_eq_getElem hil
    generalize ks[i] = x at hget
    refine ⟨hA2.addr (by omega), ?_⟩
    (conv => whnf)
    refine ⟨kCs x, rfl, hA2.rd hget (by show (i : Int).toNat * 2 = _; omega), ?_⟩
    (conv => whnf)
    have hnx := any_next (p := shortK) hget
    refine br.of (fun h2 => ?_) (fun h2 => ?_) <;> (conv => whnf)
    ·have h2 : w = 0 := by simpa using h2
     refine br.of (fun h3 => ?_) (fun h3 => ?_) <;> (conv => whnf)
     ·have hn : (41 : Int) = wG (w2 iss aud ks) 41 ((ks.take (i + 1)).any shortK) := by
       rw [hnx, wG_zero (by decide) (hw.symm.trans h2), if_pos (show shortK x = true from h3)]
      rw [wrap64 (x := (i : Int) + 1) (by omega) (by omega)]
      first
       | (refine ⟨n - (i + 1), by omega, _, _, [0, 1, 2], ⟨i + 1, _, hn, by omega, rfl, rfl, rfl, rfl⟩, ?_⟩; exact ⟨rfl, ⟨rfl, rfl, rfl, trivial⟩, rfl, rfl, rfl, rfl, rfl, rfl, trivial⟩)
       | (refine ⟨n - (i + 1), by omega, _, _, [], ⟨i + 1, _, hn, by omega, rfl, rfl, rfl, rfl⟩, ?_⟩; exact ⟨rfl, trivial, rfl, rfl, rfl, rfl, rfl, rfl, trivial⟩)
     ·have hn : w = wG (w2 iss aud ks) 41 ((ks.take (i + 1)).any shortK) := by
       rw [hnx, wG_zero (by decide) (hw.symm.trans h2), if_neg (fun h => by rw [show shortK x = false from h3] at h; cases h), h2]
      rw [wrap64 (x := (i : Int) + 1) (by omega) (by omega)]
      first
       | (refine ⟨n - (i + 1), by omega, _, _, [0, 1, 2], ⟨i + 1, _, hn, by omega, rfl, rfl, rfl, rfl⟩, ?_⟩; exact ⟨rfl, ⟨rfl, rfl, rfl, trivial⟩, rfl, rfl, rfl, rfl, rfl, rfl, trivial⟩)
       | (refine ⟨n - (i + 1), by omega, _, _, [], ⟨i + 1, _, hn, by omega, rfl, rfl, rfl, rfl⟩, ?_⟩; exact ⟨rfl, trivial, rfl, rfl, rfl, rfl, rfl, rfl, trivial⟩)
    ·have h2 : w ≠ 0 := by simpa using h2
     have hn : w = wG (w2 iss aud ks) 41 ((ks.take (i + 1)).any shortK) := by
      rw [hnx, wG_no (fun h => h2 (hw.trans h))]
      exact hw
     rw [wrap64 (x := (i : Int) + 1) (by omega) (by omega)]
     first
      | (refine ⟨n - (i + 1), by omega, _, _, [0, 1, 2], ⟨i + 1, _, hn, by omega, rfl, rfl, rfl, rfl⟩, ?_⟩; exact ⟨rfl, ⟨rfl, rfl, rfl, trivial⟩, rfl, rfl, rfl, rfl, rfl, rfl, trivial⟩)
      | (refine ⟨n - (i + 1), by omega, _, _, [], ⟨i + 1, _, hn, by omega, rfl, rfl, rfl, rfl⟩, ?_⟩; exact ⟨rfl, trivial, rfl, rfl, rfl, rfl, rfl, rfl, trivial⟩)
   ·have h1 := of_decide_eq_false h1
    obtain rfl : i = n := by omega
    obtain rfl : w = w3 iss aud ks := by rw [hw, hnk, List.take_length]
    first
     | exact ⟨_, _, [0, 1, 2], ⟨_, _, .inl ⟨rfl, rfl, _, rfl⟩, hc, rfl, hle⟩, rfl, ⟨rfl, rfl, rfl, trivial⟩, rfl, rfl, rfl, trivial⟩
     | exact ⟨_, _, [], ⟨_, _, .inr ⟨rfl, rfl, rfl⟩, hc, rfl, hle⟩, rfl, trivial, rfl, rfl, rfl, trivial⟩
 rintro F H6 G hle6 ⟨sv, c, hsv, hc, rfl, hle⟩
 have hZ3 : Z = w3 iss aud ks := hnp
 rw [← hZ3]
 have heq : (Z == Z) = true := by simp
 rcases hsv with ⟨rfl, rfl, f, rfl⟩ | ⟨rfl, rfl, rfl⟩
 ·have hz : (Z == 0) = true := by simpa using hc
  refine codeL.go Nl.tab ?_
  (conv => whnf)
  rw [heq]
  (conv => whnf)
  rw [hz]
  (conv => whnf)
  rfl
 ·have hz : (Z == 0) = false := by simpa using hc
  refine codeL.go Nl.tab ?_
  (conv => whnf)
  rw [heq]
  (conv => whnf)
  rw [hz]
  (conv => whnf)
  rfl
end Go.Kx.L30
