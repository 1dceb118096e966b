/- The references of layers 11, 12, 13: words; a right subject. No condition of its own. -/
import Derived.Test.YtdknmcaemebgfaaGreatDoorMY17
namespace Go.Kx.Rf
open Go.Proofs Go.Kx Go.RowKit Go.Kx.Js Go.Kx.Pr Go.Kx.Cl
set_option maxRecDepth 20000
set_option linter.unusedSimpArgs false
namespace Wd
def T : Tab := [(9, { k := TK.string, agg := false, size := 1, bytes := 16, zero := [Z.s] }), (4, { k := TK.bool, agg := false, size := 1, bytes := 1, zero := [Z.b] }), (3, { k := TK.int IntKind.i64, agg := false, size := 1, bytes := 8, zero := [Z.i IntKind.i64] }), (62, { k := TK.slice 9, agg := false, size := 1, bytes := 24, zero := [Z.sl] }), (5, { k := TK.int IntKind.u8, agg := false, size := 1, bytes := 1, zero := [Z.i IntKind.u8] })]
set_option maxRecDepth 100000 in
theorem tab : TabOk Tryz.prog T := tabOk_mk (ts := [9, 4, 3, 62, 5]) (by kernel_rfl)
end Wd
theorem word_eq (m : Nat) (s : ByteArray) : Wo.wordP m s = (decide (1 ≤ s.size) && (decide (s.size ≤ m) && decide (wrongI s < 0))) := by
 unfold Wo.wordP toldP
 congr 1
 cases h : strEq s ⟨#[]⟩
 ·have : s ≠ ⟨#[]⟩ := (strEq_false ..).1 h
  have : s.size ≠ 0 := fun h0 => this (by apply ByteArray.ext; exact Array.eq_empty_of_size_eq_zero h0)
  exact (decide_eq_true (by omega)).symm
 ·have := (strEq_iff ..).1 h
  subst this
  rfl
theorem word12 (s : ByteArray) (hs : s.size ≤ 1000000) (H : Hp) : CallO Tryz.prog 66 [pv (.string s)] H [] fun e H' G' => e = .ret (pv (.bool (Wo.wordP 256 s))) ∧ H.Le H' ∧ G' = [] := by
 have hw : Wo.wordP 256 s = (decide (1 ≤ s.size) && (decide (s.size ≤ 256) && decide (wrongI s < 0))) := word_eq 256 s
 rw [hw]
 refine CallO.of_body Wd.tab Tryz.func66 rfl (nt := Tryz.f66.ntmps) rfl (by kernel_rfl) ?_
 by_cases h1 : 1 ≤ s.size
 ·(conv => whnf)
  rw [decide_eq_true (show (s.size : Int) ≥ 1 by omega), decide_eq_true h1]
  (conv => whnf)
  by_cases h2 : s.size ≤ 256
  ·rw [decide_eq_true (show (s.size : Int) ≤ 256 by omega), decide_eq_true h2]
   (conv => whnf)
   refine ⟨⟨_, Tryz.func65, rfl, by kernel_rfl⟩, CallS.use (wrong_ s hs H) [] rfl rfl trivial ?_⟩
   rintro e H2 G' hle ⟨rfl, hle2, rfl⟩
   (conv => whnf)
   exact ⟨rfl, hle, rfl⟩
  ·rw [decide_eq_false (show ¬ (s.size : Int) ≤ 256 by omega), decide_eq_false h2]
   (conv => whnf)
   exact ⟨rfl, .refl _, rfl⟩
 ·(conv => whnf)
  rw [decide_eq_false (show ¬ (s.size : Int) ≥ 1 by omega), decide_eq_false h1]
  (conv => whnf)
  exact ⟨rfl, .refl _, rfl⟩
theorem word13 (s : ByteArray) (hs : s.size ≤ 1000000) (H : Hp) : CallO Tryz.prog 35 [pv (.string s)] H [] fun e H' G' => e = .ret (pv (.bool (Wo.wordP 256 s))) ∧ H.Le H' ∧ G' = [] := by
 have hw : Wo.wordP 256 s = (decide (1 ≤ s.size) && (decide (s.size ≤ 256) && decide (wrongI s < 0))) := word_eq 256 s
 rw [hw]
 refine CallO.of_body Wd.tab Tryz.func35 rfl (nt := Tryz.f35.ntmps) rfl (by kernel_rfl) ?_
 by_cases h1 : 1 ≤ s.size
 ·(conv => whnf)
  rw [decide_eq_true (show (s.size : Int) ≥ 1 by omega), decide_eq_true h1]
  (conv => whnf)
  by_cases h2 : s.size ≤ 256
  ·rw [decide_eq_true (show (s.size : Int) ≤ 256 by omega), decide_eq_true h2]
   (conv => whnf)
   refine ⟨⟨_, Tryz.func65, rfl, by kernel_rfl⟩, CallS.use (wrong_ s hs H) [] rfl rfl trivial ?_⟩
   rintro e H2 G' hle ⟨rfl, hle2, rfl⟩
   (conv => whnf)
   exact ⟨rfl, hle, rfl⟩
  ·rw [decide_eq_false (show ¬ (s.size : Int) ≤ 256 by omega), decide_eq_false h2]
   (conv => whnf)
   exact ⟨rfl, .refl _, rfl⟩
 ·(conv => whnf)
  rw [decide_eq_false (show ¬ (s.size : Int) ≥ 1 by omega), decide_eq_false h1]
  (conv => whnf)
  exact ⟨rfl, .refl _, rfl⟩
theorem word11 (s : ByteArray) (hs : s.size ≤ 1000000) (H : Hp) : CallO Tryz.prog 51 [pv (.string s)] H [] fun e H' G' => e = .ret (pv (.bool (Wo.wordP 40 s))) ∧ H.Le H' ∧ G' = [] := by
 have hw : Wo.wordP 40 s = (decide (1 ≤ s.size) && (decide (s.size ≤ 40) && decide (wrongI s < 0))) := word_eq 40 s
 rw [hw]
 refine CallO.of_body Wd.tab Tryz.func51 rfl (nt := Tryz.f51.ntmps) rfl (by kernel_rfl) ?_
 by_cases h1 : 1 ≤ s.size
 ·(conv => whnf)
  rw [decide_eq_true (show (s.size : Int) ≥ 1 by omega), decide_eq_true h1]
  (conv => whnf)
  by_cases h2 : s.size ≤ 40
  ·rw [decide_eq_true (show (s.size : Int) ≤ 40 by omega), decide_eq_true h2]
   (conv => whnf)
   refine ⟨⟨_, Tryz.func65, rfl, by kernel_rfl⟩, CallS.use (wrong_ s hs H) [] rfl rfl trivial ?_⟩
   rintro e H2 G' hle ⟨rfl, hle2, rfl⟩
   (conv => whnf)
   exact ⟨rfl, hle, rfl⟩
  ·rw [decide_eq_false (show ¬ (s.size : Int) ≤ 40 by omega), decide_eq_false h2]
   (conv => whnf)
   exact ⟨rfl, .refl _, rfl⟩
 ·(conv => whnf)
  rw [decide_eq_false (show ¬ (s.size : Int) ≥ 1 by omega), decide_eq_false h1]
  (conv => whnf)
  exact ⟨rfl, .refl _, rfl⟩
theorem parts_no (c : UInt8) : ∀ l cur : List UInt8, c ∉ l → Pa.partsL c cur l = [cur ++ l]
 | [], cur, _ => by simp [Pa.partsL]
 | x :: r, cur, h => by
  simp only [List.mem_cons, not_or] at h
  unfold Pa.partsL
  rw [if_neg (Ne.symm h.1), parts_no c r (cur ++ [x]) h.2]
  simp
theorem parts_at (c : UInt8) : ∀ a b cur : List UInt8, c ∉ a → Pa.partsL c cur (a ++ c :: b) = (cur ++ a) :: Pa.partsL c [] b
 | [], b, cur, _ => by rw [List.nil_append, Pa.partsL, if_pos rfl, List.append_nil]
 | x :: r, b, cur, h => by
  simp only [List.mem_cons, not_or] at h
  rw [List.cons_append, Pa.partsL, if_neg (Ne.symm h.1), parts_at c r b (cur ++ [x]) h.2]
  simp
theorem split_at (c : UInt8) : ∀ l : List UInt8, c ∈ l → ∃ a b, l = a ++ c :: b ∧ c ∉ a
 | x :: r, h => by
  by_cases hx : x = c
  ·exact ⟨[], r, by simp [hx], by simp⟩
  ·obtain ⟨a, b, rfl, h2⟩ := split_at c r (by rcases List.mem_cons.1 h with h | h; exact absurd h.symm hx; exact h)
   exact ⟨x :: a, b, rfl, by simp only [List.mem_cons, not_or]; exact ⟨Ne.symm hx, h2⟩⟩
theorem parts_one (c : UInt8) (l : List UInt8) : ((Pa.partsL c [] l).length = 1 ↔ l.count c = 0) := by
 by_cases h : c ∈ l
 ·obtain ⟨a, b, rfl, h2⟩ := split_at c l h
  rw [parts_at c a b [] h2]
  have := Pa.partsL_pos c b []
  simp only [List.length_cons, List.count_append, List.count_cons_self]
  omega
 ·rw [parts_no c l [] h, List.count_eq_zero_of_not_mem h]
  simp
theorem addr_no {s : ByteArray} (h : (64 : UInt8) ∉ tL s) : addrP s = false := by
 unfold addrP
 rw [show s.data.toList.count 64 = 0 from List.count_eq_zero_of_not_mem h]
 simp
theorem ix_at (c : UInt8) : ∀ a b : List UInt8, c ∉ a → Lib.indexByte (a ++ c :: b) c = (a.length : Int)
 | [], b, _ => by simp [Lib.indexByte]
 | x :: r, b, h => by
  simp only [List.mem_cons, not_or] at h
  rw [List.cons_append, Lib.indexByte, if_neg (by rw [beq_iff_eq]; exact Ne.symm h.1), ix_at c r b h.2, if_neg (by rw [beq_iff_eq]; omega)]
  rfl
theorem addr_at {s : ByteArray} {a b : List UInt8} (h : tL s = a ++ 64 :: b) (ha : (64 : UInt8) ∉ a) : addrP s = (decide (b.count 64 = 0) && (decide (a ≠ []) && decide (b ≠ []))) := by
 have hi : ixB s.data.toList 64 = (a.length : Int) := by
  show Lib.indexByte (tL s) 64 = _
  rw [h, ix_at 64 a b ha]
 have hc : s.data.toList.count 64 = b.count 64 + 1 := by
  show (tL s).count 64 = _
  rw [h, List.count_append, List.count_cons_self, List.count_eq_zero_of_not_mem ha, Nat.zero_add]
 have hz : s.size = a.length + b.length + 1 := by rw [size_eq, h, List.length_append]; rfl
 unfold addrP
 rw [hi, hc, hz]
 have e1 : decide (0 < (a.length : Int)) = decide (a ≠ []) := by cases a <;> simp
 have e2 : decide ((a.length : Int) < ((a.length + b.length + 1 : Nat) : Int) - 1) = decide (b ≠ []) := by cases b <;> simp; omega
 have e3 : (b.count 64 + 1 == 1) = decide (b.count 64 = 0) := by
  rw [Bool.eq_iff_iff]; simp
 rw [e1, e2, e3]
 cases decide (a ≠ []) <;> cases decide (b ≠ []) <;> cases decide (b.count 64 = 0) <;> rfl
theorem email_parts (s : ByteArray) : (∃ a b, Pa.partsL 64 [] (tL s) = [a, b] ∧ addrP s = (decide (a ≠ []) && decide (b ≠ []))) ∨ ((Pa.partsL 64 [] (tL s)).length ≠ 2 ∧ addrP s = false) := by
 by_cases h : (64 : UInt8) ∈ tL s
 ·obtain ⟨a, b, h1, h2⟩ := split_at 64 _ h
  have hp : Pa.partsL 64 [] (tL s) = a :: Pa.partsL 64 [] b := by rw [h1]; exact parts_at 64 a b [] h2
  rw [addr_at h1 h2, hp]
  by_cases h3 : b.count 64 = 0
  ·refine .inl ⟨a, b, ?_, ?_⟩
   ·rw [parts_no 64 b [] (List.count_eq_zero.1 h3)]; rfl
   ·rw [decide_eq_true h3]; rfl
  ·refine .inr ⟨?_, ?_⟩
   ·have := mt (parts_one 64 b).1 h3
    simp only [List.length_cons, ne_eq, Nat.add_eq_right]
    omega
   ·rw [decide_eq_false h3]; rfl
 ·refine .inr ⟨?_, addr_no h⟩
  rw [parts_no 64 _ [] h]; simp
theorem str_nil (a : List UInt8) : strEq ⟨a.toArray⟩ ⟨#[]⟩ = decide (a = []) := by
 cases a with
 | nil => rfl
 | cons c l => rw [decide_eq_false (by simp)]; rw [strEq_false]; intro h; have := congrArg (fun s : ByteArray => s.data.size) h; simp at this
theorem right12 (f id own : ByteArray) (hf : f.size ≤ 100000) (hi : id.size ≤ 100000) (ho : own.size ≤ 100000) (H : Hp) : CallO Tryz.prog 36 [pv (.string f), pv (.string id), pv (.string own)] H [] fun e H' G' => e = .ret (pv (.bool (subRight ⟨f, id, own⟩))) ∧ H.Le H' ∧ G' = [] := by
 obtain ⟨r, hr⟩ : ∃ r, r = subRight ⟨f, id, own⟩ := ⟨_, rfl⟩
 rw [← hr]
 unfold subRight at hr
 dsimp only at hr
 refine CallO.of_body Wd.tab Tryz.func36 rfl (nt := Tryz.f36.ntmps) rfl (by kernel_rfl) ?_
 (conv => whnf)
 refine ⟨⟨_, Tryz.func66, rfl, by kernel_rfl⟩, CallS.use (word12 id (by omega) H) [] rfl rfl trivial ?_⟩
 rintro e H2 G' hle ⟨rfl, hle2, rfl⟩
 cases hw : Wo.wordP 256 id
 ·(conv => whnf)
  obtain rfl : r = false := by rw [hr, hw]; simp
  exact ⟨rfl, hle2, rfl⟩
 rw [hw] at hr
 (conv => whnf)
 refine br.of (fun h1 => ?_) (fun h1 => ?_) <;> (conv => whnf)
 ·have h1 := (strEq_iff ..).1 h1
  subst h1
  rw [if_neg (by decide), if_neg (by decide), if_pos rfl, Bool.true_and] at hr
  refine ⟨⟨_, Tryz.func66, rfl, by kernel_rfl⟩, CallS.use (word12 own (by omega) H2) [] rfl rfl trivial ?_⟩
  rintro e H3 G' hle3 ⟨rfl, hle4, rfl⟩
  (conv => whnf)
  obtain rfl := hr
  exact ⟨rfl, hle2.trans hle4, rfl⟩
 have h1 : f ≠ sIssSub := (strEq_false ..).1 h1
 rw [if_neg h1] at hr
 cases hn : strEq own ⟨#[]⟩
 ·(conv => whnf)
  obtain rfl : r = false := by rw [hr, hn]; simp
  exact ⟨rfl, hle2, rfl⟩
 rw [hn] at hr
 (conv => whnf)
 refine br.of (fun h2 => ?_) (fun h2 => ?_) <;> (conv => whnf)
 ·have h2 := (strEq_iff ..).1 h2
  subst h2
  rw [if_pos rfl] at hr
  obtain rfl := hr
  exact ⟨rfl, hle2, rfl⟩
 have h2 : f ≠ sOpaque := (strEq_false ..).1 h2
 rw [if_neg h2] at hr
 refine ⟨⟨_, Tryz.func67, rfl, by kernel_rfl⟩, CallS.use (Pa.parts_ id (by omega) 64 H2) [] rfl rfl trivial ?_⟩
 rintro e H3 G' hle3 ⟨⟨B, m, c, rfl, hv⟩, rfl⟩
 (conv => whnf)
 cases hf' : strEq f ⟨#[101, 109, 97, 105, 108]⟩
 ·(conv => whnf)
  have h3 : f ≠ sEmail := (strEq_false ..).1 hf'
  rw [if_neg h3] at hr
  obtain rfl : r = false := by rw [hr]; try rw [if_neg h1]
  exact ⟨rfl, hle2.trans hle3, rfl⟩
 have h3 : f = sEmail := (strEq_iff ..).1 hf'
 rw [if_pos h3] at hr
 have hm : m = (Pa.partsL 64 [] (tL id)).length := by have := hv.1; rw [Pa.stC_len] at this; exact this
 rcases email_parts id with ⟨a, b, hp, he⟩ | ⟨hp, he⟩
 ·obtain rfl : m = 2 := by rw [hm, hp]; rfl
  have hv0 : (Pa.stC (Pa.partsL 64 [] (tL id)))[0]? = some (.string ⟨a.toArray⟩) := by rw [hp]; rfl
  have hv1 : (Pa.stC (Pa.partsL 64 [] (tL id)))[1]? = some (.string ⟨b.toArray⟩) := by rw [hp]; rfl
  have hr : r = ((!strEq ⟨a.toArray⟩ ⟨#[]⟩) && (!strEq ⟨b.toArray⟩ ⟨#[]⟩)) := by
   rw [hr, he, str_nil, str_nil]
   simp
  (conv => whnf)
  refine ⟨by decide, hv.addr (by decide), ?_⟩
  (conv => whnf)
  refine ⟨_, hv.get hv0 rfl, ?_⟩
  (conv => whnf)
  cases ha : strEq ⟨a.toArray⟩ ⟨#[]⟩
  ·(conv => whnf)
   refine ⟨by decide, hv.addr (by decide), ?_⟩
   (conv => whnf)
   refine ⟨_, hv.get hv1 rfl, ?_⟩
   (conv => whnf)
   rw [ha] at hr
   exact ⟨by rw [hr]; rfl, hle2.trans hle3, rfl⟩
  ·(conv => whnf)
   rw [ha] at hr
   exact ⟨by rw [hr]; rfl, hle2.trans hle3, rfl⟩
 ·have hm2 : ((m : Nat) : Int) ≠ 2 := by omega
  (conv => whnf)
  rw [show (((m : Nat) : Int) == 2) = false from beq_eq_false_iff_ne.2 hm2]
  (conv => whnf)
  rw [he] at hr
  obtain rfl : r = false := by rw [hr]; simp
  exact ⟨rfl, hle2.trans hle3, rfl⟩
end Go.Kx.Rf
namespace Go.Kx.Rf
open Go.Proofs Go.Kx Go.RowKit Go.Kx.Js Go.Kx.Pr Go.Kx.Cl Go.Kx.Se
set_option maxRecDepth 20000
set_option linter.unusedSimpArgs false
namespace Cr
def T : Tab := [(9, { k := TK.string, agg := false, size := 1, bytes := 16, zero := [Z.s] }), (28, { k := TK.st [(0, 9, 1), (1, 9, 1), (2, 9, 1), (3, 3, 1), (4, 9, 1), (5, 9, 1), (6, 9, 1), (7, 9, 1), (8, 3, 1), (9, 9, 1)], agg := true, size := 10, bytes := 144, zero := [Z.s, Z.s, Z.s, Z.i IntKind.i64, Z.s, Z.s, Z.s, Z.s, Z.i IntKind.i64, Z.s] }), (3, { k := TK.int IntKind.i64, agg := false, size := 1, bytes := 8, zero := [Z.i IntKind.i64] }), (4, { k := TK.bool, agg := false, size := 1, bytes := 1, zero := [Z.b] }), (62, { k := TK.slice 9, agg := false, size := 1, bytes := 24, zero := [Z.sl] }), (5, { k := TK.int IntKind.u8, agg := false, size := 1, bytes := 1, zero := [Z.i IntKind.u8] })]
set_option maxRecDepth 100000 in
theorem tab : TabOk Tryz.prog T := tabOk_mk (ts := [9, 28, 3, 4, 62, 5]) (by kernel_rfl)
end Cr
def FitT (c : Clm) : Prop := c.iss.size ≤ 1000 ∧ c.jti.size ≤ 1000 ∧ c.aud.size ≤ 1000 ∧ c.txn.size ≤ 1000 ∧ c.sub.fmt.size ≤ 1000 ∧ c.sub.id.size ≤ 1000 ∧ c.sub.own.size ≤ 1000 ∧ c.reason.size ≤ 1000
theorem right13 (a b c : ByteArray) (n : Int) (t f i o : ByteArray) (k : Int) (r : ByteArray) (hf : FitT ⟨a, b, c, n, t, ⟨f, i, o⟩, k, r⟩) (H : Hp) : CallO Tryz.prog 12 [.si (.ag (cs10 a b c n t f i o k r))] H [] fun e H' G' => e = .ret (pv (.bool (clRight ⟨a, b, c, n, t, ⟨f, i, o⟩, k, r⟩))) ∧ H.Le H' ∧ G' = [] := by
 obtain ⟨f1, f2, f3, f4, f5, f6, f7, f8⟩ := hf
 dsimp only at f1 f2 f3 f4 f5 f6 f7 f8
 obtain ⟨R, hR⟩ : ∃ R, R = clRight ⟨a, b, c, n, t, ⟨f, i, o⟩, k, r⟩ := ⟨_, rfl⟩
 rw [← hR]
 unfold clRight at hR
 dsimp only at hR
 refine CallO.of_body Cr.tab Tryz.func12 rfl (nt := Tryz.f12.ntmps) rfl (by kernel_rfl) ?_
 (conv => whnf)
 cases h1 : decide (k < 1) <;> (conv => whnf)
 rotate_left
 ·obtain rfl : R = false := by rw [hR, decide_eq_false (show ¬ 1 ≤ k by have := of_decide_eq_true h1; omega)]; rfl
  exact ⟨rfl, .refl _, rfl⟩
 rw [decide_eq_true (show 1 ≤ k by have := of_decide_eq_false h1; omega)] at hR
 rw [show decide (k > 6) = decide (6 < k) from rfl]
 cases h2 : decide (6 < k) <;> (conv => whnf)
 rotate_left
 ·obtain rfl : R = false := by rw [hR, decide_eq_false (show ¬ k ≤ 6 by have := of_decide_eq_true h2; omega)]; rfl
  exact ⟨rfl, .refl _, rfl⟩
 rw [decide_eq_true (show k ≤ 6 by have := of_decide_eq_false h2; omega)] at hR
 cases h3 : decide (n < 0) <;> (conv => whnf)
 rotate_left
 ·obtain rfl : R = false := by rw [hR, decide_eq_false (show ¬ 0 ≤ n by have := of_decide_eq_true h3; omega)]; simp
  exact ⟨rfl, .refl _, rfl⟩
 rw [decide_eq_true (show 0 ≤ n by have := of_decide_eq_false h3; omega)] at hR
 rw [show decide (n > 1099511627776) = decide (1099511627776 < n) from rfl]
 cases h4 : decide (1099511627776 < n) <;> (conv => whnf)
 rotate_left
 ·obtain rfl : R = false := by rw [hR, decide_eq_false (show ¬ n ≤ 1099511627776 by have := of_decide_eq_true h4; omega)]; simp
  exact ⟨rfl, .refl _, rfl⟩
 rw [decide_eq_true (show n ≤ 1099511627776 by have := of_decide_eq_false h4; omega)] at hR
 simp only [Bool.true_and] at hR
 cases h5 : strEq r ⟨#[]⟩ <;> (conv => whnf)
 ·refine ⟨⟨_, Tryz.func35, rfl, by kernel_rfl⟩, CallS.use (word13 r (by omega) H) [] rfl rfl trivial ?_⟩
  rintro e H2 G' hle2 ⟨rfl, hle0, rfl⟩
  cases wr : Wo.wordP 256 r <;> (conv => whnf)
  ·obtain rfl : R = false := by rw [hR, h5, wr]; simp
   exact ⟨rfl, hle0, rfl⟩
  have hRR : R = (Wo.wordP 256 a && (Wo.wordP 256 b && (Wo.wordP 256 c && (Wo.wordP 256 t && subRight ⟨f, i, o⟩)))) := by rw [hR, h5, wr]; simp
  refine ⟨⟨_, Tryz.func35, rfl, by kernel_rfl⟩, CallS.use (word13 a (by omega) _) [] rfl rfl trivial ?_⟩
  rintro e Ha G' hlea ⟨rfl, hlea', rfl⟩
  cases wa : Wo.wordP 256 a <;> (conv => whnf)
  ·obtain rfl : R = false := by rw [hRR, wa]; simp
   exact ⟨rfl, hle0.trans hlea', rfl⟩
  refine ⟨⟨_, Tryz.func35, rfl, by kernel_rfl⟩, CallS.use (word13 b (by omega) _) [] rfl rfl trivial ?_⟩
  rintro e Hb G' hleb ⟨rfl, hleb', rfl⟩
  cases wb : Wo.wordP 256 b <;> (conv => whnf)
  ·obtain rfl : R = false := by rw [hRR, wa, wb]; simp
   exact ⟨rfl, (hle0.trans hlea').trans hleb', rfl⟩
  refine ⟨⟨_, Tryz.func35, rfl, by kernel_rfl⟩, CallS.use (word13 c (by omega) _) [] rfl rfl trivial ?_⟩
  rintro e Hc G' hlec ⟨rfl, hlec', rfl⟩
  cases wc : Wo.wordP 256 c <;> (conv => whnf)
  ·obtain rfl : R = false := by rw [hRR, wa, wb, wc]; simp
   exact ⟨rfl, ((hle0.trans hlea').trans hleb').trans hlec', rfl⟩
  refine ⟨⟨_, Tryz.func35, rfl, by kernel_rfl⟩, CallS.use (word13 t (by omega) _) [] rfl rfl trivial ?_⟩
  rintro e Ht G' hlet ⟨rfl, hlet', rfl⟩
  cases wt : Wo.wordP 256 t <;> (conv => whnf)
  ·obtain rfl : R = false := by rw [hRR, wa, wb, wc, wt]; simp
   exact ⟨rfl, (((hle0.trans hlea').trans hleb').trans hlec').trans hlet', rfl⟩
  refine ⟨⟨_, Tryz.func36, rfl, by kernel_rfl⟩, CallS.use (right12 f i o (by omega) (by omega) (by omega) _) [] rfl rfl trivial ?_⟩
  rintro e Hf G' hlef ⟨rfl, hlef', rfl⟩
  (conv => whnf)
  obtain rfl : R = subRight ⟨f, i, o⟩ := by rw [hRR, wa, wb, wc, wt]; simp
  exact ⟨rfl, ((((hle0.trans hlea').trans hleb').trans hlec').trans hlet').trans hlef', rfl⟩
 ·have hRR : R = (Wo.wordP 256 a && (Wo.wordP 256 b && (Wo.wordP 256 c && (Wo.wordP 256 t && subRight ⟨f, i, o⟩)))) := by rw [hR, h5]; simp
  have hle0 : H.Le H := .refl _
  refine ⟨⟨_, Tryz.func35, rfl, by kernel_rfl⟩, CallS.use (word13 a (by omega) _) [] rfl rfl trivial ?_⟩
  rintro e Ha G' hlea ⟨rfl, hlea', rfl⟩
  cases wa : Wo.wordP 256 a <;> (conv => whnf)
  ·obtain rfl : R = false := by rw [hRR, wa]; simp
   exact ⟨rfl, hle0.trans hlea', rfl⟩
  refine ⟨⟨_, Tryz.func35, rfl, by kernel_rfl⟩, CallS.use (word13 b (by omega) _) [] rfl rfl trivial ?_⟩
  rintro e Hb G' hleb ⟨rfl, hleb', rfl⟩
  cases wb : Wo.wordP 256 b <;> (conv => whnf)
  ·obtain rfl : R = false := by rw [hRR, wa, wb]; simp
   exact ⟨rfl, (hle0.trans hlea').trans hleb', rfl⟩
  refine ⟨⟨_, Tryz.func35, rfl, by kernel_rfl⟩, CallS.use (word13 c (by omega) _) [] rfl rfl trivial ?_⟩
  rintro e Hc G' hlec ⟨rfl, hlec', rfl⟩
  cases wc : Wo.wordP 256 c <;> (conv => whnf)
  ·obtain rfl : R = false := by rw [hRR, wa, wb, wc]; simp
   exact ⟨rfl, ((hle0.trans hlea').trans hleb').trans hlec', rfl⟩
  refine ⟨⟨_, Tryz.func35, rfl, by kernel_rfl⟩, CallS.use (word13 t (by omega) _) [] rfl rfl trivial ?_⟩
  rintro e Ht G' hlet ⟨rfl, hlet', rfl⟩
  cases wt : Wo.wordP 256 t <;> (conv => whnf)
  ·obtain rfl : R = false := by rw [hRR, wa, wb, wc, wt]; simp
   exact ⟨rfl, (((hle0.trans hlea').trans hleb').trans hlec').trans hlet', rfl⟩
  refine ⟨⟨_, Tryz.func36, rfl, by kernel_rfl⟩, CallS.use (right12 f i o (by omega) (by omega) (by omega) _) [] rfl rfl trivial ?_⟩
  rintro e Hf G' hlef ⟨rfl, hlef', rfl⟩
  (conv => whnf)
  obtain rfl : R = subRight ⟨f, i, o⟩ := by rw [hRR, wa, wb, wc, wt]; simp
  exact ⟨rfl, ((((hle0.trans hlea').trans hleb').trans hlec').trans hlet').trans hlef', rfl⟩
end Go.Kx.Rf
namespace Go.Kx.Rf
open Go.Proofs Go.Kx Go.RowKit Go.Kx.Js Go.Kx.Pr Go.Kx.Cl Go.Kx.Se Go.Kx.Lb Go.Kx.Jw Go.Kx.Ob
set_option maxRecDepth 20000
set_option linter.unusedSimpArgs false
namespace Dg
def T : Tab := [(9, { k := TK.string, agg := false, size := 1, bytes := 16, zero := [Z.s] }), (28, { k := TK.st [(0, 9, 1), (1, 9, 1), (2, 9, 1), (3, 3, 1), (4, 9, 1), (5, 9, 1), (6, 9, 1), (7, 9, 1), (8, 3, 1), (9, 9, 1)], agg := true, size := 10, bytes := 144, zero := [Z.s, Z.s, Z.s, Z.i IntKind.i64, Z.s, Z.s, Z.s, Z.s, Z.i IntKind.i64, Z.s] }), (3, { k := TK.int IntKind.i64, agg := false, size := 1, bytes := 8, zero := [Z.i IntKind.i64] }), (4, { k := TK.bool, agg := false, size := 1, bytes := 1, zero := [Z.b] }), (5, { k := TK.int IntKind.u8, agg := false, size := 1, bytes := 1, zero := [Z.i IntKind.u8] }), (55, { k := TK.slice 5, agg := false, size := 1, bytes := 24, zero := [Z.sl] })]
set_option maxRecDepth 100000 in
theorem tab : TabOk Tryz.prog T := tabOk_mk (ts := [9, 28, 3, 4, 5, 55]) (by kernel_rfl)
theorem wrap8 (x : Int) : IntKind.u8.wrap x = x % 256 := by simp [IntKind.wrap, IntKind.bits, IntKind.signed]
theorem itoa_nat (n : Nat) : Lib.itoa (n : Int) = Lib.decDigits n := by
 unfold Lib.itoa
 rw [if_neg (by omega), Int.toNat_natCast]
def digB (d : Nat) : ByteArray := ⟨#[UInt8.ofNat (48 + d)]⟩
theorem dig_cells (d : Nat) (hd : d < 10) {x : Int} (hx : x = (d : Int)) : byteCells (digB d) = [Value.int .u8 (IntKind.u8.wrap (IntKind.i64.wrap (48 + x)))] := by
 subst hx
 rw [wrap64 (by omega) (by omega), wrap8, byteCells_map]
 show [Value.int .u8 ((UInt8.ofNat (48 + d)).toNat : Int)] = _
 rw [UInt8.toNat_ofNat']
 congr 2
theorem itoaB_one (n : Nat) (h : n < 10) : itoaB n = digB n := by
 unfold itoaB digB
 rw [itoa_nat, Lib.decDigits_one h]
theorem itoaB_snoc (n : Nat) (h : ¬ n < 10) : itoaB n = itoaB (n / 10 : Nat) ++ digB (n % 10) := by
 unfold itoaB digB
 rw [itoa_nat, itoa_nat, decDigits_big h]
 apply ByteArray.ext
 rw [ByteArray.data_append]
 simp
theorem itoa_le (n : Nat) (h : n < 10 ^ 15) : (itoaB n).data.size ≤ 15 := by
 unfold itoaB
 rw [itoa_nat, List.size_toArray]
 exact dec_len 15 n h (by decide)
theorem digits (n : Nat) (hn : n < 10 ^ 15) (H : Hp) : CallO Tryz.prog 46 [pv (.int .i64 n)] H [] fun e _ G' => e = .ret (pv (.string (itoaB n))) ∧ G' = [] := by
 induction n using Nat.strongRecOn generalizing H with
 | _ n ih =>
  refine CallO.of_body tab Tryz.func46 rfl (nt := Tryz.f46.ntmps) rfl (by kernel_rfl) ?_
  (conv => whnf)
  refine br.of (fun h1 => ?_) (fun h1 => ?_) <;> (conv => whnf)
  ·simp only [decide_eq_true_eq] at h1
   refine ⟨by decide, .inl ?_⟩
   intro g H2 hle hrd
   (conv => whnf)
   refine ⟨digB n, rfl, .inr (by rw [dig_cells n (by omega) rfl]; exact hrd), ?_⟩
   (conv => whnf)
   exact ⟨by rw [itoaB_one n (by omega)]; rfl, rfl⟩
  ·simp only [decide_eq_false_iff_not] at h1
   have h10 : ¬ n < 10 := by omega
   have hd : (n : Int).tdiv 10 = ((n / 10 : Nat) : Int) := by rw [Int.tdiv_eq_ediv_of_nonneg (by omega)]; omega
   have hm : (n : Int).tmod 10 = ((n % 10 : Nat) : Int) := by rw [Int.tmod_eq_emod_of_nonneg (by omega)]; omega
   have hdw : IntKind.i64.wrap ((n : Int).tdiv 10) = ((n / 10 : Nat) : Int) := by rw [hd, wrap64 (by omega) (by omega)]
   have hi := itoa_le (n / 10) (by omega)
   refine WS.draw tab mixed (.take 0 (.take 1 (.take 3 (.take 4 (.take 5 (.take 6 (.alt 2 (.alt 7 (.alt 8 (.take 9 (.take 10 .done)) .no) .no) (.alt 7 (.alt 2 (.alt 8 (.take 9 (.take 10 .done)) .no) (.alt 8 (.alt 2 (.take 9 (.take 10 .done)) .no) .no)) .no)))))))) (by kernel_rfl) [] ?_
   (conv => whnf)
   refine ⟨by decide, ?_⟩
   (conv => whnf)
   refine ⟨by decide, ?_⟩
   (conv => whnf)
   rw [hdw, hm]
   (conv => whnf)
   repeat' (first
    | exact trivial
    | exact rfl
    | exact ⟨_, Tryz.func46, rfl, by kernel_rfl⟩
    | (refine CallS.use (ih (n / 10) (by omega) (by omega) _) [] rfl rfl trivial ?_; rintro e H' G' hle ⟨rfl, rfl⟩; (conv => whnf))
    | (refine ⟨by decide, .inl ?_⟩; intro g H2 hle2 hrd; (conv => whnf))
    | (refine ⟨digB (n % 10), rfl, .inr (by rw [dig_cells (n % 10) (by omega) rfl]; exact hrd), ?_⟩; (conv => whnf))
    | (refine ⟨digB (n % 10), rfl, .inr (by rw [dig_cells (n % 10) (by omega) rfl]; exact hrd.mono hle), ?_⟩; (conv => whnf))
    | (refine ⟨by show (itoaB ((n / 10 : Nat) : Int)).data.size + 1 ≤ _; omega, ?_⟩; (conv => whnf))
    | exact ⟨by rw [itoaB_snoc n h10]; rfl, rfl⟩
    | (refine And.intro ?_ ?_ <;> (conv => whnf)))
end Dg
theorem digits13 (v : Int) (h0 : 0 ≤ v) (hn : v ≤ 1099511627776) (H : Hp) : CallO Tryz.prog 46 [pv (.int .i64 v)] H [] fun e _ G' => e = .ret (pv (.string (itoaB v))) ∧ G' = [] := by
 obtain ⟨n, rfl⟩ : ∃ n : Nat, v = n := ⟨v.toNat, by omega⟩
 exact Dg.digits n (by omega) H
theorem quoteS (s : ByteArray) (hs : s.size ≤ 1000) (H : Hp) : CallO Tryz.prog 45 [pv (.string s)] H [] fun e H' G' => (∃ q : ByteArray, e = .ret (pv (.string q)) ∧ q.data.toList = quoteB (tL s) ∧ q.size ≤ 6100) ∧ H' = H ∧ G' = [] := by
 refine (CallS.use (quote_ s (by omega) H) [] rfl rfl trivial ?_).to
 rintro e H' G' hle ⟨rfl, rfl, rfl⟩
 (conv => whnf)
 refine ⟨⟨_, rfl, rfl, ?_⟩, rfl, rfl⟩
 have := flat_le (tL s)
 have := size_eq s
 show (quoteB (tL s)).toArray.size ≤ 6100
 unfold quoteB
 simp only [List.size_toArray, List.length_append, List.length_singleton]
 omega
theorem sub_w1 (id e : ByteArray) : wrJ (subJ ⟨sOpaque, id, e⟩) = ([123, 34, 102, 111, 114, 109, 97, 116, 34, 58, 34, 111, 112, 97, 113, 117, 101, 34, 44] : List UInt8) ++ (([34, 105, 100, 34, 58] : List UInt8) ++ (quoteB (tL id) ++ [125])) := by
 have h : subMs ⟨sOpaque, id, e⟩ = [(sFormat, strJ sOpaque), (sId, strJ id)] := rfl
 unfold subJ
 rw [h]
 simp only [objJ, wrJ, wrMs, wr_str]
 show _ = ([123, 34, 102, 111, 114, 109, 97, 116, 34, 58, 34, 111, 112, 97, 113, 117, 101, 34, 44] : List UInt8) ++ (([34, 105, 100, 34, 58] : List UInt8) ++ (quoteB id.data.toList ++ [125]))
 rw [show quoteB sFormat.data.toList = ([34, 102, 111, 114, 109, 97, 116, 34] : List UInt8) from by decide +kernel, show quoteB sOpaque.data.toList = ([34, 111, 112, 97, 113, 117, 101, 34] : List UInt8) from by decide +kernel, show quoteB sId.data.toList = ([34, 105, 100, 34] : List UInt8) from by decide +kernel]
 simp
theorem sub_w2 (id e : ByteArray) : wrJ (subJ ⟨sEmail, id, e⟩) = ([123, 34, 102, 111, 114, 109, 97, 116, 34, 58, 34, 101, 109, 97, 105, 108, 34, 44] : List UInt8) ++ (([34, 101, 109, 97, 105, 108, 34, 58] : List UInt8) ++ (quoteB (tL id) ++ [125])) := by
 have h : subMs ⟨sEmail, id, e⟩ = [(sFormat, strJ sEmail), (sEmail, strJ id)] := rfl
 unfold subJ
 rw [h]
 simp only [objJ, wrJ, wrMs, wr_str]
 show _ = ([123, 34, 102, 111, 114, 109, 97, 116, 34, 58, 34, 101, 109, 97, 105, 108, 34, 44] : List UInt8) ++ (([34, 101, 109, 97, 105, 108, 34, 58] : List UInt8) ++ (quoteB id.data.toList ++ [125]))
 rw [show quoteB sFormat.data.toList = ([34, 102, 111, 114, 109, 97, 116, 34] : List UInt8) from by decide +kernel, show quoteB sEmail.data.toList = ([34, 101, 109, 97, 105, 108, 34] : List UInt8) from by decide +kernel]
 simp
theorem sub_w3 (id own : ByteArray) : wrJ (subJ ⟨sIssSub, id, own⟩) = ([123, 34, 102, 111, 114, 109, 97, 116, 34, 58, 34, 105, 115, 115, 95, 115, 117, 98, 34, 44] : List UInt8) ++ (([34, 105, 115, 115, 34, 58] : List UInt8) ++ (quoteB (tL own) ++ (([44, 34, 115, 117, 98, 34, 58] : List UInt8) ++ (quoteB (tL id) ++ [125])))) := by
 have h : subMs ⟨sIssSub, id, own⟩ = [(sFormat, strJ sIssSub), (sIss, strJ own), (sSub, strJ id)] := rfl
 unfold subJ
 rw [h]
 simp only [objJ, wrJ, wrMs, wr_str]
 show _ = ([123, 34, 102, 111, 114, 109, 97, 116, 34, 58, 34, 105, 115, 115, 95, 115, 117, 98, 34, 44] : List UInt8) ++ (([34, 105, 115, 115, 34, 58] : List UInt8) ++ (quoteB own.data.toList ++ (([44, 34, 115, 117, 98, 34, 58] : List UInt8) ++ (quoteB id.data.toList ++ [125]))))
 rw [show quoteB sFormat.data.toList = ([34, 102, 111, 114, 109, 97, 116, 34] : List UInt8) from by decide +kernel, show quoteB sIssSub.data.toList = ([34, 105, 115, 115, 95, 115, 117, 98, 34] : List UInt8) from by decide +kernel, show quoteB sIss.data.toList = ([34, 105, 115, 115, 34] : List UInt8) from by decide +kernel, show quoteB sSub.data.toList = ([34, 115, 117, 98, 34] : List UInt8) from by decide +kernel]
 simp
theorem add_le {x y : ByteArray} {n m : Nat} (hx : x.size ≤ n) (hy : y.size ≤ m) : (x ++ y).size ≤ n + m := by rw [ByteArray.size_append]; omega
theorem add_ok {x y : ByteArray} {n m : Nat} (hx : x.size ≤ n) (hy : y.size ≤ m) (h : n + m ≤ 9223372036854775807) : x.size + y.size ≤ 9223372036854775807 := by omega
theorem about (a b c : ByteArray) (n : Int) (t : ByteArray) (x : Sub) (k : Int) (r : ByteArray) (hx : subRight x = true) (H : Hp) : CallO Tryz.prog 47 [.si (.ag (cs10 a b c n t x.fmt x.id x.own k r))] H [] fun e H' G' => (∃ q : ByteArray, e = .ret (pv (.string q)) ∧ q.data.toList = wrJ (subJ x) ∧ q.size ≤ 20000) ∧ H.Le H' ∧ G' = [] := by
 rcases sub_cases hx with ⟨id, rfl, h1⟩ | ⟨id, rfl, h1, h2⟩ | ⟨id, own, rfl, h1, h2⟩
 ·have h3 := (word_size h1).1
  dsimp only
  refine CallO.of_body Dg.tab Tryz.func47 rfl (nt := Tryz.f47.ntmps) rfl (by kernel_rfl) ?_
  (conv => whnf)
  refine ⟨by decide, ?_⟩
  (conv => whnf)
  refine ⟨by decide, ?_⟩
  (conv => whnf)
  refine ⟨by decide, ?_⟩
  (conv => whnf)
  refine ⟨⟨_, Tryz.func45, rfl, by kernel_rfl⟩, CallS.use (quoteS id (by omega) H) [] rfl rfl trivial ?_⟩
  rintro e H2 G' hle ⟨⟨q, rfl, hq, hqs⟩, rfl, rfl⟩
  (conv => whnf)
  refine ⟨add_ok (n := 100) (by decide) hqs (by decide), ?_⟩
  (conv => whnf)
  refine ⟨add_ok (add_le (n := 100) (by decide) hqs) (m := 1) (by decide) (by decide), ?_⟩
  (conv => whnf)
  refine ⟨⟨_, rfl, ?_, Nat.le_trans (add_le (add_le (n := 100) (by decide) hqs) (m := 1) (by decide)) (by decide)⟩, .refl _, rfl⟩
  rw [sub_w1]
  simp only [ByteArray.data_append, Array.toList_append, hq]
  simp
 ·have h3 := (word_size h1).1
  dsimp only
  refine CallO.of_body Dg.tab Tryz.func47 rfl (nt := Tryz.f47.ntmps) rfl (by kernel_rfl) ?_
  (conv => whnf)
  refine ⟨by decide, ?_⟩
  (conv => whnf)
  refine ⟨by decide, ?_⟩
  (conv => whnf)
  refine ⟨by decide, ?_⟩
  (conv => whnf)
  refine ⟨⟨_, Tryz.func45, rfl, by kernel_rfl⟩, CallS.use (quoteS id (by omega) H) [] rfl rfl trivial ?_⟩
  rintro e H2 G' hle ⟨⟨q, rfl, hq, hqs⟩, rfl, rfl⟩
  (conv => whnf)
  refine ⟨add_ok (n := 100) (by decide) hqs (by decide), ?_⟩
  (conv => whnf)
  refine ⟨add_ok (add_le (n := 100) (by decide) hqs) (m := 1) (by decide) (by decide), ?_⟩
  (conv => whnf)
  refine ⟨⟨_, rfl, ?_, Nat.le_trans (add_le (add_le (n := 100) (by decide) hqs) (m := 1) (by decide)) (by decide)⟩, .refl _, rfl⟩
  rw [sub_w2]
  simp only [ByteArray.data_append, Array.toList_append, hq]
  simp
 ·have h3 := (word_size h1).1
  have h4 := (word_size h2).1
  dsimp only
  refine CallO.of_body Dg.tab Tryz.func47 rfl (nt := Tryz.f47.ntmps) rfl (by kernel_rfl) ?_
  (conv => whnf)
  refine ⟨by decide, ?_⟩
  (conv => whnf)
  refine ⟨by decide, ?_⟩
  (conv => whnf)
  refine WS.draw Dg.tab Rf.mixed (.take 0 (.take 1 (.take 2 (.take 3 (.take 7 (.take 8 (.alt 4 (.take 5 (.take 6 (.alt 9 (.take 10 (.take 11 (.take 12 .done))) .no))) .no))))))) (by kernel_rfl) [] ?_
  (conv => whnf)
  refine ⟨by decide, ?_⟩
  (conv => whnf)
  refine And.intro ?_ ?_ <;> (conv => whnf)
  rotate_left
  ·exact trivial
  refine ⟨⟨_, Tryz.func45, rfl, by kernel_rfl⟩, CallS.use (quoteS own (by omega) H) [] rfl rfl trivial ?_⟩
  rintro e H2 G' hle ⟨⟨q2, rfl, hq2, hqs2⟩, rfl, rfl⟩
  (conv => whnf)
  refine ⟨⟨rfl, trivial⟩, ?_⟩
  (conv => whnf)
  refine ⟨add_ok (n := 100) (by decide) hqs2 (by decide), ?_⟩
  (conv => whnf)
  refine ⟨add_ok (add_le (n := 100) (by decide) hqs2) (m := 10) (by decide) (by decide), ?_⟩
  (conv => whnf)
  refine And.intro ?_ ?_ <;> (conv => whnf)
  rotate_left
  ·exact trivial
  refine ⟨⟨_, Tryz.func45, rfl, by kernel_rfl⟩, CallS.use (quoteS id (by omega) _) [] rfl rfl trivial ?_⟩
  rintro e H3 G' hle3 ⟨⟨q, rfl, hq, hqs⟩, rfl, rfl⟩
  (conv => whnf)
  refine ⟨⟨rfl, trivial⟩, ?_⟩
  (conv => whnf)
  refine ⟨add_ok (add_le (add_le (n := 100) (by decide) hqs2) (m := 10) (by decide)) hqs (by decide), ?_⟩
  (conv => whnf)
  refine ⟨add_ok (add_le (add_le (add_le (n := 100) (by decide) hqs2) (m := 10) (by decide)) hqs) (m := 1) (by decide) (by decide), ?_⟩
  (conv => whnf)
  refine ⟨⟨_, rfl, ?_, Nat.le_trans (add_le (add_le (add_le (add_le (n := 100) (by decide) hqs2) (m := 10) (by decide)) hqs) (m := 1) (by decide)) (by decide)⟩, .refl _, rfl⟩
  rw [sub_w3]
  simp only [ByteArray.data_append, Array.toList_append, hq, hq2]
  simp
end Go.Kx.Rf
namespace Go.Kx.Ln
open Go.Proofs Go.Kx Go.RowKit Go.Kx.Js Go.Kx.Pr Go.Kx.Cl Go.Kx.Se Go.Kx.Lb Go.Kx.Ob
set_option maxRecDepth 20000
set_option linter.unusedSimpArgs false
namespace Dg
open Go.Kx.Rf.Dg
def T : Tab := [(9, { k := TK.string, agg := false, size := 1, bytes := 16, zero := [Z.s] }), (3, { k := TK.int IntKind.i64, agg := false, size := 1, bytes := 8, zero := [Z.i IntKind.i64] }), (5, { k := TK.int IntKind.u8, agg := false, size := 1, bytes := 1, zero := [Z.i IntKind.u8] }), (55, { k := TK.slice 5, agg := false, size := 1, bytes := 24, zero := [Z.sl] }), (4, { k := TK.bool, agg := false, size := 1, bytes := 1, zero := [Z.b] })]
set_option maxRecDepth 100000 in
theorem tab : TabOk Tryz.prog T := tabOk_mk (ts := [9, 3, 5, 55, 4]) (by kernel_rfl)
theorem digits (n : Nat) (hn : n < 10 ^ 15) (H : Hp) : CallO Tryz.prog 24 [pv (.int .i64 n)] H [] fun e _ G' => e = .ret (pv (.string (itoaB n))) ∧ G' = [] := by
 induction n using Nat.strongRecOn generalizing H with
 | _ n ih =>
  refine CallO.of_body tab Tryz.func24 rfl (nt := Tryz.f24.ntmps) rfl (by kernel_rfl) ?_
  (conv => whnf)
  refine br.of (fun h1 => ?_) (fun h1 => ?_) <;> (conv => whnf)
  ·simp only [decide_eq_true_eq] at h1
   refine ⟨by decide, .inl ?_⟩
   intro g H2 hle hrd
   (conv => whnf)
   refine ⟨digB n, rfl, .inr (by rw [dig_cells n (by omega) rfl]; exact hrd), ?_⟩
   (conv => whnf)
   exact ⟨by rw [itoaB_one n (by omega)]; rfl, rfl⟩
  ·simp only [decide_eq_false_iff_not] at h1
   have h10 : ¬ n < 10 := by omega
   have hd : (n : Int).tdiv 10 = ((n / 10 : Nat) : Int) := by rw [Int.tdiv_eq_ediv_of_nonneg (by omega)]; omega
   have hm : (n : Int).tmod 10 = ((n % 10 : Nat) : Int) := by rw [Int.tmod_eq_emod_of_nonneg (by omega)]; omega
   have hdw : IntKind.i64.wrap ((n : Int).tdiv 10) = ((n / 10 : Nat) : Int) := by rw [hd, wrap64 (by omega) (by omega)]
   have hi := itoa_le (n / 10) (by omega)
   refine WS.draw tab Ob.mixed (.take 0 (.take 1 (.take 3 (.take 4 (.take 5 (.take 6 (.alt 2 (.alt 7 (.alt 8 (.take 9 (.take 10 .done)) .no) .no) (.alt 7 (.alt 2 (.alt 8 (.take 9 (.take 10 .done)) .no) (.alt 8 (.alt 2 (.take 9 (.take 10 .done)) .no) .no)) .no)))))))) (by kernel_rfl) [] ?_
   (conv => whnf)
   refine ⟨by decide, ?_⟩
   (conv => whnf)
   refine ⟨by decide, ?_⟩
   (conv => whnf)
   rw [hdw, hm]
   (conv => whnf)
   repeat' (first
    | exact trivial
    | exact rfl
    | exact ⟨_, Tryz.func24, rfl, by kernel_rfl⟩
    | (refine CallS.use (ih (n / 10) (by omega) (by omega) _) [] rfl rfl trivial ?_; rintro e H' G' hle ⟨rfl, rfl⟩; (conv => whnf))
    | (refine ⟨by decide, .inl ?_⟩; intro g H2 hle2 hrd; (conv => whnf))
    | (refine ⟨digB (n % 10), rfl, .inr (by rw [dig_cells (n % 10) (by omega) rfl]; exact hrd), ?_⟩; (conv => whnf))
    | (refine ⟨digB (n % 10), rfl, .inr (by rw [dig_cells (n % 10) (by omega) rfl]; exact hrd.mono hle), ?_⟩; (conv => whnf))
    | (refine ⟨by show (itoaB ((n / 10 : Nat) : Int)).data.size + 1 ≤ _; omega, ?_⟩; (conv => whnf))
    | exact ⟨by rw [itoaB_snoc n h10]; rfl, rfl⟩
    | (refine And.intro ?_ ?_ <;> (conv => whnf)))
end Dg
theorem digits_ (v : Int) (h0 : 0 ≤ v) (hn : v ≤ 1099511627776) (H : Hp) : CallO Tryz.prog 24 [pv (.int .i64 v)] H [] fun e _ G' => e = .ret (pv (.string (itoaB v))) ∧ G' = [] := by
 obtain ⟨n, rfl⟩ : ∃ n : Nat, v = n := ⟨v.toNat, by omega⟩
 exact Dg.digits n (by omega) H
abbrev sh1 : ByteArray := (⟨#[115, 101, 115, 115, 105, 111, 110, 45, 114, 101, 118, 111, 107, 101, 100]⟩ : ByteArray)
abbrev sh2 : ByteArray := (⟨#[99, 114, 101, 100, 101, 110, 116, 105, 97, 108, 45, 99, 104, 97, 110, 103, 101]⟩ : ByteArray)
abbrev sh3 : ByteArray := (⟨#[97, 99, 99, 111, 117, 110, 116, 45, 100, 105, 115, 97, 98, 108, 101, 100]⟩ : ByteArray)
abbrev sh4 : ByteArray := (⟨#[97, 99, 99, 111, 117, 110, 116, 45, 101, 110, 97, 98, 108, 101, 100]⟩ : ByteArray)
abbrev sh5 : ByteArray := (⟨#[116, 111, 107, 101, 110, 45, 99, 108, 97, 105, 109, 115, 45, 99, 104, 97, 110, 103, 101]⟩ : ByteArray)
abbrev sh6 : ByteArray := (⟨#[118, 101, 114, 105, 102, 105, 99, 97, 116, 105, 111, 110]⟩ : ByteArray)
def shortK (k : Int) : ByteArray := if k = 1 then sh1 else if k = 2 then sh2 else if k = 3 then sh3 else if k = 4 then sh4 else if k = 5 then sh5 else if k = 6 then sh6 else ⟨#[]⟩
namespace Sh
def T : Tab := [(9, { k := TK.string, agg := false, size := 1, bytes := 16, zero := [Z.s] }), (3, { k := TK.int IntKind.i64, agg := false, size := 1, bytes := 8, zero := [Z.i IntKind.i64] }), (5, { k := TK.int IntKind.u8, agg := false, size := 1, bytes := 1, zero := [Z.i IntKind.u8] }), (23, { k := TK.st [(0, 9, 1), (1, 9, 1), (2, 9, 1)], agg := true, size := 3, bytes := 48, zero := [Z.s, Z.s, Z.s] }), (4, { k := TK.bool, agg := false, size := 1, bytes := 1, zero := [Z.b] })]
set_option maxRecDepth 100000 in
theorem tab : TabOk Tryz.prog T := tabOk_mk (ts := [9, 3, 5, 23, 4]) (by kernel_rfl)
end Sh
theorem short_key (k : Int) : ∃ i : Nat, IntKind.i64.wrap (Lib.lastIndexByte (nameK k) 47 + 1) = i ∧ i ≤ (nameK k).size ∧ (nameK k).extract i (nameK k).size = shortK k ∧ (nameK k).size ≤ 1000000 := by
 by_cases hk : 1 ≤ k ∧ k ≤ 6
 ·obtain rfl | rfl | rfl | rfl | rfl | rfl : k = 1 ∨ k = 2 ∨ k = 3 ∨ k = 4 ∨ k = 5 ∨ k = 6 := by omega
  ·exact ⟨52, by decide +kernel, by decide +kernel, by decide +kernel, by decide +kernel⟩
  ·exact ⟨52, by decide +kernel, by decide +kernel, by decide +kernel, by decide +kernel⟩
  ·exact ⟨52, by decide +kernel, by decide +kernel, by decide +kernel, by decide +kernel⟩
  ·exact ⟨52, by decide +kernel, by decide +kernel, by decide +kernel, by decide +kernel⟩
  ·exact ⟨52, by decide +kernel, by decide +kernel, by decide +kernel, by decide +kernel⟩
  ·exact ⟨51, by decide +kernel, by decide +kernel, by decide +kernel, by decide +kernel⟩
 ·have e1 : nameK k = ⟨#[]⟩ := if_neg hk
  have e2 : shortK k = ⟨#[]⟩ := by
   unfold shortK
   rw [if_neg (by omega), if_neg (by omega), if_neg (by omega), if_neg (by omega), if_neg (by omega), if_neg (by omega)]
  rw [e1, e2]
  exact ⟨0, by decide +kernel, by decide +kernel, by decide +kernel, by decide +kernel⟩
theorem short_ (k : Int) (h0 : -9223372036854775808 ≤ k) (h1 : k ≤ 9223372036854775807) (H : Hp) : CallO Tryz.prog 26 [pv (.int .i64 k)] H [] fun e H' G' => e = .ret (pv (.string (shortK k))) ∧ H.Le H' ∧ G' = [] := by
 obtain ⟨i, hi, hi2, hi3, hs⟩ := short_key k
 refine CallO.of_body Sh.tab Tryz.func26 rfl (nt := Tryz.f26.ntmps) rfl (by kernel_rfl) ?_
 (conv => whnf)
 refine ⟨⟨_, Tryz.func27, rfl, by kernel_rfl⟩, CallS.use (name_ k h0 h1 H) [] rfl rfl trivial ?_⟩
 rintro e H1 G' hle1 ⟨rfl, hle1', rfl⟩
 (conv => whnf)
 refine ⟨⟨_, Tryz.func58, rfl, by kernel_rfl⟩, CallS.use (last_ (nameK k) hs 47 H1) [] rfl rfl trivial ?_⟩
 rintro e H2 G' hle2 ⟨rfl, rfl, rfl⟩
 (conv => whnf)
 rw [hi]
 refine ⟨⟨by omega, by omega⟩, ?_⟩
 (conv => whnf)
 exact ⟨by rw [← hi3]; rfl, hle1', rfl⟩
def showP (s : Sub) : ByteArray := if strEq s.fmt sIssSub then s.fmt ++ ⟨#[58]⟩ ++ s.own ++ ⟨#[32]⟩ ++ s.id else s.fmt ++ ⟨#[58]⟩ ++ s.id
theorem show_ (s : Sub) (hf : s.fmt.size ≤ 1000) (hi : s.id.size ≤ 1000) (ho : s.own.size ≤ 1000) (H : Hp) : CallO Tryz.prog 25 [.si (.ag [.val (.string s.fmt), .val (.string s.id), .val (.string s.own)])] H [] fun e H' G' => e = .ret (pv (.string (showP s))) ∧ H' = H ∧ G' = [] := by
 refine CallO.of_body Sh.tab Tryz.func25 rfl (nt := Tryz.f25.ntmps) rfl (by kernel_rfl) ?_
 (conv => whnf)
 cases hb : strEq s.fmt ⟨#[105, 115, 115, 95, 115, 117, 98]⟩
 ·rw [show showP s = s.fmt ++ ⟨#[58]⟩ ++ s.id from if_neg (fun h => by rw [show strEq s.fmt sIssSub = false from hb] at h; cases h)]
  (conv => whnf)
  refine ⟨by show s.fmt.size + 1 ≤ _; omega, ?_⟩
  (conv => whnf)
  refine ⟨by rw [ByteArray.size_append]; show s.fmt.size + 1 + s.id.size ≤ _; omega, ?_⟩
  (conv => whnf)
  exact ⟨rfl, rfl, rfl⟩
 ·rw [show showP s = s.fmt ++ ⟨#[58]⟩ ++ s.own ++ ⟨#[32]⟩ ++ s.id from if_pos hb]
  (conv => whnf)
  refine ⟨by show s.fmt.size + 1 ≤ _; omega, ?_⟩
  (conv => whnf)
  refine ⟨by rw [ByteArray.size_append]; show s.fmt.size + 1 + s.own.size ≤ _; omega, ?_⟩
  (conv => whnf)
  refine ⟨by rw [ByteArray.size_append, ByteArray.size_append]; show s.fmt.size + 1 + s.own.size + 1 ≤ _; omega, ?_⟩
  (conv => whnf)
  refine ⟨by rw [ByteArray.size_append, ByteArray.size_append, ByteArray.size_append]; show s.fmt.size + 1 + s.own.size + 1 + s.id.size ≤ _; omega, ?_⟩
  (conv => whnf)
  exact ⟨rfl, rfl, rfl⟩
end Go.Kx.Ln
namespace Go.Kx.L13
open Go.Proofs Go.Kx Go.RowKit Go.Kx.Js Go.Kx.Pr Go.Kx.Rt Go.Kx.Ob Go.Kx.Wo Go.Kx.Cl Go.Kx.Pa Go.Kx.Su Go.Kx.Se Go.Kx.Jw
set_option maxRecDepth 20000
set_option linter.unusedSimpArgs false
theorem wf64 {n : Int} (h0 : -9223372036854775808 ≤ n) (h1 : n ≤ 9223372036854775807) : (Lit.int .i64 n).wf = true := by
 have e0 : IntKind.i64.min = -9223372036854775808 := by decide
 have e1 : IntKind.i64.max = 9223372036854775807 := by decide
 simp [Lit.wf, e0, e1, h0, h1]
theorem fit_right {c : Clm} (h : RightC c) : FitC c := by
 have hm : 256 ≤ maxLen := by decide
 have w : ∀ {s : ByteArray}, Wo.wordP 256 s = true → s.size ≤ maxLen := fun hw => Nat.le_trans (word_size hw).1 hm
 have hs : c.sub.fmt.size ≤ maxLen ∧ c.sub.id.size ≤ maxLen ∧ c.sub.own.size ≤ maxLen := by
  rcases sub_cases h.sub with ⟨id, e, h1⟩ | ⟨id, e, h1, h2⟩ | ⟨id, own, e, h1, h2⟩
  ·rw [e]; exact ⟨(by decide : sOpaque.size ≤ maxLen), w h1, Nat.zero_le _⟩
  ·rw [e]; exact ⟨(by decide : sEmail.size ≤ maxLen), w h1, Nat.zero_le _⟩
  ·rw [e]; exact ⟨(by decide : sIssSub.size ≤ maxLen), w h1, w h2⟩
 exact ⟨w h.iss, w h.jti, w h.aud, wf64 (by have := h.iat; omega) (by have := h.iat; omega), w h.txn, hs.1, hs.2.1, hs.2.2, wf64 (by have := h.kind; omega) (by have := h.kind; omega), Nat.le_trans (reason_size h) hm⟩
theorem fit0 : FitC clm0 := ⟨by decide, by decide, by decide, by decide, by decide, by decide, by decide, by decide, by decide, by decide⟩
theorem read_right {s : ByteArray} {key : List UInt8} {c : Clm} (h : readP s key = .ok c) : RightC c := by
 unfold readP at h
 split at h
 ·cases h
 split at h
 ·cases h
 split at h
 ·cases h
 split at h
 ·cases h
 split at h
 ·cases h
 ·rename_i hc
  injection h with h
  subst h
  exact (of_some hc).1
def clX : Except Int Clm → Clm
 | .ok c => c
 | .error _ => clm0
def nX : Except Int Clm → Int
 | .ok _ => 0
 | .error x => x
theorem rcl {X : Except Int Clm} {e : SE} (h : RCl X e) : e = .ret (.tu [.ag (csC (clX X)), .ce (.val (.int .i64 (nX X)))]) := by
 cases X with
 | ok c => exact h
 | error x => exact h
theorem fitX {s : ByteArray} {key : List UInt8} : FitC (clX (readP s key)) := by
 cases h : readP s key with
 | ok c => exact fit_right (read_right h)
 | error x => exact fit0
theorem eqClm {o : Oper} {x y : Operand} (ho : o.op = .binOp .eql 25 x y 25) {F : Fr} {H : Hp} {G : List SB} {K : SV → Prop} (c d : Clm)
  (hx : evX x F fun sv => sv = .si (.ag ((cellsC c).map SC.val))) (hy : evX y F fun sv => sv = .si (.ag ((cellsC d).map SC.val))) (fc : FitC c) (fd : FitC d) (h : ∀ r : Bool, (r = true ↔ c = d) → K (pv (.bool r))) : QO Tryz.prog o F H G K :=
 QO.agg ho (cellsC c) (cellsC d) ksC hx hy gC kC sC (fC _) (fC _) fc.lits fd.lits fun r hr => .inl ⟨rfl, h r (hr.trans cellsC_inj)⟩
end Go.Kx.L13
namespace Go.Kx.Ln
open Go.Proofs Go.Kx Go.RowKit Go.Kx.Js Go.Kx.Pr Go.Kx.Cl Go.Kx.Se Go.Kx.Lb Go.Kx.Ob
set_option maxRecDepth 20000
set_option linter.unusedSimpArgs false
namespace Li
def T : Tab := [(9, { k := TK.string, agg := false, size := 1, bytes := 16, zero := [Z.s] }), (3, { k := TK.int IntKind.i64, agg := false, size := 1, bytes := 8, zero := [Z.i IntKind.i64] }), (25, { k := TK.st [(0, 9, 1), (1, 9, 1), (2, 9, 1), (3, 3, 1), (4, 9, 1), (5, 23, 3), (8, 3, 1), (9, 9, 1)], agg := true, size := 10, bytes := 144, zero := [Z.s, Z.s, Z.s, Z.i IntKind.i64, Z.s, Z.s, Z.s, Z.s, Z.i IntKind.i64, Z.s] }), (23, { k := TK.st [(0, 9, 1), (1, 9, 1), (2, 9, 1)], agg := true, size := 3, bytes := 48, zero := [Z.s, Z.s, Z.s] }), (35, { k := TK.int IntKind.i64, agg := false, size := 1, bytes := 8, zero := [Z.i IntKind.i64] }), (4, { k := TK.bool, agg := false, size := 1, bytes := 1, zero := [Z.b] }), (101, { k := TK.func, agg := false, size := 1, bytes := 8, zero := [Z.fn] })]
set_option maxRecDepth 100000 in
theorem tab : TabOk Tryz.prog T := tabOk_mk (ts := [9, 3, 25, 23, 35, 4, 101]) (by kernel_rfl)
end Li
def lineS (c : Clm) : ByteArray := c.jti ++ ⟨#[32]⟩ ++ itoaB c.iat ++ ⟨#[32]⟩ ++ shortK c.kind ++ ⟨#[32, 116, 111, 32]⟩ ++ c.aud ++ ⟨#[58, 32]⟩ ++ showP c.sub
def lineT (c : Clm) : ByteArray := if strEq c.reason ⟨#[]⟩ then lineS c else lineS c ++ (⟨#[32, 40]⟩ ++ c.reason ++ ⟨#[41]⟩)
def mapB (s : ByteArray) : ByteArray := ⟨(Lib.mapD ctl s.data.toList).toArray⟩
def lineP (c : Clm) : ByteArray × Int := if clRight c then (mapB (lineT c), 0) else (⟨#[]⟩, 10)
theorem short_size (k : Int) : (shortK k).size ≤ 20 := by
 unfold shortK
 repeat' split
 all_goals decide
theorem show_size (s : Sub) : (showP s).size ≤ s.fmt.size + s.own.size + s.id.size + 2 := by
 have z1 : (⟨#[58]⟩ : ByteArray).size = 1 := rfl
 have z2 : (⟨#[32]⟩ : ByteArray).size = 1 := rfl
 unfold showP
 split <;> simp only [ByteArray.size_append, z1, z2] <;> omega
theorem itoa_size {n : Int} (h0 : 0 ≤ n) (h1 : n ≤ 1099511627776) : (itoaB n).size ≤ 15 := by
 obtain ⟨m, rfl⟩ : ∃ m : Nat, n = m := ⟨n.toNat, by omega⟩
 exact Rf.Dg.itoa_le m (by omega)
theorem size_right {c : Clm} (h : RightC c) : c.iss.size ≤ 256 ∧ c.jti.size ≤ 256 ∧ c.aud.size ≤ 256 ∧ c.sub.fmt.size ≤ 256 ∧ c.sub.id.size ≤ 256 ∧ c.sub.own.size ≤ 256 ∧ c.reason.size ≤ 256 := by
 have w : ∀ {s : ByteArray}, Wo.wordP 256 s = true → s.size ≤ 256 := fun hw => (Jw.word_size hw).1
 have hs : c.sub.fmt.size ≤ 256 ∧ c.sub.id.size ≤ 256 ∧ c.sub.own.size ≤ 256 := by
  rcases sub_cases h.sub with ⟨id, e, h1⟩ | ⟨id, e, h1, h2⟩ | ⟨id, own, e, h1, h2⟩
  ·rw [e]; exact ⟨(by decide : sOpaque.size ≤ 256), w h1, Nat.zero_le _⟩
  ·rw [e]; exact ⟨(by decide : sEmail.size ≤ 256), w h1, Nat.zero_le _⟩
  ·rw [e]; exact ⟨(by decide : sIssSub.size ≤ 256), w h1, w h2⟩
 exact ⟨w h.iss, w h.jti, w h.aud, hs.1, hs.2.1, hs.2.2, reason_size h⟩
theorem line0 (a b c : ByteArray) (n : Int) (t f i o : ByteArray) (k : Int) (r : ByteArray) (hk : -9223372036854775808 ≤ k ∧ k ≤ 9223372036854775807) (H : Hp) (hU : U8H H) :
  CallO Tryz.prog 23 [.si (.ag (cs10 a b c n t f i o k r))] H [] fun e H' G' => e = .ret (.tu [.ce (.val (.string (lineP ⟨a, b, c, n, t, ⟨f, i, o⟩, k, r⟩).1)), .ce (.val (.int .i64 (lineP ⟨a, b, c, n, t, ⟨f, i, o⟩, k, r⟩).2))]) ∧ H.Le H' ∧ G' = [] := by
 have hri := right_iff ⟨a, b, c, n, t, ⟨f, i, o⟩, k, r⟩
 unfold lineP
 refine CallO.of_body Li.tab Tryz.func23 rfl (nt := Tryz.f23.ntmps) rfl (by kernel_rfl) ?_
 (conv => whnf)
 refine ⟨⟨_, Tryz.func11, rfl, by kernel_rfl⟩, CallS.use (right0 a b c n t f i o k r hk H) [] rfl rfl trivial ?_⟩
 rintro e H1 G' hle1 ⟨rfl, hle1', rfl⟩
 cases hr : clRight ⟨a, b, c, n, t, ⟨f, i, o⟩, k, r⟩
 all_goals (conv => whnf)
 ·exact ⟨rfl, hle1', rfl⟩
 have hR := hri.1 hr
 have hn0 := hR.iat.1
 have hn1 := hR.iat.2
 have sz := size_right hR
 dsimp only at sz
 obtain ⟨s1, s2, s3, s4, s5, s6, s7⟩ := sz
 dsimp only at hn0 hn1
 have s8 := itoa_size hn0 hn1
 have s9 := short_size k
 have s10 := show_size ⟨f, i, o⟩
 dsimp only at s10
 have z1 : (⟨#[32]⟩ : ByteArray).size = 1 := rfl
 have z2 : (⟨#[32, 116, 111, 32]⟩ : ByteArray).size = 4 := rfl
 have z3 : (⟨#[58, 32]⟩ : ByteArray).size = 2 := rfl
 refine WS.draw Li.tab Ob.mixed (.take 0 (.take 1 (.take 2 (.take 3 (.take 4 (.take 8 (.take 9 (.take 13 (.take 14 (.take 17 (.take 18 (.alt 5 (.take 6 (.take 7 (.alt 10 (.take 11 (.take 12 (.take 15 (.take 16 (.alt 19 (.take 20 (.take 21 .done)) .no))))) .no))) .no)))))))))))) (by kernel_rfl) [] ?_
 (conv => whnf)
 repeat' (first
  | exact trivial
  | exact rfl
  | exact ⟨rfl, trivial⟩
  | exact ⟨_, Tryz.func49, rfl, by kernel_rfl⟩
  | exact ⟨_, Tryz.func26, rfl, by kernel_rfl⟩
  | exact ⟨_, Tryz.func25, rfl, by kernel_rfl⟩
  | (refine CallS.use (Lb.itoa n (by omega) (by omega) _ []) [] rfl rfl trivial ?_; rintro e H6 G' hle7 ⟨rfl, rfl, rfl⟩; (conv => whnf))
  | (refine CallS.use (short_ k hk.1 hk.2 _) [] rfl rfl trivial ?_; rintro e H7 G' hle8 ⟨rfl, hle8', rfl⟩; (conv => whnf))
  | (refine CallS.use (show_ ⟨f, i, o⟩ (Nat.le_trans s4 (by decide)) (Nat.le_trans s5 (by decide)) (Nat.le_trans s6 (by decide)) _) [] rfl rfl trivial ?_; rintro e H8 G' hle9 ⟨rfl, rfl, rfl⟩; (conv => whnf))
  | (refine ⟨by simp only [ByteArray.size_append, z1, z2, z3]; omega, ?_⟩; (conv => whnf))
  | (refine And.intro ?_ ?_ <;> (conv => whnf)))
 have hT1 : H.Le H8 := hle1'.trans hle8'
 have z4 : (⟨#[32, 40]⟩ : ByteArray).size = 2 := rfl
 have z5 : (⟨#[41]⟩ : ByteArray).size = 1 := rfl
 have hm : ∀ s : ByteArray, s.size ≤ 1000000 → CallO Tryz.prog 56 [.si (.ce (.fn (.func 57) 0 [])), pv (.string s)] H8 [] fun e H' G' => e = .ret (pv (.string (mapB s))) ∧ H' = H8 ∧ G' = [] := fun s hs => fnArg (map_ s hs H8 (hU.mono hT1))
 cases hb : strEq r ⟨#[]⟩
 ·rw [show lineT ⟨a, b, c, n, t, ⟨f, i, o⟩, k, r⟩ = lineS ⟨a, b, c, n, t, ⟨f, i, o⟩, k, r⟩ ++ (⟨#[32, 40]⟩ ++ r ++ ⟨#[41]⟩) from if_neg (fun h => by rw [show strEq r ⟨#[]⟩ = false from hb] at h; cases h)]
  (conv => whnf)
  refine ⟨by simp only [ByteArray.size_append, z4]; omega, ?_⟩
  (conv => whnf)
  refine ⟨by simp only [ByteArray.size_append, z4, z5]; omega, ?_⟩
  (conv => whnf)
  refine ⟨by simp only [ByteArray.size_append, z1, z2, z3, z4, z5]; omega, ?_⟩
  (conv => whnf)
  refine ⟨⟨_, Tryz.func56, rfl, by kernel_rfl⟩, CallS.use (hm (lineS ⟨a, b, c, n, t, ⟨f, i, o⟩, k, r⟩ ++ (⟨#[32, 40]⟩ ++ r ++ ⟨#[41]⟩)) (by unfold lineS; simp only [ByteArray.size_append, z1, z2, z3, z4, z5]; omega)) [] rfl rfl trivial ?_⟩
  rintro e H9 G' hle10 ⟨rfl, rfl, rfl⟩
  (conv => whnf)
  exact ⟨rfl, hT1, rfl⟩
 ·rw [show lineT ⟨a, b, c, n, t, ⟨f, i, o⟩, k, r⟩ = lineS ⟨a, b, c, n, t, ⟨f, i, o⟩, k, r⟩ from if_pos hb]
  (conv => whnf)
  refine ⟨⟨_, Tryz.func56, rfl, by kernel_rfl⟩, CallS.use (hm (lineS ⟨a, b, c, n, t, ⟨f, i, o⟩, k, r⟩) (by unfold lineS; simp only [ByteArray.size_append, z1, z2, z3]; omega)) [] rfl rfl trivial ?_⟩
  rintro e H9 G' hle10 ⟨rfl, rfl, rfl⟩
  (conv => whnf)
  exact ⟨rfl, hT1, rfl⟩
end Go.Kx.Ln
namespace Go.Kx.Ln
open Go.Proofs Go.Kx Go.RowKit Go.Kx.Js Go.Kx.Pr Go.Kx.Cl Go.Kx.Se Go.Kx.Lb Go.Kx.Ob
set_option maxRecDepth 20000
set_option linter.unusedSimpArgs false
theorem app_told {a b : ByteArray} (ha : Ro.Told a.data.toList) (hb : Ro.Told b.data.toList) : Ro.Told (a ++ b).data.toList := by
 rw [ByteArray.data_append, Array.toList_append]
 exact ha.append hb
theorem lit_told {a : ByteArray} (h : a.data.toList.all (fun c => decide (c.toNat < 128)) = true) : Ro.Told a.data.toList := Ro.Told.ascii h
theorem dec_told (n : Nat) : (Lib.decDigits n).all (fun c => decide (c.toNat < 128)) = true := by
 induction n using Nat.strongRecOn with
 | _ n ih =>
  by_cases h : n < 10
  ·rw [Lib.decDigits_one h]
   simp
   omega
  ·rw [Lb.decDigits_big h, List.all_append, ih (n / 10) (by omega)]
   simp
   omega
theorem itoa_told {n : Int} (h0 : 0 ≤ n) : Ro.Told (itoaB n).data.toList := by
 obtain ⟨m, rfl⟩ : ∃ m : Nat, n = m := ⟨n.toNat, by omega⟩
 unfold itoaB
 rw [Rf.Dg.itoa_nat]
 exact Ro.Told.ascii (dec_told m)
theorem short_told (k : Int) : Ro.Told (shortK k).data.toList := by
 unfold shortK
 repeat' split
 all_goals exact lit_told (by decide)
theorem show_told {s : Sub} (h : subRight s = true) : Ro.Told (showP s).data.toList := by
 have w : ∀ {s : ByteArray}, Wo.wordP 256 s = true → Ro.Told s.data.toList := fun hw => Jw.word_told hw
 have hs : Ro.Told s.fmt.data.toList ∧ Ro.Told s.id.data.toList ∧ Ro.Told s.own.data.toList := by
  rcases sub_cases h with ⟨id, e, h1⟩ | ⟨id, e, h1, h2⟩ | ⟨id, own, e, h1, h2⟩
  ·rw [e]; exact ⟨lit_told (by decide : (sOpaque.data.toList.all (fun c => decide (c.toNat < 128))) = true), w h1, .nil⟩
  ·rw [e]; exact ⟨lit_told (by decide : (sEmail.data.toList.all (fun c => decide (c.toNat < 128))) = true), w h1, .nil⟩
  ·rw [e]; exact ⟨lit_told (by decide : (sIssSub.data.toList.all (fun c => decide (c.toNat < 128))) = true), w h1, w h2⟩
 unfold showP
 split
 ·exact app_told (app_told (app_told (app_told hs.1 (lit_told (by decide))) hs.2.2) (lit_told (by decide))) hs.2.1
 ·exact app_told (app_told hs.1 (lit_told (by decide))) hs.2.1
theorem line_told {c : Clm} (h : RightC c) : Ro.Told (lineT c).data.toList := by
 have w : ∀ {s : ByteArray}, Wo.wordP 256 s = true → Ro.Told s.data.toList := fun hw => Jw.word_told hw
 have hS : Ro.Told (lineS c).data.toList := by
  unfold lineS
  exact app_told (app_told (app_told (app_told (app_told (app_told (app_told (app_told (w h.jti) (lit_told (by decide))) (itoa_told h.iat.1)) (lit_told (by decide))) (short_told _)) (lit_told (by decide))) (w h.aud)) (lit_told (by decide))) (show_told h.sub)
 unfold lineT
 split
 ·exact hS
 ·have hr : Ro.Told c.reason.data.toList := by
   rcases h.reason with e | e
   ·rw [e]; exact .nil
   ·exact w e
  exact app_told hS (app_told (app_told (lit_told (by decide)) hr) (lit_told (by decide)))
theorem line_map {c : Clm} (h : RightC c) : mapB (lineT c) = ⟨((lineT c).data.toList.map low).toArray⟩ := by
 unfold mapB
 rw [map_told (line_told h)]
theorem line_size {c : Clm} (h : RightC c) : (lineT c).size ≤ 4000 := by
 obtain ⟨s1, s2, s3, s4, s5, s6, s7⟩ := size_right h
 have s8 := itoa_size h.iat.1 h.iat.2
 have s9 := short_size c.kind
 have s10 := show_size c.sub
 have z1 : (⟨#[32]⟩ : ByteArray).size = 1 := rfl
 have z2 : (⟨#[32, 116, 111, 32]⟩ : ByteArray).size = 4 := rfl
 have z3 : (⟨#[58, 32]⟩ : ByteArray).size = 2 := rfl
 have z4 : (⟨#[32, 40]⟩ : ByteArray).size = 2 := rfl
 have z5 : (⟨#[41]⟩ : ByteArray).size = 1 := rfl
 unfold lineT lineS
 split <;> simp only [ByteArray.size_append, z1, z2, z3, z4, z5] <;> omega
end Go.Kx.Ln
namespace Go.Kx
open Go.RowKit Go.Lib
theorem St.lend {w0 : World} {M : Nat → Prop} (hgd : Gd w0 M) {H0 : Hp} {ρ : List Value} {H : Hp} {G : List SB} {w : World} (h : St w0 M H0 ρ H G w) {k : Nat} {t : TypeId} {sz n : Nat} {xs : List Value} (hk : G[k]? = some (.row t sz n xs)) (hz : n = 0 → xs = []) :
  ∃ x H1 M1, St w M1 H1 ρ H1 (G.set k .dead) w ∧ H.Le H1 ∧ Frozen H1 x n xs ∧ ρ[k]? = some x ∧ Gd w M1 ∧
   ∀ ρ' H' G' w1, St w M1 H1 ρ' H' G' w1 → St w0 M H0 (ρ' ++ [x]) H (G' ++ [.row t sz n xs]) w1 := by
 obtain ⟨x, H1, a1, a2, a3, a4⟩ := h.frz hk hz
 have a5 := a1.kill k
 rw [List.set_set] at a5
 refine ⟨x, H1, fun g => ∃ j, blkAt ρ (G.set k .dead) j = some g, ⟨rfl, rfl, rfl, Nat.le_refl _, fun _ _ _ => rfl, .refl _, a5.hin, fun _ _ _ e => .inl e, a5.len, a5.ok, fun j g hg => ⟨.inr ⟨j, hg⟩, (a5.own j g hg).2⟩, a5.inj⟩, a2, a3, a4, a5.gd hgd fun b hb => hb, ?_⟩
 intro ρ' H' G' w1 h1
 have a2 := a2.trans h1.hle
 have hok : (SB.row t sz n xs).Ok ρ w x := h.ok k _ _ hk a4
 have hbk : blkAt ρ G k = (SB.row t sz n xs).blk x := blkAt_eq hk a4
 have hM : ∀ g, (∃ j, blkAt ρ (G.set k .dead) j = some g) → w0.heap.size ≤ g ∨ M g := fun g ⟨j, hj⟩ => (a5.own j g hj).1
 have hself : ∀ g, (SB.row t sz n xs).blk x = some g → g < w.heap.size ∧ ¬ ∃ j, blkAt ρ (G.set k .dead) j = some g := fun g hg =>
  ⟨hok.lt hg, fun ⟨j, hj⟩ => (blkAt_dead hj).1 (h.inj j k g (blkAt_dead hj).2 (hbk.trans hg))⟩
 have hbase : St w0 M H0 ρ' H G' w1 := by
  refine ⟨h1.os.trans h.os, h1.tape.trans h.tape, h1.output.trans h.output, Nat.le_trans h.size h1.size, fun b hb hnm => ?_, h.hle, fun b o v e => h1.hin b o v (a2 b o v e), h.hnew, h1.len, h1.ok, fun j g hg => ⟨?_, fun o => ?_⟩, h1.inj⟩
  ·have hs := h.size
   have hnM : ¬ ∃ j, blkAt ρ (G.set k .dead) j = some b := fun hm => by
    rcases hM b hm with h2 | h2
    ·omega
    ·exact hnm h2
   exact (h1.old b (by omega) hnM).trans (h.old b hb hnm)
  ·rcases (h1.own j g hg).1 with h2 | h2
   ·have hs := h.size
    exact .inl (by omega)
   ·exact hM g h2
  ·have h2 := (h1.own j g hg).2 o
   cases h3 : H g o with
   | none => rfl
   | some v => rw [a2 g o v h3] at h2; cases h2
 refine hbase.adopt (s := .row t sz n xs) (r := x) (hok.move (w' := w1) fun g hg => h1.old g (hself g hg).1 (hself g hg).2) fun g hg => ?_
 have h2 := h.own k g (hbk.trans hg)
 refine ⟨h2.1, h2.2, fun j hj => ?_⟩
 rcases (h1.own j g hj).1 with h3 | h3
 ·have := (hself g hg).1; omega
 ·exact (hself g hg).2 h3
section
variable {P : Program} {n e : Nat} {D : Pin}
def backF (x : Value) (j : Nat) (F' F2 : Fr) : Prop := ∀ p ∈ F2, p ∈ F' ∨ (p.2 = .si (.ce (.self j)) ∧ (p.1, .si (.ce (.val x))) ∈ F')
noncomputable def tailC (c : Code) (d : Nat) : Code :=
 @Code.rec (fun _ => Nat → Code) (fun _ => .skip) (fun id ops draw _ => .region id ops draw)
  (fun x y _ ihy d => @Nat.rec (fun _ => Code) (.seq x y) (fun d' _ => ihy d') d)
  (fun c x y _ _ _ => .cond c x y) (fun id c _ _ => .block id c) (fun c _ _ => .loop c) (fun f p a b _ _ _ => .rangeFunc f p a b)
  (fun id _ => .exit id) (fun c _ _ => .scope c) (fun l _ => .label l) (fun l _ => .goto l) (fun _ => .ret) (fun m _ => .refuse m) c d
def codeXS (P : Program) (T : Tab) (n e : Nat) (D : Pin) (c : Code) (d : Nat) (Q : Fr → Hp → List SB → Prop) (K : KT) (F : Fr) (H : Hp) (G : List SB) : Prop :=
 @Code.rec (fun _ => Nat → Fr → Hp → List SB → Prop) (fun _ => Q) (fun _ _ _ _ => Q)
  (fun x _ _ ihy d F H G => @Nat.rec (fun _ => Prop) (Q F H G) (fun d' _ => codeX P T n e D x (thenK (ihy d') K) F H G) d)
  (fun _ _ _ _ _ _ => Q) (fun _ _ _ _ => Q) (fun _ _ _ => Q) (fun _ _ _ _ _ _ _ => Q)
  (fun _ _ => Q) (fun _ _ _ => Q) (fun _ _ => Q) (fun _ _ => Q) (fun _ => Q) (fun _ _ => Q) c d F H G
def isSeq : Code → Bool
 | .seq _ _ => true
 | _ => false
theorem isSeq_of {c : Code} (h : isSeq c = true) : ∃ x y, c = .seq x y := by
 cases c <;> first | exact ⟨_, _, rfl⟩ | cases h
theorem tailC_no {c : Code} {d : Nat} (h : isSeq c = false) : tailC c d = c := by
 cases c <;> first | rfl | cases h
theorem codeXS_no {T : Tab} {c : Code} {d : Nat} {Q : Fr → Hp → List SB → Prop} {K : KT} {F : Fr} {H : Hp} {G : List SB} (hc : isSeq c = false) (h : codeXS P T n e D c d Q K F H G) : Q F H G := by
 cases c <;> first | exact h | cases hc
theorem W.ofL {T : Tab} (hT : TabOk P T) {K : KT} {H0 : Hp} : ∀ (d : Nat) (c : Code) {Q : Fr → Hp → List SB → Prop} {F : Fr} {H : Hp} {G : List SB}, H0.Le H → codeXS P T n e D c d Q K F H G → (∀ F' H' G', H0.Le H' → Q F' H' G' → W P n e D (tailC c d) K F' H' G') → W P n e D c K F H G := by
 intro d
 induction d with
 | zero =>
  intro c Q F H G hle h h2
  cases hc : isSeq c with
  | true => obtain ⟨x, y, rfl⟩ := isSeq_of hc; exact h2 _ _ _ hle h
  | false => have := h2 _ _ _ hle (codeXS_no hc h); rwa [tailC_no hc] at this
 | succ d ih =>
  intro c Q F H G hle h h2
  cases hc : isSeq c with
  | true =>
   obtain ⟨x, y, rfl⟩ := isSeq_of hc
   have h' : codeX P T n e D x (thenK (codeXS P T n e D y d Q K) K) F H G := h
   refine W.seq (W.mono (codeX_ok hT x h') fun xx F' H' G' hle2 he => ?_)
   cases xx with
   | normal => exact ih y (hle.trans hle2) he h2
   | _ => exact he
  | false => have := h2 _ _ _ hle (codeXS_no hc h); rwa [tailC_no hc] at this
theorem codeL.cutTo {T : Tab} (hT : TabOk P T) (d : Nat) {c : Code} {K : KT} {F : Fr} {H : Hp} {G : List SB} (I : Fr → Hp → List SB → Prop) (h : codeXS P T n e D c d (Meets e I) K F H G)
  (h2 : ∀ F' H' G', H.Le H' → I F' H' G' → codeL P n e D (tailC c d) K F' H' G') : codeL P n e D c K F H G :=
 ⟨W.ofL (H0 := H) hT d c (.refl _) h fun F' H' G' hle he => by
  obtain ⟨F2, G2, σ, h1, h3, h4, h5⟩ := he
  exact W.sub σ (h2 F2 H' G2 hle h1).to h3 h4 h5⟩
theorem codeL.lend {T : Tab} (hT : TabOk P T) (d : Nat) {c : Code} {K : KT} {F : Fr} {H : Hp} {G : List SB} (k : Nat) {t : TypeId} {sz m : Nat} {xs : List Value} (hk : G[k]? = some (.row t sz m xs)) (hz : m = 0 → xs = [])
  (h : ∀ x0 H1, H.Le H1 → Frozen H1 x0 m xs → codeXS P T n e D c d (fun F' _ G' => ∃ F2, backF x0 G'.length F' F2 ∧ codeL P n e D (tailC c d) K F2 H (G' ++ [.row t sz m xs])) (fun _ _ _ _ => False) (frameAt k x0 F) H1 ((G.set k .dead).map (SB.at k x0))) :
  codeL P n e D c K F H G := by
 refine ⟨fun w0 M hgd H0 ρ a w hs hf hd hn => ?_⟩
 obtain ⟨x0, H1, M1, b1, b2, b3, b4, b5, b6⟩ := hs.lend hgd hk hz
 have hf' : FOk ρ (frameAt k x0 F) a.tmps := by
  intro i sv hi
  obtain ⟨⟨j, s⟩, hm, he⟩ := List.mem_map.1 hi
  injection he with e1 e2; subst e1 e2
  obtain ⟨v, h1, h2⟩ := hf j s hm
  exact ⟨v, h1, h2.at b4⟩
 have fin : ∀ (z : Code) (ρ' : List Value) (F' : Fr) (H' : Hp) (G' : List SB) (a : Act) (w1 : World), PreE e ρ ρ' → St w M1 H1 ρ' H' G' w1 → FOk ρ' F' a.tmps → D.On a → a.tmps.size = n →
   (∃ F2, backF x0 G'.length F' F2 ∧ codeL P n e D z K F2 H (G' ++ [.row t sz m xs])) → z.wp P (PostX n e D w0 M H0 ρ H K) a w1 := by
  rintro z ρ' F' H' G' a w1 hp hs2 hf2 hd2 hn2 ⟨F2, c6, c7⟩
  refine wp_mono (c7.to w0 M hgd H0 (ρ' ++ [x0]) a w1 (b6 ρ' H' G' w1 hs2) ?_ hd2 hn2) (PostX.le (hp.trans (Pre.append _ _).toE) (.refl _))
  rintro i sv hi
  rcases c6 _ hi with hi | ⟨hsv, hi⟩
  ·exact (hf2.mono (Pre.append _ _)) i sv hi
  ·obtain ⟨v, d1, d2⟩ := hf2 i _ hi
   obtain rfl : v = x0 := d2
   obtain rfl : sv = _ := hsv
   refine ⟨v, d1, ?_⟩
   show (ρ' ++ [v])[G'.length]? = some v
   rw [← hs2.len]; simp
 have go : ∀ (d : Nat) (c : Code) (ρ' : List Value) (F' : Fr) (H' : Hp) (G' : List SB) (a : Act) (w1 : World), PreE e ρ ρ' → St w M1 H1 ρ' H' G' w1 → FOk ρ' F' a.tmps → D.On a → a.tmps.size = n →
   codeXS P T n e D c d (fun F' _ G' => ∃ F2, backF x0 G'.length F' F2 ∧ codeL P n e D (tailC c d) K F2 H (G' ++ [.row t sz m xs])) (fun _ _ _ _ => False) F' H' G' → c.wp P (PostX n e D w0 M H0 ρ H K) a w1 := by
  intro d
  induction d with
  | zero =>
   intro c ρ' F' H' G' a w1 hp hs2 hf2 hd2 hn2 hw
   cases hc : isSeq c with
   | true => obtain ⟨x, y, rfl⟩ := isSeq_of hc; exact fin _ ρ' F' H' G' a w1 hp hs2 hf2 hd2 hn2 hw
   | false => have h2 := codeXS_no hc hw; rw [tailC_no hc] at h2; exact fin c ρ' F' H' G' a w1 hp hs2 hf2 hd2 hn2 h2
  | succ d ih =>
   intro c ρ' F' H' G' a w1 hp hs2 hf2 hd2 hn2 hw
   cases hc : isSeq c with
   | true =>
    obtain ⟨x, y, rfl⟩ := isSeq_of hc
    have hw' : codeX P T n e D x (thenK (codeXS P T n e D y d (fun F' _ G' => ∃ F2, backF x0 G'.length F' F2 ∧ codeL P n e D (tailC y d) K F2 H (G' ++ [.row t sz m xs])) (fun _ _ _ _ => False)) (fun _ _ _ _ => False)) F' H' G' := hw
    refine wp_seq (wp_mono (codeX_ok hT x hw' w M1 b5 H1 ρ' a w1 hs2 hf2 hd2 hn2) fun xx a1 w1 he => ?_)
    cases xx with
    | normal =>
     obtain ⟨h1, h0, F3, ρ3, H3, G3, h2, hq, h3, h4, h5⟩ := he
     exact ih y ρ3 F3 H3 G3 a1 w1 (hp.trans hq) h2 h3 h1 h0 h5
    | outgrown => exact he.elim
    | panic ch => obtain ⟨_, _, _, _, _, _, _, h7⟩ := he; exact h7.elim
    | _ => obtain ⟨_, _, _, _, _, _, _, _, _, _, h7⟩ := he; exact h7.elim
   | false => have h2 := codeXS_no hc hw; rw [tailC_no hc] at h2; exact fin c ρ' F' H' G' a w1 hp hs2 hf2 hd2 hn2 h2
 exact go d c ρ (frameAt k x0 F) H1 _ a w (.refl _ _) (b1.atAll b4) hf' hd hn (h x0 H1 b2 b3)
theorem codeL.nilCell {c : Code} {K : KT} {F : Fr} {H : Hp} {G : List SB} (k i : Nat) {t : TypeId} {cs : List SC} (et sz : Nat) (hk : G[k]? = some (.box t cs)) (hi : cs[i]? = some (.val (.slice none 0 0)))
  (h : codeL P n e D c K F H (G.set k (.box t (cs.set i (.self G.length))) ++ [.row et sz 0 []])) : codeL P n e D c K F H G :=
 ⟨fun w0 M hgd H0 _ a w hs hf hd hn => wp_mono (h.to w0 M hgd H0 _ a w (hs.nilCell et sz hk hi) (hf.mono (Pre.append _ _)) hd hn) (PostX.le (Pre.append _ _).toE (.refl _))⟩
theorem codeL.seqBlock {id : Nat} {c y : Code} {K : KT} {F : Fr} {H : Hp} {G : List SB} (h : codeL P n e D c (blockK id (thenK (codeL P n e D y K) K)) F H G) : codeL P n e D (.seq (.block id c) y) K F H G :=
 ⟨W.seq (W.block (W.mono h.to fun xx F' H' G' _ he => by
  cases xx with
  | normal => exact he.to
  | exit j =>
   simp only [blockK] at he ⊢
   split
   ·rename_i hj; rw [hj] at he; exact he.to
   ·rename_i hj; rw [hj] at he; exact he
  | _ => exact he))⟩
theorem codeL.veil {c : Code} {K : KT} {F : Fr} {H : Hp} {G : List SB} (i : Nat) (x : Value) (hx : x.ownBlock = none) (hi : getX F i fun sv => sv = pv x) (h : codeL P n e D c K ((i, .si (.ce (.self G.length))) :: F) H (G ++ [.frz x])) : codeL P n e D c K F H G := by
 obtain ⟨sv, h1, h2⟩ := getX_ok hi
 subst h2
 refine ⟨fun w0 M hgd H0 ρ a w hs hf hd hn => ?_⟩
 have hs' := hs.adopt (s := .frz x) (r := x) rfl (fun g hg => by cases hg)
 obtain ⟨v, h3, h4⟩ := hf i _ h1
 have h4' : v = x := h4
 subst h4'
 refine wp_mono (h.to w0 M hgd H0 _ a w hs' ?_ hd hn) (PostX.le (Pre.append _ _).toE (.refl _))
 intro j sv hm
 rcases List.mem_cons.1 hm with hm | hm
 ·injection hm with e1 e2; subst e1 e2
  refine ⟨_, h3, ?_⟩
  show (ρ ++ [v])[G.length]? = some _
  rw [← hs.len]; simp
 ·exact (hf.mono (Pre.append _ _)) j sv hm
theorem LO.s2bByt {o : Oper} {s d t : TypeId} {x : Operand} (ho : o.op = .convert s d x) {u : TypeDesc} (hs : P.underlying s = some u) (hd : P.underlying d = some (.slice t)) (he : P.underlying t = some (.int .u8)) {F : Fr} {H : Hp} {G : List SB} {K : SV → Hp → List SB → Prop} {Kp : List PanicEntry → Hp → List SB → Prop}
  (k : Nat) {str : ByteArray} (hx : evX x F fun sv => sv = .si (.ce (.self k))) (hk : G[k]? = some (.frz (.string str))) (h : K (.si (.ce (.self G.length))) H (G ++ [.byt t str.size (byteCells str)])) : LO P o F H G K Kp := by
 intro w0 M hgd H0 ρ a w hst hf
 obtain ⟨sx, rfl, hxv⟩ := evX_ok hx
 have hv1 : ρ[k]? = some (a.eval x) := hxv ρ a hf
 have hv : a.eval x = .string str := hst.ok k _ _ hk hv1
 have hrun : (execOp a.eval o).run P w = .ok (.value (.slice (some ⟨w.heap.size, 0, none⟩) str.size (grownCap w str.size 0 t))) (bytesWorld w t str) := by
  simp [execOp, ho, hv, Go.Lib.run_convert_string_bytes w s d t str hs hd he]
 rw [hrun]
 have hgr : w.grownBy (bytesWorld w t str) none := ⟨rfl, rfl, rfl, by rw [bytesWorld_size]; omega, fun k hk _ => bytesWorld_at_old w t str k hk⟩
 have h1 := hst.grew hgr (fun g hg => by cases hg)
 have hcs : (byteCells str).length = str.size := by rw [byteCells_map, List.length_map, List.length_map, Array.length_toList]; rfl
 have hsz : str.size ≤ (bytesCells w t str).size := by simp [bytesCells]
 have htk : (bytesCells w t str).toList.take str.size = byteCells str := by
  apply List.ext_getElem?
  intro i
  rw [List.getElem?_take]
  by_cases hi : i < str.size
  ·rw [if_pos hi]
   have := bytesWorld_cell w t str i hi
   simp only [World.cell?, bytesWorld_at_new] at this
   have h3 : (bytesCells w t str)[i]? = some (.int .u8 (str.data.toList.getD i 0).toNat) := this
   rw [Array.getElem?_toList, h3, byteCells_map, List.getElem?_map, List.getElem?_map]
   have hl : i < str.data.toList.length := by rw [Array.length_toList]; exact hi
   rw [List.getElem?_eq_getElem hl, List.getD_eq_getElem?_getD, List.getElem?_eq_getElem hl]
   rfl
  ·rw [if_neg hi, List.getElem?_eq_none (by omega)]
 have h2 := h1.adopt (s := .byt t str.size (byteCells str)) (r := .slice (some ⟨w.heap.size, 0, none⟩) str.size (grownCap w str.size 0 t))
  ⟨hcs, w.heap.size, _, _, _, rfl, grownCap_ge w str.size 0 t, bytesWorld_at_new w t str, hsz, hsz, htk⟩ (fun g hg => by
   simp [SB.blk, Value.ownBlock] at hg
   subst hg
   refine ⟨.inl hst.size, fun o => ?_, fun j hj => ?_⟩
   ·cases hh : H w.heap.size o with
    | none => rfl
    | some v => have := Hp.In.lt hst.hin hh; omega
   ·have := hst.lt hj; omega)
 refine ⟨_, ρ ++ [_], H, _, h2, Pre.append _ _, ?_, .refl _, h⟩
 show (ρ ++ [_])[G.length]? = some _
 rw [← hst.len]; simp
theorem St.frzB {w0 : World} {M : Nat → Prop} {H0 : Hp} {ρ : List Value} {H : Hp} {G : List SB} {w : World} (h : St w0 M H0 ρ H G w) {k : Nat} {t : TypeId} {m : Nat} {xs : List Value} (hk : G[k]? = some (.byt t m xs)) :
  ∃ x H', St w0 M H0 ρ H' (G.set k (.frz x)) w ∧ H.Le H' ∧ Frozen H' x m xs ∧ ρ[k]? = some x := by
 obtain ⟨r, hr, hok⟩ := h.at hk
 obtain ⟨hl, g, cap, cur, fz, rfl, hnc, hg, hfz, hcs, htk⟩ := hok
 have hout : H.Out g := (h.own k g (by rw [blkAt_eq hk hr]; rfl)).2
 refine ⟨_, H.putAt g 0 xs, ?_, Hp.putAt_le hout, .inr ⟨g, 0, cap, rfl, hnc, Hp.putAt_rd⟩, hr⟩
 refine h.give hk hr (g := g) rfl (fun b i v ev => ?_) (Hp.putAt_le hout) rfl rfl
 rcases Hp.putAt_inv ev with e1 | ⟨rfl, e0, e1⟩
 ·exact .inl e1
 ·refine .inr ⟨rfl, ?_⟩
  rw [← htk, List.getElem?_take] at e1
  split at e1
  ·simp only [World.cell?, hg]
   simpa using e1
  ·cases e1
theorem codeL.frzB {c : Code} {K : KT} {F : Fr} {H : Hp} {G : List SB} (k : Nat) {t : TypeId} {m : Nat} {xs : List Value} (hk : G[k]? = some (.byt t m xs))
  (h : ∀ x H2, H.Le H2 → Frozen H2 x m xs → codeL P n e D c K (frameAt k x F) H2 ((G.set k .dead).map (SB.at k x))) : codeL P n e D c K F H G := by
 refine ⟨fun w0 M hgd H0 ρ a w hs hf hd hn => ?_⟩
 obtain ⟨x, H2, a1, a2, a3, a4⟩ := hs.frzB hk
 have a5 := a1.kill k
 rw [List.set_set] at a5
 have hf' : FOk ρ (frameAt k x F) a.tmps := by
  intro i sv hi
  obtain ⟨⟨j, s⟩, hm, he⟩ := List.mem_map.1 hi
  injection he with e1 e2; subst e1 e2
  obtain ⟨v, h1, h2⟩ := hf j s hm
  exact ⟨v, h1, h2.at a4⟩
 exact wp_mono ((h x H2 a2 a3).to w0 M hgd H0 ρ a w (a5.atAll a4) hf' hd hn) (PostX.le (.refl _ _) a2)
theorem QO.min3 {o : Oper} {x y z : Operand} {ts : Array TypeId} (ho : o.op = .call ⟨.builtin .min, #[x, y, z], ts⟩) {F : Fr} {H : Hp} {G : List SB} {K : SV → Prop} (k : IntKind) (a b c : Int)
  (hx : evX x F fun sv => sv = pv (.int k a)) (hy : evX y F fun sv => sv = pv (.int k b)) (hz : evX z F fun sv => sv = pv (.int k c)) (h : K (pv (.int k (minB (minB a b) c)))) : QO P o F H G K := by
 obtain ⟨sx, rfl, hx⟩ := evX_ok hx
 obtain ⟨sy, rfl, hy⟩ := evX_ok hy
 obtain ⟨sz, rfl, hz⟩ := evX_ok hz
 refine ⟨_, h, fun ρ act wc hf hw => ⟨_, rfl, fun w hw' => ?_⟩⟩
 have e1 : act.eval x = .int k a := hx ρ act hf
 have e2 : act.eval y = .int k b := hy ρ act hf
 have e3 : act.eval z = .int k c := hz ρ act hf
 simp [execOp, ho, resolve, invoke, builtin, Builtin.min_, Builtin.min2, minB, e1, e2, e3]
 congr
end
end Go.Kx
