/- The reference's SHA-256: its small functions. No condition of its own. -/
import Derived.Test.YtfchdibbjaeocaaGreatDoorMS11
namespace Go.Kx.Sha
open Go.Proofs Go.Kx
set_option maxRecDepth 20000
namespace Ref1
def T : Tab := [(55, { k := TK.slice 5, agg := false, size := 1, bytes := 24, zero := [Z.sl] }), (3, { k := TK.int IntKind.i64, agg := false, size := 1, bytes := 8, zero := [Z.i IntKind.i64] }), (4, { k := TK.bool, agg := false, size := 1, bytes := 1, zero := [Z.b] }), (5, { k := TK.int IntKind.u8, agg := false, size := 1, bytes := 1, zero := [Z.i IntKind.u8] }), (189, { k := TK.slice 3, agg := false, size := 1, bytes := 24, zero := [Z.sl] })]
set_option maxRecDepth 100000 in
theorem tab : TabOk Tryz.prog T := tabOk_mk (ts := [55, 3, 4, 5, 189]) (by kernel_rfl)

def iW (b : BitVec 32) : Value := .int .i64 (u b)
theorem ofInt64_u (b : BitVec 32) : (BitVec.ofInt IntKind.i64.bits (u b)).toNat = b.toNat := by
  show (BitVec.ofInt 64 (u b)).toNat = b.toNat
  unfold u
  rw [BitVec.ofInt_natCast, BitVec.toNat_ofNat]
  have := b.isLt
  omega
theorem i_xor (a b : BitVec 32) : IntKind.i64.wrap ((BitVec.ofInt IntKind.i64.bits (u a) ^^^ BitVec.ofInt IntKind.i64.bits (u b)).toNat : Int) = u (a ^^^ b) := by
  rw [BitVec.toNat_xor, ofInt64_u, ofInt64_u, ← BitVec.toNat_xor]
  have := (a ^^^ b).isLt
  rw [wrap64 (by omega) (by omega)]; rfl
theorem i_and (a b : BitVec 32) : IntKind.i64.wrap ((BitVec.ofInt IntKind.i64.bits (u a) &&& BitVec.ofInt IntKind.i64.bits (u b)).toNat : Int) = u (a &&& b) := by
  rw [BitVec.toNat_and, ofInt64_u, ofInt64_u, ← BitVec.toNat_and]
  have := (a &&& b).isLt
  rw [wrap64 (by omega) (by omega)]; rfl
theorem i_not (a : BitVec 32) : IntKind.i64.wrap (4294967295 - u a) = u (~~~ a) := by
  have h := a.isLt
  unfold u
  rw [BitVec.toNat_not, wrap64 (by omega) (by omega)]
  omega
theorem i_shr (a : BitVec 32) (k : Nat) (p : Int) (hp : p = ((2 ^ k : Nat) : Int)) : IntKind.i64.wrap ((u a).tdiv p) = u (a >>> k) := by
  subst hp
  unfold u
  have h := (a >>> k).isLt
  rw [Int.tdiv_eq_ediv_of_nonneg (by omega), ← Int.natCast_ediv]
  rw [BitVec.toNat_ushiftRight, Nat.shiftRight_eq_div_pow] at h ⊢
  generalize a.toNat / 2 ^ k = y at h ⊢
  rw [wrap64 (by omega) (by omega)]
theorem rot_nat (x : BitVec 32) (n : Nat) (h1 : 1 ≤ n) (h2 : n ≤ 31) : x.toNat / 2 ^ n + x.toNat % 2 ^ n * (4294967296 / 2 ^ n) = (x.rotateRight n).toNat := by
  have hp : (4294967296 : Nat) = 2 ^ (32 - n) * 2 ^ n := by rw [← Nat.pow_add, show 32 - n + n = 32 by omega]
  have hq : (4294967296 : Nat) / 2 ^ n = 2 ^ (32 - n) := by rw [hp]; exact Nat.mul_div_cancel _ (Nat.pow_pos (by decide))
  rw [hq, BitVec.toNat_rotateRight, Nat.mod_eq_of_lt (show n < 32 by omega)]
  have hs : x.toNat <<< (32 - n) % 2 ^ 32 = (x.toNat % 2 ^ n) <<< (32 - n) := by
    rw [Nat.shiftLeft_eq, Nat.shiftLeft_eq, show (2 : Nat) ^ 32 = 2 ^ n * 2 ^ (32 - n) by rw [← Nat.pow_add, show n + (32 - n) = 32 by omega], Nat.mul_mod_mul_right]
  rw [hs, Nat.or_comm, Nat.shiftRight_eq_div_pow]
  have hb : x.toNat / 2 ^ n < 2 ^ (32 - n) := by
    rw [Nat.div_lt_iff_lt_mul (Nat.pow_pos (by decide)), ← hp]; exact x.isLt
  rw [← Nat.shiftLeft_add_eq_or_of_lt hb, Nat.shiftLeft_eq, Nat.add_comm]
theorem word_nat (bs : List UInt8) (j : Nat) : (word bs j).toNat = byteN bs (4 * j) * 16777216 + byteN bs (4 * j + 1) * 65536 + byteN bs (4 * j + 2) * 256 + byteN bs (4 * j + 3) := by
  have hb : ∀ i, byteN bs i < 256 := fun i => by unfold byteN; exact (bs.getD i 0).toNat_lt
  have hn : ∀ i, (by32 bs i).toNat = byteN bs i := fun i => by unfold by32; rw [BitVec.toNat_ofNat]; have := hb i; omega
  unfold word
  have h0 := hb (4 * j)
  have h1 := hb (4 * j + 1)
  have h2 := hb (4 * j + 2)
  have h3 := hb (4 * j + 3)
  rw [BitVec.toNat_or, BitVec.toNat_or, BitVec.toNat_or, BitVec.toNat_shiftLeft, BitVec.toNat_shiftLeft, BitVec.toNat_shiftLeft, hn, hn, hn, hn]
  generalize byteN bs (4 * j) = a at *
  generalize byteN bs (4 * j + 1) = b at *
  generalize byteN bs (4 * j + 2) = c at *
  generalize byteN bs (4 * j + 3) = d at *
  rw [Nat.shiftLeft_eq, Nat.shiftLeft_eq, Nat.shiftLeft_eq, Nat.mod_eq_of_lt (by omega), Nat.mod_eq_of_lt (by omega), Nat.mod_eq_of_lt (by omega)]
  have e1 := Nat.shiftLeft_add_eq_or_of_lt (show b * 2 ^ 16 < 2 ^ 24 by omega) a
  have e2 := Nat.shiftLeft_add_eq_or_of_lt (show c * 2 ^ 8 < 2 ^ 16 by omega) (a * 256 + b)
  have e3 := Nat.shiftLeft_add_eq_or_of_lt (show d < 2 ^ 8 by omega) (a * 65536 + b * 256 + c)
  rw [Nat.shiftLeft_eq] at e1 e2 e3
  simp only [Nat.reducePow] at e1 e2 e3 ⊢
  rw [← e1, show a * 16777216 + b * 65536 = (a * 256 + b) * 65536 by clear e1 e2 e3; omega, ← e2, show (a * 256 + b) * 65536 + c * 256 = (a * 65536 + b * 256 + c) * 256 by clear e1 e2 e3; omega, ← e3]
theorem pow_cases : ∀ n : Fin 32, 1 ≤ (2 : Nat) ^ n.val ∧ (2 : Nat) ^ n.val ≤ 2147483648 ∧ IntKind.i64.wrap (1 * 2 ^ min (Int.toNat (n.val : Int)) IntKind.i64.bits) = ((2 ^ n.val : Nat) : Int) := by decide
theorem top (v : Int) (h0 : 0 ≤ v) (H : Hp) : CallO Tryz.prog 156 [pv (.int .i64 v)] H [] fun e H' G' => e = .ret (pv (.int .i64 (v % 4294967296))) ∧ H' = H ∧ G' = [] := by
  refine CallO.of_body tab Tryz.func156 rfl (nt := Tryz.f156.ntmps) rfl (by kernel_rfl) ?_
  (conv => whnf)
  refine ⟨by decide, ?_⟩
  (conv => whnf)
  refine ⟨?_, rfl, rfl⟩
  rw [← show v.tmod 4294967296 = v % 4294967296 from Int.tmod_eq_emod_of_nonneg h0]
  generalize v.tmod 4294967296 = z
  rfl
theorem top2 (x0 x1 : BitVec 32) (H : Hp) : CallO Tryz.prog 156 [pv (.int .i64 (IntKind.i64.wrap (u x0 + u x1)))] H [] fun e H' G' => e = .ret (pv (iW (x0 + x1))) ∧ H' = H ∧ G' = [] := by
  have hx0 := u_lt x0
  have hx1 := u_lt x1
  rw [wrap64 (x := u x0 + u x1) (by omega) (by omega)]
  have h := top (u x0 + u x1) (by omega) H
  rw [show (u x0 + u x1) % 4294967296 = u (x0 + x1) by unfold u; simp only [BitVec.toNat_add]; omega] at h
  exact h
theorem top4 (x0 x1 x2 x3 : BitVec 32) (H : Hp) : CallO Tryz.prog 156 [pv (.int .i64 (IntKind.i64.wrap (IntKind.i64.wrap (IntKind.i64.wrap (u x0 + u x1) + u x2) + u x3)))] H [] fun e H' G' => e = .ret (pv (iW (x0 + x1 + x2 + x3))) ∧ H' = H ∧ G' = [] := by
  have hx0 := u_lt x0
  have hx1 := u_lt x1
  have hx2 := u_lt x2
  have hx3 := u_lt x3
  rw [wrap64 (x := u x0 + u x1) (by omega) (by omega)]
  rw [wrap64 (x := u x0 + u x1 + u x2) (by omega) (by omega)]
  rw [wrap64 (x := u x0 + u x1 + u x2 + u x3) (by omega) (by omega)]
  have h := top (u x0 + u x1 + u x2 + u x3) (by omega) H
  rw [show (u x0 + u x1 + u x2 + u x3) % 4294967296 = u (x0 + x1 + x2 + x3) by unfold u; simp only [BitVec.toNat_add]; omega] at h
  exact h
theorem top5 (x0 x1 x2 x3 x4 : BitVec 32) (H : Hp) : CallO Tryz.prog 156 [pv (.int .i64 (IntKind.i64.wrap (IntKind.i64.wrap (IntKind.i64.wrap (IntKind.i64.wrap (u x0 + u x1) + u x2) + u x3) + u x4)))] H [] fun e H' G' => e = .ret (pv (iW (x0 + x1 + x2 + x3 + x4))) ∧ H' = H ∧ G' = [] := by
  have hx0 := u_lt x0
  have hx1 := u_lt x1
  have hx2 := u_lt x2
  have hx3 := u_lt x3
  have hx4 := u_lt x4
  rw [wrap64 (x := u x0 + u x1) (by omega) (by omega)]
  rw [wrap64 (x := u x0 + u x1 + u x2) (by omega) (by omega)]
  rw [wrap64 (x := u x0 + u x1 + u x2 + u x3) (by omega) (by omega)]
  rw [wrap64 (x := u x0 + u x1 + u x2 + u x3 + u x4) (by omega) (by omega)]
  have h := top (u x0 + u x1 + u x2 + u x3 + u x4) (by omega) H
  rw [show (u x0 + u x1 + u x2 + u x3 + u x4) % 4294967296 = u (x0 + x1 + x2 + x3 + x4) by unfold u; simp only [BitVec.toNat_add]; omega] at h
  exact h
theorem turn (x : BitVec 32) (n : Nat) (h1 : 1 ≤ n) (h2 : n ≤ 31) (H : Hp) : CallO Tryz.prog 157 [pv (iW x), pv (.int .i64 (n : Int))] H [] fun e H' G' => e = .ret (pv (iW (x.rotateRight n))) ∧ H' = H ∧ G' = [] := by
  refine CallO.of_body tab Tryz.func157 rfl (nt := Tryz.f157.ntmps) rfl (by kernel_rfl) ?_
  (conv => whnf)
  refine ⟨by omega, ?_⟩
  (conv => whnf)
  obtain ⟨p1, p2, p3⟩ := pow_cases ⟨n, by omega⟩
  simp only at p1 p2 p3
  rw [p3]
  refine WS.draw tab mixed (.take 0 (.take 1 (.take 2 (.take 3 (.take 4 (.take 5 (.take 6 (.take 7 (.take 8 (.take 9 (.take 10 .done))))))))))) (by kernel_rfl) [] ?_
  (conv => whnf)
  refine ⟨by omega, ?_⟩
  (conv => whnf)
  refine ⟨by omega, ?_⟩
  (conv => whnf)
  refine ⟨by omega, ?_⟩
  (conv => whnf)
  have hr := rot_nat x n h1 h2
  have hb := (x.rotateRight n).isLt
  rw [← hr] at hb
  have e1 : (u x).tdiv ((2 ^ n : Nat) : Int) = ((x.toNat / 2 ^ n : Nat) : Int) := by unfold u; rw [Int.tdiv_eq_ediv_of_nonneg (by omega), ← Int.natCast_ediv]
  have e2 : (u x).tmod ((2 ^ n : Nat) : Int) = ((x.toNat % 2 ^ n : Nat) : Int) := by unfold u; rw [Int.tmod_eq_emod_of_nonneg (by omega), ← Int.natCast_emod]
  have e3 : Int.tdiv 4294967296 ((2 ^ n : Nat) : Int) = ((4294967296 / 2 ^ n : Nat) : Int) := by rw [Int.tdiv_eq_ediv_of_nonneg (by omega)]; exact (Int.natCast_ediv 4294967296 (2 ^ n)).symm
  refine ⟨?_, rfl, rfl⟩
  have e5 : (4294967296 / 2 ^ n : Nat) ≤ 4294967296 := Nat.div_le_self _ _
  rw [e1, e2, e3]
  rw [show pv (iW (x.rotateRight n)) = pv (.int .i64 (((x.rotateRight n).toNat : Nat) : Int)) from rfl, ← hr]
  clear e1 e2 e3 hr
  generalize (4294967296 : Nat) / 2 ^ n = q at *
  rw [wrap64 (x := (q : Int)) (by omega) (by omega), ← Int.natCast_mul]
  generalize x.toNat % 2 ^ n * q = z at *
  generalize x.toNat / 2 ^ n = y at *
  rw [wrap64 (x := (y : Int)) (by omega) (by omega), wrap64 (x := (z : Int)) (by omega) (by omega), wrap64 (by omega) (by omega), ← Int.natCast_add]
  rfl
theorem word_ (j n : Nat) (bs : List UInt8) (a : Addr) (cap : Nat) (hj : 4 * j + 3 < n) (H : Hp) (hb : BytesAt H (some a) n bs) (hl : n ≤ 1000000) : CallO Tryz.prog 190 [pv (.slice (some a) n cap), pv (.int .i64 ((4 * j : Nat) : Int))] H [] fun e H' G' => e = .ret (pv (iW (word bs j))) ∧ H' = H ∧ G' = [] := by
  refine CallO.of_body tab Tryz.func190 rfl (nt := Tryz.f190.ntmps) rfl (by kernel_rfl) ?_
  (conv => whnf)
  refine WS.draw tab mixed (.take 0 (.take 1 (.take 2 (.take 3 (.take 4 (.take 5 (.take 6 (.take 7 (.take 8 (.take 9 (.take 10 (.take 11 (.take 12 (.take 13 (.take 14 (.take 15 (.take 16 (.take 17 (.take 18 (.take 19 (.take 20 (.take 21 (.take 22 (.take 23 (.take 24 (.take 25 (.take 26 (.take 27 (.take 28 (.take 29 .done)))))))))))))))))))))))))))))) (by kernel_rfl) [] ?_
  (conv => whnf)
  obtain ⟨hn, -, hrd⟩ := hb
  obtain ⟨b, o, hab, hrd⟩ := hrd a rfl
  have q1 : IntKind.i64.wrap (((4 * j : Nat) : Int) + 1) = ((4 * j + 1 : Nat) : Int) := by rw [wrap64 (by omega) (by omega)]; omega
  have q2 : IntKind.i64.wrap (((4 * j : Nat) : Int) + 2) = ((4 * j + 2 : Nat) : Int) := by rw [wrap64 (by omega) (by omega)]; omega
  have q3 : IntKind.i64.wrap (((4 * j : Nat) : Int) + 3) = ((4 * j + 3 : Nat) : Int) := by rw [wrap64 (by omega) (by omega)]; omega
  have rdb : ∀ i, i < bs.length → ∀ off, off = i → RdC H (some a) off (.int .u8 (byteN bs i)) := fun i hi off ho => ⟨b, o, hab, hrd _ _ (bget hi ho)⟩
  refine ⟨⟨by omega, by omega⟩, ⟨b, o, hab⟩, ?_⟩
  (conv => whnf)
  refine ⟨_, rdb (4 * j) (by omega) _ (by simp; omega), ?_⟩
  (conv => whnf)
  rw [q1]
  refine ⟨⟨by omega, by omega⟩, ⟨b, o, hab⟩, ?_⟩
  (conv => whnf)
  refine ⟨_, rdb (4 * j + 1) (by omega) _ (by simp; omega), ?_⟩
  (conv => whnf)
  rw [q2]
  refine ⟨⟨by omega, by omega⟩, ⟨b, o, hab⟩, ?_⟩
  (conv => whnf)
  refine ⟨_, rdb (4 * j + 2) (by omega) _ (by simp; omega), ?_⟩
  (conv => whnf)
  rw [q3]
  refine ⟨⟨by omega, by omega⟩, ⟨b, o, hab⟩, ?_⟩
  (conv => whnf)
  refine ⟨_, rdb (4 * j + 3) (by omega) _ (by simp; omega), ?_⟩
  (conv => whnf)
  refine ⟨?_, rfl, rfl⟩
  have hB : ∀ i, byteN bs i < 256 := fun i => by unfold byteN; exact (bs.getD i 0).toNat_lt
  have h0 := hB (4 * j)
  have h1 := hB (4 * j + 1)
  have h2 := hB (4 * j + 2)
  have h3 := hB (4 * j + 3)
  show SE.ret (pv (.int .i64 _)) = SE.ret (pv (.int .i64 (((word bs j).toNat : Nat) : Int)))
  rw [word_nat]
  generalize byteN bs (4 * j) = a0 at *
  generalize byteN bs (4 * j + 1) = a1 at *
  generalize byteN bs (4 * j + 2) = a2 at *
  generalize byteN bs (4 * j + 3) = a3 at *
  congr 3
  rw [wrap64 (x := (a0 : Int)) (by omega) (by omega), wrap64 (x := (a1 : Int)) (by omega) (by omega), wrap64 (x := (a2 : Int)) (by omega) (by omega), wrap64 (x := (a3 : Int)) (by omega) (by omega),
    wrap64 (x := (a0 : Int) * 16777216) (by omega) (by omega), wrap64 (x := (a1 : Int) * 65536) (by omega) (by omega), wrap64 (x := (a2 : Int) * 256) (by omega) (by omega),
    wrap64 (x := (a0 : Int) * 16777216 + (a1 : Int) * 65536) (by omega) (by omega), wrap64 (x := (a0 : Int) * 16777216 + (a1 : Int) * 65536 + (a2 : Int) * 256) (by omega) (by omega), wrap64 (by omega) (by omega)]
  omega
theorem keys_ (H : Hp) : CallO Tryz.prog 153 [] H [] fun e H' G' => (∃ a, e = .ret (pv (.slice (some a) 64 64)) ∧ RdN H' (some a) 0 (kTab.map iW)) ∧ G' = [] := by
  refine CallO.of_body tab Tryz.func153 rfl (nt := Tryz.f153.ntmps) rfl (by kernel_rfl) ?_
  (conv => whnf)
  refine ⟨by decide, .inl ?_⟩
  intro g H2 hle hrd
  (conv => whnf)
  exact ⟨⟨_, rfl, hrd⟩, rfl⟩
theorem first_ (H : Hp) : CallO Tryz.prog 154 [] H [] fun e H' G' => e = .ret (.si (.ce (.self 0))) ∧ H' = H ∧ G' = [.row 3 1 8 [iW init8.a, iW init8.b, iW init8.c, iW init8.d, iW init8.e, iW init8.f, iW init8.g, iW init8.h]] := by
  refine CallO.of_body tab Tryz.func154 rfl (nt := Tryz.f154.ntmps) rfl (by kernel_rfl) ?_
  (conv => whnf)
  refine ⟨by decide, .inr ⟨rfl, ?_⟩⟩
  (conv => whnf)
  exact ⟨rfl, rfl, rfl⟩
end Ref1
end Go.Kx.Sha
namespace Go.Kx.Sha
open Go.Proofs Go.Kx
set_option maxRecDepth 20000

theorem wrap8 (x : Int) : IntKind.u8.wrap x = x % 256 := by simp [IntKind.wrap, IntKind.bits, IntKind.signed]
theorem byteOf_toNat (n : Nat) : ((byteOf (n : Int)).toNat : Int) = n % 256 := by
  unfold byteOf
  have : ((n : Int) % 256).toNat < 256 := by omega
  rw [UInt8.toNat_ofNat', Nat.mod_eq_of_lt this]; omega
theorem fdiv_pow (N k : Nat) : ((N : Int).fdiv (2 ^ k)) = ((N / 2 ^ k : Nat) : Int) := by
  rw [Int.fdiv_eq_ediv_of_nonneg _ (by exact Int.le_of_lt (Int.pow_pos (by decide))), Int.natCast_ediv, Int.natCast_pow]; rfl
theorem sh8 (N k : Nat) (b : Nat) (hk : k ≤ b) : IntKind.u8.wrap ((N : Int).fdiv (2 ^ min k b)) = ((byteOf (N / 2 ^ k : Nat)).toNat : Int) := by
  rw [Nat.min_eq_left hk, fdiv_pow, wrap8, byteOf_toNat]
theorem be8_get (N : Nat) : ∀ j, j < 8 → (be8 N)[j]? = some (byteOf (N / 2 ^ (56 - 8 * j) : Nat)) := by
  intro j hj
  have : j = 0 ∨ j = 1 ∨ j = 2 ∨ j = 3 ∨ j = 4 ∨ j = 5 ∨ j = 6 ∨ j = 7 := by omega
  rcases this with rfl | rfl | rfl | rfl | rfl | rfl | rfl | rfl <;> first | rfl | (simp [be8])
theorem take_get {l : List UInt8} {j : Nat} {x : UInt8} (h : l[j]? = some x) : l.take (j + 1) = l.take j ++ [x] := by
  obtain ⟨hj, rfl⟩ := List.getElem?_eq_some_iff.1 h
  exact List.take_succ_eq_append_getElem hj
theorem ones4 (k : IntKind) (a b c d : Int) : ∀ u ∈ [Value.int k a, .int k b, .int k c, .int k d], u.oneCell' = true := by
  intro u hu
  simp only [List.mem_cons, List.not_mem_nil, or_false] at hu
  rcases hu with rfl | rfl | rfl | rfl <;> rfl
def outT (s : St8) : Nat → List UInt8
  | 0 => []
  | 1 => be4 s.a
  | 2 => be4 s.a ++ be4 s.b
  | 3 => be4 s.a ++ be4 s.b ++ be4 s.c
  | 4 => be4 s.a ++ be4 s.b ++ be4 s.c ++ be4 s.d
  | 5 => be4 s.a ++ be4 s.b ++ be4 s.c ++ be4 s.d ++ be4 s.e
  | 6 => be4 s.a ++ be4 s.b ++ be4 s.c ++ be4 s.d ++ be4 s.e ++ be4 s.f
  | 7 => be4 s.a ++ be4 s.b ++ be4 s.c ++ be4 s.d ++ be4 s.e ++ be4 s.f ++ be4 s.g
  | _ => be4 s.a ++ be4 s.b ++ be4 s.c ++ be4 s.d ++ be4 s.e ++ be4 s.f ++ be4 s.g ++ be4 s.h
theorem outT_all (s : St8) : outT s 8 = outB s := by unfold outT outB; simp only [List.append_assoc]
theorem be4_cells (x : BitVec 32) : [Value.int .u8 (IntKind.u8.wrap ((u x).fdiv (2 ^ min (Int.toNat 24) IntKind.u32.bits))), .int .u8 (IntKind.u8.wrap ((u x).fdiv (2 ^ min (Int.toNat 16) IntKind.u32.bits))), .int .u8 (IntKind.u8.wrap ((u x).fdiv (2 ^ min (Int.toNat 8) IntKind.u32.bits))), .int .u8 (IntKind.u8.wrap (u x))] = bCells (be4 x) := by
  unfold u
  rw [show Int.toNat 24 = 24 from rfl, show Int.toNat 16 = 16 from rfl, show Int.toNat 8 = 8 from rfl, sh8 _ 24 _ (by decide), sh8 _ 16 _ (by decide), sh8 _ 8 _ (by decide)]
  have : IntKind.u8.wrap (x.toNat : Int) = ((byteOf (x.toNat : Nat)).toNat : Int) := by rw [wrap8, byteOf_toNat]
  rw [this]; rfl
theorem row_out (t : TypeId) (n : Nat) (a : List UInt8) (x : BitVec 32) : SB.row t 1 (n + 4) (bCells a ++ [Value.int .u8 (IntKind.u8.wrap ((u x).fdiv (2 ^ min (Int.toNat 24) IntKind.u32.bits))), .int .u8 (IntKind.u8.wrap ((u x).fdiv (2 ^ min (Int.toNat 16) IntKind.u32.bits))), .int .u8 (IntKind.u8.wrap ((u x).fdiv (2 ^ min (Int.toNat 8) IntKind.u32.bits))), .int .u8 (IntKind.u8.wrap (u x))]) = SB.row t 1 (n + 4) (bCells (a ++ be4 x)) := by
  rw [be4_cells, bCells_append]
theorem sum (m : List UInt8) (H : Hp) (hl : m.length ≤ 1000000000) :
    CallO Tryz.prog 125 [.si (.ce (.ptr 0 0))] H [hBox 1 m, hRow m] fun e _ G' => e = .ret (.si (.ce (.self 2))) ∧ G' = [hBox 1 m, hRow m, .row 5 1 32 (bCells (sha m))] := by
  have hr := rst_length m
  refine CallO.of_bodyW tab Tryz.func125 rfl (nt := Tryz.f125.ntmps) rfl (by kernel_rfl) ?_
  refine W.seqS (codeX_ok tab _ ?_)
  (conv => whnf)
  refine WS.seqTo tab (fun F H2 G => H.Le H2 ∧ F = [(0, .si (.ce (.ptr 0 0))), (3, .si (.ce (.self 2)))] ∧ G = [hBox 1 m, hRow m, .row 5 1 ((rst m).length + 1) (bCells (rst m ++ [128]))]) ?_ ?_
  · (conv => whnf)
    refine ⟨by decide, .inl ?_⟩
    intro g H2 hle hrd
    (conv => whnf)
    refine ⟨bCells_one _, fun h0 => ?_, fun h0 => ?_⟩
    · refine ⟨Nat.le_refl _, ⟨g, 0, rfl⟩, ?_⟩
      (conv => whnf)
      refine ⟨by decide, .inl ?_⟩
      intro g2 H3 hle2 hrd2
      (conv => whnf)
      refine ⟨[.int .u8 128], rfl, hrd2, fun u hu => by rcases List.mem_singleton.1 hu with rfl; rfl, fun h => (nomatch h), fun _ => ⟨rfl, [], rfl, hrd.mono hle2, by decide, ?_⟩⟩
      (conv => whnf)
      refine ⟨_, _, [0, 1, 2], ⟨hle.trans hle2, rfl, rfl⟩, ?_⟩
      refine ⟨rfl, ⟨rfl, rfl, ?_, trivial⟩, rfl, rfl, trivial⟩
      have hnil : rst m = [] := List.eq_nil_of_length_eq_zero h0
      rw [hnil]; rfl
    · refine ⟨rfl, [], rfl, hrd, by show _ * 2 ≤ _; omega, ?_⟩
      (conv => whnf)
      refine ⟨by decide, .inl ?_⟩
      intro g2 H3 hle2 hrd2
      (conv => whnf)
      refine ⟨[.int .u8 128], rfl, hrd2, fun u hu => by rcases List.mem_singleton.1 hu with rfl; rfl, ?_⟩
      (conv => whnf)
      refine ⟨by show _ * 2 ≤ _; omega, ?_⟩
      (conv => whnf)
      refine ⟨_, _, [0, 1, 3], ⟨hle.trans hle2, rfl, rfl⟩, ?_⟩
      refine ⟨rfl, ⟨rfl, rfl, ?_, trivial⟩, rfl, rfl, trivial⟩
      show SB.row 5 1 (0 + (rst m).length + 1) ([] ++ bCells (rst m) ++ [.int .u8 128]) = SB.row 5 1 ((rst m).length + 1) (bCells (rst m ++ [128]))
      rw [Nat.zero_add, List.nil_append, ← bCells_append]; rfl
  · rintro F H2 G hle ⟨hle', rfl, rfl⟩
    refine codeL.go tab ?_
    (conv => whnf)
    refine WS.loop (fun k F H3 G => ∃ z : Nat, z ≤ padN (rst m).length ∧ k = padN (rst m).length - z ∧ F = [(0, .si (.ce (.ptr 0 0))), (3, .si (.ce (.self 2)))] ∧ H.Le H3 ∧
        G = [hBox 1 m, hRow m, .row 5 1 ((rst m).length + 1 + z) (bCells (rst m ++ 128 :: List.replicate z 0))]) (padN (rst m).length + 1) ?_ ?_
    · refine ⟨padN (rst m).length, by omega, _, _, [0, 1, 2], ⟨0, by omega, rfl, rfl, hle', rfl⟩, ?_⟩
      exact ⟨rfl, ⟨rfl, rfl, rfl, trivial⟩, rfl, rfl, trivial⟩
    rintro k F H3 G hle3 ⟨z, hz, rfl, rfl, hle4, rfl⟩
    refine codeL.go tab ?_
    (conv => whnf)
    rw [show (((rst m).length + 1 + z : Nat) : Int).tmod 64 = (((rst m).length + 1 + z) % 64 : Nat) from by rw [Int.tmod_eq_emod_of_nonneg (by omega)]; omega]
    refine ⟨by decide, ?_⟩
    (conv => whnf)
    have hpn : padN (rst m).length = (119 - (rst m).length % 64) % 64 := rfl
    refine br.of (fun h1 => ?_) (fun h1 => ?_) <;> (conv => whnf)
    · simp only [bne_iff_ne, ne_eq] at h1
      refine ⟨by decide, .inl ?_⟩
      intro g H4 hle5 hrd
      (conv => whnf)
      refine ⟨_, rfl, hrd, one_int _ _, ?_⟩
      (conv => whnf)
      refine ⟨by show _ * 2 ≤ _; omega, ?_⟩
      (conv => whnf)
      refine ⟨padN (rst m).length - (z + 1), by omega, _, _, [0, 1, 3], ⟨z + 1, by omega, rfl, rfl, hle4.trans hle5, rfl⟩, ?_⟩
      refine ⟨rfl, ⟨rfl, rfl, ?_, trivial⟩, rfl, rfl, trivial⟩
      show SB.row 5 1 ((rst m).length + 1 + z + 1) (bCells (rst m ++ 128 :: List.replicate z 0) ++ [.int .u8 0]) = SB.row 5 1 ((rst m).length + 1 + (z + 1)) (bCells (rst m ++ 128 :: List.replicate (z + 1) 0))
      rw [bCells_snoc _ (0 : UInt8) (x := 0) rfl, List.replicate_succ', List.append_assoc]; rfl
    have hz2 : z = padN (rst m).length := by
      simp only [bne_eq_false_iff_eq] at h1
      omega
    subst hz2
    clear h1 hz
    generalize hT0 : rst m ++ 128 :: List.replicate (padN (rst m).length) 0 = T0
    have hT0l : T0.length = (rst m).length + 1 + padN (rst m).length := by rw [← hT0]; simp; omega
    rw [← hT0l]
    have hTl : tailOf (rst m) m.length = T0 ++ be8 (8 * m.length) := by unfold tailOf; rw [← hT0]; simp
    have hTm := tailOf_mod (rst m) m.length
    rw [hTl] at hTm
    have hb8 : (be8 (8 * m.length)).length = 8 := rfl
    refine WS.loop (fun k F H4 G => ∃ j : Nat, j ≤ 8 ∧ k = 8 - j ∧ F = [(0, .si (.ce (.ptr 0 0))), (3, .si (.ce (.self 2))), (4, pv (.int .i64 (56 - 8 * j)))] ∧ H.Le H4 ∧
        G = [hBox 1 m, hRow m, .row 5 1 (T0.length + j) (bCells (T0 ++ (be8 (8 * m.length)).take j))]) 9 ?_ ?_
    · refine ⟨8, by omega, _, _, [0, 1, 2], ⟨0, by omega, rfl, rfl, hle4, rfl⟩, ?_⟩
      refine ⟨rfl, ⟨rfl, rfl, ?_, trivial⟩, rfl, rfl, rfl, trivial⟩
      rw [List.take_zero, List.append_nil]; rfl
    rintro k F H4 G hle5 ⟨j, hj, rfl, rfl, hle6, rfl⟩
    refine codeL.go tab ?_
    (conv => whnf)
    refine br.of (fun h1 => ?_) (fun h1 => ?_) <;> (conv => whnf)
    · simp only [ge_iff_le, decide_eq_true_eq] at h1
      refine ⟨by omega, ?_⟩
      (conv => whnf)
      refine ⟨by decide, .inl ?_⟩
      intro g H5 hle7 hrd
      (conv => whnf)
      refine ⟨_, rfl, hrd, one_int _ _, ?_⟩
      (conv => whnf)
      refine ⟨by show _ * 2 ≤ _; omega, ?_⟩
      (conv => whnf)
      rw [wrap64 (x := 56 - 8 * (j : Int) - 8) (by omega) (by omega)]
      refine ⟨8 - (j + 1), by omega, _, _, [0, 1, 3], ⟨j + 1, by omega, rfl, rfl, hle6.trans hle7, rfl⟩, ?_⟩
      refine ⟨rfl, ⟨rfl, rfl, ?_, trivial⟩, rfl, rfl, ?_, trivial⟩
      · show SB.row 5 1 (T0.length + j + 1) (bCells (T0 ++ (be8 (8 * m.length)).take j) ++ [.int .u8 _]) = SB.row 5 1 (T0.length + (j + 1)) (bCells (T0 ++ (be8 (8 * m.length)).take (j + 1)))
        rw [take_get (be8_get (8 * m.length) j (by omega)), ← List.append_assoc, ← bCells_snoc _ _ (x := IntKind.u8.wrap ((IntKind.i64.wrap ((m.length : Int) * 8)).fdiv (2 ^ min (Int.toNat (56 - 8 * (j : Int))) IntKind.i64.bits))) ?_]
        · rfl
        · rw [wrap64 (by omega) (by omega), show (m.length : Int) * 8 = ((8 * m.length : Nat) : Int) by omega, show Int.toNat (56 - 8 * (j : Int)) = 56 - 8 * j by omega]
          exact sh8 _ _ _ (by show 56 - 8 * j ≤ 64; omega)
      · show pv _ = pv _
        congr 2; omega
    simp only [ge_iff_le, decide_eq_false_iff_not] at h1
    have hj8 : j = 8 := by omega
    subst hj8
    rw [show T0.length + 8 = (T0 ++ be8 (8 * m.length)).length by rw [List.length_append, hb8], show (be8 (8 * m.length)).take 8 = be8 (8 * m.length) from rfl]
    rw [show sha m = outB (blocks ((T0 ++ be8 (8 * m.length)).length / 64) (hst m) (T0 ++ be8 (8 * m.length))) by rw [← hTl]; exact sha_eq m]
    generalize T0 ++ be8 (8 * m.length) = all at *
    refine WS.loop (fun k F H5 G => ∃ i : Nat, i ≤ all.length / 64 ∧ k = all.length / 64 - i ∧ F = [(3, .si (.ce (.self 2))), (5, .si (.ce (.ptr 3 0)))] ∧ H.Le H5 ∧
        G = [hBox 1 m, hRow m, .row 5 1 (all.drop (64 * i)).length (bCells (all.drop (64 * i))), .box 197 (blocks i (hst m) all).cells]) (all.length / 64 + 1) ?_ ?_
    · refine ⟨all.length / 64, by omega, _, _, [0, 1, 2, 3], ⟨0, by omega, rfl, rfl, hle6, rfl⟩, ?_⟩
      exact ⟨rfl, ⟨rfl, rfl, rfl, rfl, trivial⟩, rfl, rfl, trivial⟩
    rintro k F H5 G hle7 ⟨i, hi, rfl, rfl, hle8, rfl⟩
    have hdl : (all.drop (64 * i)).length = all.length - 64 * i := List.length_drop
    refine codeL.go tab ?_
    (conv => whnf)
    refine br.of (fun h1 => ?_) (fun h1 => ?_) <;> (conv => whnf)
    · simp only [gt_iff_lt, decide_eq_true_eq] at h1
      refine ⟨⟨_, Tryz.func163, rfl, by kernel_rfl⟩, CallS.use (compress (blocks i (hst m) all) (all.drop (64 * i)).length (all.drop (64 * i)) (by omega) rfl H5) [2] rfl rfl ⟨rfl, trivial⟩ ?_⟩
      rintro e H' G' hle9 ⟨rfl, rfl, rfl⟩
      (conv => whnf)
      refine ⟨⟨by omega, by omega⟩, ?_⟩
      (conv => whnf)
      refine ⟨all.length / 64 - (i + 1), by omega, _, _, [0, 1, 4, 3], ⟨i + 1, by omega, rfl, rfl, hle8, rfl⟩, ?_⟩
      refine ⟨rfl, ⟨rfl, rfl, ?_, ?_, trivial⟩, rfl, rfl, trivial⟩
      · exact row_cut all i
      · rw [blocks_succ]; rfl
    simp only [gt_iff_lt, decide_eq_false_iff_not] at h1
    have hi2 : i = all.length / 64 := by omega
    subst hi2
    generalize blocks (all.length / 64) (hst m) all = S at *
    refine WS.nilRow 6 5 1 rfl ?_
    (conv => whnf)
    refine WS.loop (fun k F H6 G => ∃ j : Nat, j ≤ 8 ∧ k = 8 - j ∧ F = [(6, .si (.ce (.self 2))), (51, .si (.ag S.cells)), (52, pv (.int .i64 j))] ∧ H.Le H6 ∧
        G = [hBox 1 m, hRow m, .row 5 1 (4 * j) (bCells (outT S j))]) 9 ?_ ?_
    · refine ⟨8, by decide, _, _, [0, 1, 4], ⟨0, by decide, rfl, rfl, hle8, rfl⟩, ?_⟩
      exact ⟨rfl, ⟨rfl, rfl, rfl, trivial⟩, rfl, rfl, rfl, trivial⟩
    clear hTl hTm h1 hdl hi hr
    rintro k F H6 G hle9 ⟨j, hj, rfl, rfl, hle10, rfl⟩
    refine codeL.go tab ?_
    have hj9 : j = 0 ∨ j = 1 ∨ j = 2 ∨ j = 3 ∨ j = 4 ∨ j = 5 ∨ j = 6 ∨ j = 7 ∨ j = 8 := by omega
    rcases hj9 with rfl | rfl | rfl | rfl | rfl | rfl | rfl | rfl | rfl
    all_goals (conv => whnf)
    all_goals first
      | (show SE.ret _ = _ ∧ _ = _
         exact ⟨rfl, by rw [← outT_all]⟩)
      | (refine ⟨by decide, _, rfl, ?_⟩
         (conv => whnf)
         iterate 3 (refine ⟨by decide, ?_⟩; (conv => whnf))
         refine ⟨by decide, .inl ?_⟩
         intro g H7 hle11 hrd
         (conv => whnf)
         refine ⟨_, rfl, hrd, ones4 _ _ _ _ _, ?_⟩
         (conv => whnf)
         refine ⟨by decide, ?_⟩
         (conv => whnf)
         first | (refine ⟨7, by decide, _, _, [0, 1, 3], ⟨1, by decide, rfl, rfl, hle10.trans hle11, rfl⟩, ?_⟩; refine ⟨rfl, ⟨rfl, rfl, ?_, trivial⟩, rfl, rfl, rfl, trivial⟩) | (refine ⟨6, by decide, _, _, [0, 1, 3], ⟨2, by decide, rfl, rfl, hle10.trans hle11, rfl⟩, ?_⟩; refine ⟨rfl, ⟨rfl, rfl, ?_, trivial⟩, rfl, rfl, rfl, trivial⟩) | (refine ⟨5, by decide, _, _, [0, 1, 3], ⟨3, by decide, rfl, rfl, hle10.trans hle11, rfl⟩, ?_⟩; refine ⟨rfl, ⟨rfl, rfl, ?_, trivial⟩, rfl, rfl, rfl, trivial⟩) | (refine ⟨4, by decide, _, _, [0, 1, 3], ⟨4, by decide, rfl, rfl, hle10.trans hle11, rfl⟩, ?_⟩; refine ⟨rfl, ⟨rfl, rfl, ?_, trivial⟩, rfl, rfl, rfl, trivial⟩) | (refine ⟨3, by decide, _, _, [0, 1, 3], ⟨5, by decide, rfl, rfl, hle10.trans hle11, rfl⟩, ?_⟩; refine ⟨rfl, ⟨rfl, rfl, ?_, trivial⟩, rfl, rfl, rfl, trivial⟩) | (refine ⟨2, by decide, _, _, [0, 1, 3], ⟨6, by decide, rfl, rfl, hle10.trans hle11, rfl⟩, ?_⟩; refine ⟨rfl, ⟨rfl, rfl, ?_, trivial⟩, rfl, rfl, rfl, trivial⟩) | (refine ⟨1, by decide, _, _, [0, 1, 3], ⟨7, by decide, rfl, rfl, hle10.trans hle11, rfl⟩, ?_⟩; refine ⟨rfl, ⟨rfl, rfl, ?_, trivial⟩, rfl, rfl, rfl, trivial⟩) | (refine ⟨0, by decide, _, _, [0, 1, 3], ⟨8, by decide, rfl, rfl, hle10.trans hle11, rfl⟩, ?_⟩; refine ⟨rfl, ⟨rfl, rfl, ?_, trivial⟩, rfl, rfl, rfl, trivial⟩)
         exact row_out _ _ _ _)
end Go.Kx.Sha
namespace Go.Kx.Sha
open Go.Proofs Go.Kx
set_option maxRecDepth 20000
namespace Ref1

def iCells (l : List (BitVec 32)) : List Value := l.map iW
theorem iget {bs : List UInt8} {t i off : Nat} (hi : i < t) (ho : off = i) : (iCells (schedN bs t))[off]? = some (iW ((schedN bs t).getD i 0)) := by
  subst ho
  have hl := schedN_length bs t
  unfold iCells
  rw [List.getElem?_map, List.getElem?_eq_getElem (by omega), List.getD_eq_getElem?_getD, List.getElem?_eq_getElem (by omega)]
  rfl
theorem iRow_succ {bs : List UInt8} {t n : Nat} {w : BitVec 32} (hw : schedN bs (t + 1) = schedN bs t ++ [w]) (hn : n = t + 1) : SB.row 3 1 n (iCells (schedN bs t) ++ [iW w]) = SB.row 3 1 (t + 1) (iCells (schedN bs (t + 1))) := by
  subst hn
  rw [hw]
  unfold iCells
  rw [List.map_append]
  rfl
def SI1 (bs : List UInt8) (a : Addr) (cap : Nat) (H : Hp) (m : Nat) (F : Fr) (H2 : Hp) (G : List SB) : Prop :=
  ∃ t : Nat, t ≤ 16 ∧ m = 16 - t ∧ F = [(0, pv (.slice (some a) 64 cap)), (3, .si (.ce (.self 0))), (4, pv (.int .i64 t))] ∧ H.Le H2 ∧ G = [.row 3 1 t (iCells (schedN bs t))]
def SI2 (bs : List UInt8) (H : Hp) (m : Nat) (F : Fr) (H2 : Hp) (G : List SB) : Prop :=
  ∃ t : Nat, 16 ≤ t ∧ t ≤ 64 ∧ m = 64 - t ∧ F = [(3, .si (.ce (.self 0))), (5, pv (.int .i64 t))] ∧ H.Le H2 ∧ G = [.row 3 1 t (iCells (schedN bs t))]
theorem schedule (bs : List UInt8) (a : Addr) (cap : Nat) (H : Hp) (hb : BytesAt H (some a) 64 bs) : CallO Tryz.prog 155 [pv (.slice (some a) 64 cap)] H [] fun e _ G' =>
    e = .ret (.si (.ce (.self 0))) ∧ G' = [.row 3 1 64 (iCells (schedN bs 64))] := by
  refine CallO.of_body tab Tryz.func155 rfl (nt := Tryz.f155.ntmps) rfl (by kernel_rfl) ?_
  (conv => whnf)
  refine WS.nilRow 3 3 1 rfl ?_
  (conv => whnf)
  refine WS.loop (SI1 bs a cap H) 17 ?_ ?_
  · refine ⟨16, by omega, _, _, [0], ⟨0, by omega, rfl, rfl, .refl _, rfl⟩, ?_⟩
    exact ⟨rfl, ⟨rfl, trivial⟩, rfl, rfl, rfl, trivial⟩
  rintro m F H2 G hle ⟨t, h2, rfl, rfl, hle2, rfl⟩
  refine codeL.go tab ?_
  (conv => whnf)
  refine br.of (fun h1 => ?_) (fun h1 => ?_) <;> (conv => whnf)
  · simp only [decide_eq_true_eq] at h1
    rw [wrap64 (x := 4 * (t : Int)) (by omega) (by omega), show 4 * (t : Int) = ((4 * t : Nat) : Int) by omega]
    refine ⟨⟨_, Tryz.func190, rfl, by kernel_rfl⟩, CallS.use (word_ t 64 bs a cap (by omega) H2 (hb.mono hle2) (by omega)) [] rfl rfl trivial ?_⟩
    rintro e H3 G' hle3 ⟨rfl, rfl, rfl⟩
    (conv => whnf)
    refine ⟨by decide, .inl ?_⟩
    intro g H4 hle4 hrd
    (conv => whnf)
    refine ⟨_, rfl, hrd, one_int _ _, ?_⟩
    (conv => whnf)
    refine ⟨by show _ * 9 ≤ _; omega, ?_⟩
    (conv => whnf)
    rw [wrap64 (x := (t : Int) + 1) (by omega) (by omega)]
    refine ⟨16 - (t + 1), by omega, _, _, [1], ⟨t + 1, by omega, rfl, rfl, hle2.trans hle4, rfl⟩, ?_⟩
    refine ⟨rfl, ⟨?_, trivial⟩, rfl, rfl, rfl, trivial⟩
    refine iRow_succ (w := word bs t) ?_ rfl
    show schedN bs t ++ [if t < 16 then _ else _] = _
    rw [if_pos (by omega)]
  · simp only [decide_eq_false_iff_not] at h1
    obtain rfl : t = 16 := by omega
    refine WS.loop (SI2 bs H) 49 ?_ ?_
    · refine ⟨48, by omega, _, _, [0], ⟨16, by omega, by omega, rfl, rfl, hle2, rfl⟩, ?_⟩
      exact ⟨rfl, ⟨rfl, trivial⟩, rfl, rfl, trivial⟩
    rintro m F H3 G hle3 ⟨t, h2, h3, rfl, rfl, hle4, rfl⟩
    refine codeL.go tab ?_
    (conv => whnf)
    refine br.of (fun h1 => ?_) (fun h1 => ?_) <;> (conv => whnf)
    · simp only [decide_eq_true_eq] at h1
      have q15 : IntKind.i64.wrap ((t : Int) - 15) = ((t - 15 : Nat) : Int) := by rw [wrap64 (by omega) (by omega)]; omega
      have q2 : IntKind.i64.wrap ((t : Int) - 2) = ((t - 2 : Nat) : Int) := by rw [wrap64 (by omega) (by omega)]; omega
      have q7 : IntKind.i64.wrap ((t : Int) - 7) = ((t - 7 : Nat) : Int) := by rw [wrap64 (by omega) (by omega)]; omega
      have q16 : IntKind.i64.wrap ((t : Int) - 16) = ((t - 16 : Nat) : Int) := by rw [wrap64 (by omega) (by omega)]; omega
      rw [q15]
      refine ⟨⟨by omega, by omega⟩, ?_⟩
      (conv => whnf)
      refine ⟨_, iget (i := t - 15) (by omega) (by simp), ?_⟩
      (conv => whnf)
      rw [q2]
      refine ⟨⟨by omega, by omega⟩, ?_⟩
      (conv => whnf)
      refine ⟨_, iget (i := t - 2) (by omega) (by simp), ?_⟩
      (conv => whnf)
      generalize hx2 : (schedN bs t).getD (t - 2) 0 = x2
      generalize hx15 : (schedN bs t).getD (t - 15) 0 = x15
      refine ⟨⟨_, Tryz.func157, rfl, by kernel_rfl⟩, CallS.use (turn x15 7 (by decide) (by decide) _) [] rfl rfl trivial ?_⟩
      rintro e H4 G' hle5 ⟨rfl, rfl, rfl⟩
      (conv => whnf)
      refine ⟨⟨_, Tryz.func157, rfl, by kernel_rfl⟩, CallS.use (turn x15 18 (by decide) (by decide) _) [] rfl rfl trivial ?_⟩
      rintro e H5 G' hle6 ⟨rfl, rfl, rfl⟩
      (conv => whnf)
      refine ⟨by decide, ?_⟩
      (conv => whnf)
      refine ⟨⟨_, Tryz.func157, rfl, by kernel_rfl⟩, CallS.use (turn x2 17 (by decide) (by decide) _) [] rfl rfl trivial ?_⟩
      rintro e H6 G' hle7 ⟨rfl, rfl, rfl⟩
      (conv => whnf)
      refine ⟨⟨_, Tryz.func157, rfl, by kernel_rfl⟩, CallS.use (turn x2 19 (by decide) (by decide) _) [] rfl rfl trivial ?_⟩
      rintro e H7 G' hle8 ⟨rfl, rfl, rfl⟩
      (conv => whnf)
      refine ⟨by decide, ?_⟩
      rw [i_xor, i_shr _ 3 8 rfl, i_xor, i_xor, i_shr _ 10 1024 rfl]
      (conv => whnf)
      rw [i_xor]
      refine WS.draw tab mixed (.take 0 (.take 1 (.take 2 (.take 3 (.take 4 (.take 8 (.take 10 (.take 11 (.take 12 (.alt 5 (.alt 6 (.take 7 (.take 9 (.alt 13 (.alt 14 (.take 15 (.alt 16 (.alt 17 (.alt 18 (.take 19 .done) .no) .no) .no)) .no) .no))) (.alt 13 (.alt 6 (.take 7 (.take 9 (.alt 14 (.take 15 (.alt 16 (.alt 17 (.alt 18 (.take 19 .done) .no) .no) .no)) .no))) (.alt 14 (.alt 6 (.take 7 (.take 9 (.take 15 (.alt 16 (.alt 17 (.alt 18 (.take 19 .done) .no) .no) .no)))) .no) .no)) .no)) (.alt 13 (.alt 5 (.alt 6 (.take 7 (.take 9 (.alt 14 (.take 15 (.alt 16 (.alt 17 (.alt 18 (.take 19 .done) .no) .no) .no)) .no))) (.alt 14 (.alt 6 (.take 7 (.take 9 (.take 15 (.alt 16 (.alt 17 (.alt 18 (.take 19 .done) .no) .no) .no)))) .no) .no)) (.alt 14 (.alt 5 (.alt 6 (.take 7 (.take 9 (.take 15 (.alt 16 (.alt 17 (.alt 18 (.take 19 .done) .no) .no) .no)))) .no) .no) .no)) .no))))))))))) (by kernel_rfl) [0] ?_
      have i7 : 0 ≤ IntKind.i64.wrap ((t : Int) - 7) ∧ IntKind.i64.wrap ((t : Int) - 7) < (t : Int) := by rw [q7]; omega
      have i16 : 0 ≤ IntKind.i64.wrap ((t : Int) - 16) ∧ IntKind.i64.wrap ((t : Int) - 16) < (t : Int) := by rw [q16]; omega
      generalize hw7 : (schedN bs t).getD (t - 7) 0 = x7
      generalize hw16 : (schedN bs t).getD (t - 16) 0 = x16
      have l7 : ∀ off, off = t - 7 → (iCells (schedN bs t))[off]? = some (iW x7) := fun off ho => by rw [← hw7]; exact iget (by omega) ho
      have l16 : ∀ off, off = t - 16 → (iCells (schedN bs t))[off]? = some (iW x16) := fun off ho => by rw [← hw16]; exact iget (by omega) ho
      have hw : schedN bs (t + 1) = schedN bs t ++ [sg1 x2 + x7 + sg0 x15 + x16] := by
        show schedN bs t ++ [if t < 16 then _ else _] = _
        rw [if_neg (by omega), hx2, hw7, hx15, hw16]
      (conv => whnf)
      repeat' (first
        | exact trivial
        | exact rfl
        | exact ⟨_, Tryz.func156, rfl, by kernel_rfl⟩
        | (refine ⟨i7, ?_⟩; (conv => whnf))
        | (refine ⟨i16, ?_⟩; (conv => whnf))
        | (refine ⟨_, l7 _ (by rw [q7]; simp), ?_⟩; (conv => whnf))
        | (refine ⟨_, l16 _ (by rw [q16]; simp), ?_⟩; (conv => whnf))
        | (refine CallS.use (top4 (sg1 x2) x7 (sg0 x15) x16 _) [] rfl rfl trivial ?_; rintro e H8 G' hle9 ⟨rfl, rfl, rfl⟩; (conv => whnf))
        | (refine ⟨by decide, .inl ?_⟩; intro g H9 hle10 hrd; (conv => whnf))
        | (refine ⟨_, rfl, hrd, one_int _ _, ?_⟩; (conv => whnf))
        | (refine ⟨by show _ * 9 ≤ _; omega, ?_⟩; (conv => whnf))
        | (rw [wrap64 (x := (t : Int) + 1) (by omega) (by omega)]
           refine ⟨64 - (t + 1), by omega, _, _, [1], ⟨t + 1, by omega, by omega, rfl, rfl, hle4.trans hle10, rfl⟩, ?_⟩
           refine ⟨rfl, ⟨?_, trivial⟩, rfl, rfl, trivial⟩
           exact iRow_succ hw rfl)
        | (refine And.intro ?_ ?_ <;> (conv => whnf)))
    · simp only [decide_eq_false_iff_not] at h1
      obtain rfl : t = 64 := by omega
      exact ⟨rfl, rfl⟩
end Ref1
end Go.Kx.Sha
namespace Go.Kx.Sha
open Go.Proofs Go.Kx
set_option maxRecDepth 20000

def PartAt (H : Hp) (v : Value) (p : List UInt8) : Prop := ∃ A n cap, v = .slice A n cap ∧ BytesAt H A n p
theorem PartAt.mono {H H' : Hp} (h : H.Le H') {v : Value} {p : List UInt8} (hp : PartAt H v p) : PartAt H' v p := let ⟨A, n, cap, e, hb⟩ := hp; ⟨A, n, cap, e, hb.mono h⟩
def PartsAt (H : Hp) (A : Option Addr) (n : Nat) (ps : List (List UInt8)) : Prop := ∃ vs : List Value, n = vs.length ∧ RdN H A 0 vs ∧ All2 (PartAt H) vs ps
theorem PartsAt.mono {H H' : Hp} (h : H.Le H') {A : Option Addr} {n : Nat} {ps : List (List UInt8)} (hp : PartsAt H A n ps) : PartsAt H' A n ps :=
  let ⟨vs, h1, h2, h3⟩ := hp; ⟨vs, h1, h2.mono h, h3.mono fun _ _ => PartAt.mono h⟩
theorem PartsAt.length {H : Hp} {A : Option Addr} {n : Nat} {ps : List (List UInt8)} (hp : PartsAt H A n ps) : n = ps.length := by
  obtain ⟨vs, h1, _, h3⟩ := hp; rw [h1, h3.length]
theorem PartsAt.addr {H : Hp} {A : Option Addr} {n : Nat} {ps : List (List UInt8)} (hp : PartsAt H A n ps) : ∃ b o, A = some ⟨b, o, none⟩ := by
  obtain ⟨vs, _, ⟨b, o, h1, _⟩, _⟩ := hp; exact ⟨b, o, h1⟩
theorem PartsAt.get {H : Hp} {A : Option Addr} {n : Nat} {ps : List (List UInt8)} (hp : PartsAt H A n ps) {i : Nat} {p : List UInt8} (hi : ps[i]? = some p) {off : Nat} (ho : off = i) : ∃ B m cap, RdC H A off (.slice B m cap) ∧ BytesAt H B m p := by
  obtain ⟨vs, _, ⟨b, o, h1, h2⟩, h3⟩ := hp
  obtain ⟨v, hv, B, m, cap, rfl, hb⟩ := h3.get' hi
  refine ⟨B, m, cap, ⟨b, o, h1, ?_⟩, hb⟩
  subst ho
  exact h2 _ _ hv
def upto (ps : List (List UInt8)) (i : Nat) : List UInt8 := (ps.take i).flatten
theorem upto_succ {ps : List (List UInt8)} {i : Nat} {p : List UInt8} (h : ps[i]? = some p) : upto ps (i + 1) = upto ps i ++ p := by
  obtain ⟨hi, rfl⟩ := List.getElem?_eq_some_iff.1 h
  unfold upto
  rw [List.take_succ_eq_append_getElem hi, List.flatten_append]; simp
theorem upto_le (ps : List (List UInt8)) (i : Nat) : (upto ps i).length ≤ ps.flatten.length := by
  have : ps.flatten = upto ps i ++ (ps.drop i).flatten := by unfold upto; rw [← List.flatten_append, List.take_append_drop]
  rw [this, List.length_append]; omega
theorem upto_all {ps : List (List UInt8)} {i : Nat} (h : ps.length ≤ i) : upto ps i = ps.flatten := by unfold upto; rw [List.take_of_length_le h]
theorem sumAll0 (ps : List (List UInt8)) (A : Option Addr) (n cap : Nat) (H : Hp) (hp : PartsAt H A n ps) (hl : ps.flatten.length ≤ 1000000000) (hn : n ≤ 1000000) :
    CallO Tryz.prog 124 [pv (.slice A n cap)] H [] fun e _ G' => e = .ret (.si (.ce (.self 0))) ∧ G' = [.row 5 1 32 (bCells (sha ps.flatten))] := by
  refine CallO.sub (K0 := fun e _ G' => e = .ret (.si (.ce (.self 2))) ∧ G' = [hBox 1 ps.flatten, hRow ps.flatten, .row 5 1 32 (bCells (sha ps.flatten))]) ?_ ?_
  · refine CallO.of_body tab Tryz.func124 rfl (nt := Tryz.f124.ntmps) rfl (by kernel_rfl) ?_
    (conv => whnf)
    refine ⟨⟨_, Tryz.func121, rfl, by kernel_rfl⟩, CallS.use (new_ H) [] rfl rfl trivial ?_⟩
    rintro e H' G' hle ⟨rfl, rfl, rfl⟩
    (conv => whnf)
    have hpl := hp.length
    refine WS.loop (fun k F H2 G => ∃ i : Nat, i ≤ n ∧ k = n - i ∧ F = [(3, .si (.ce (.ptr 0 0))), (7, pv (.slice A n cap)), (8, pv (.int .i64 n)), (9, pv (.int .i64 i))] ∧ H'.Le H2 ∧ G = [hBox 1 (upto ps i), hRow (upto ps i)]) (n + 1) ?_ ?_
    · refine ⟨n, by omega, _, _, [0, 1], ⟨0, by omega, rfl, rfl, .refl _, rfl⟩, ?_⟩
      exact ⟨rfl, ⟨rfl, rfl, trivial⟩, rfl, rfl, rfl, rfl, trivial⟩
    rintro k F H2 G hle2 ⟨i, hi, rfl, rfl, hle3, rfl⟩
    refine codeL.go tab ?_
    (conv => whnf)
    refine br.of (fun h1 => ?_) (fun h1 => ?_) <;> (conv => whnf)
    · simp only [decide_eq_true_eq] at h1
      have hx : ps[i]? = some ps[i] := List.getElem?_eq_getElem (by omega)
      obtain ⟨B, m, c, hrd, hb⟩ := (hp.mono hle3).get hx rfl
      have hu := upto_succ hx
      have hul := upto_le ps (i + 1)
      rw [hu, List.length_append] at hul
      refine ⟨⟨by omega, h1⟩, hp.addr, ?_⟩
      (conv => whnf)
      refine ⟨.slice B m c, by simpa using hrd, ?_⟩
      (conv => whnf)
      refine ⟨⟨_, Tryz.func122, rfl, by kernel_rfl⟩, CallS.use (write (upto ps i) ps[i] B m c H2 hb (by rw [hb.1]; exact Nat.le_trans hul hl)) [0, 1] rfl rfl ⟨rfl, rfl, trivial⟩ ?_⟩
      rintro e H3 G' hle4 ⟨rfl, rfl, rfl⟩
      (conv => whnf)
      rw [wrap64 (x := (i : Int) + 1) (by omega) (by omega)]
      refine ⟨n - (i + 1), by omega, _, _, [0, 2], ⟨i + 1, by omega, rfl, rfl, hle3, rfl⟩, ?_⟩
      refine ⟨rfl, ⟨?_, ?_, trivial⟩, rfl, rfl, rfl, rfl, trivial⟩
      · rw [hu]; rfl
      · rw [hu]; rfl
    · simp only [decide_eq_false_iff_not] at h1
      rw [upto_all (ps := ps) (i := i) (by omega)]
      refine ⟨⟨_, Tryz.func125, rfl, by kernel_rfl⟩, CallS.use (sum ps.flatten H2 hl) [0, 1] rfl rfl ⟨rfl, rfl, trivial⟩ ?_⟩
      rintro e H3 G' hle4 ⟨rfl, rfl⟩
      (conv => whnf)
      exact ⟨rfl, rfl⟩
  · rintro e H' G' hle ⟨rfl, rfl⟩
    exact ⟨.si (.ce (.self 0)), [.row 5 1 32 (bCells (sha ps.flatten))], [2], rfl, ⟨rfl, trivial⟩, rfl, rfl, rfl⟩
theorem sumAll (ps : List (List UInt8)) (A : Option Addr) (n cap : Nat) (H : Hp) (hp : PartsAt H A n ps) (hl : ps.flatten.length ≤ 1000000000) (hn : n ≤ 1000000) :
    CallO Tryz.prog 124 [pv (.slice A n cap)] H [] fun e H' G' => RetB (sha ps.flatten) e H' ∧ G' = [] := CallO.bytes rfl (sumAll0 ps A n cap H hp hl hn)
end Go.Kx.Sha
namespace Go.Kx.Sha
open Go.Proofs Go.Kx
set_option maxRecDepth 20000
namespace Ref1

def St8.ints (s : St8) : List Value := [iW s.a, iW s.b, iW s.c, iW s.d, iW s.e, iW s.f, iW s.g, iW s.h]
def addI (s t : St8) : Nat → List Value
  | 0 => St8.ints s
  | 1 => St8.ints (St8.mk (s.a + t.a) s.b s.c s.d s.e s.f s.g s.h)
  | 2 => St8.ints (St8.mk (s.a + t.a) (s.b + t.b) s.c s.d s.e s.f s.g s.h)
  | 3 => St8.ints (St8.mk (s.a + t.a) (s.b + t.b) (s.c + t.c) s.d s.e s.f s.g s.h)
  | 4 => St8.ints (St8.mk (s.a + t.a) (s.b + t.b) (s.c + t.c) (s.d + t.d) s.e s.f s.g s.h)
  | 5 => St8.ints (St8.mk (s.a + t.a) (s.b + t.b) (s.c + t.c) (s.d + t.d) (s.e + t.e) s.f s.g s.h)
  | 6 => St8.ints (St8.mk (s.a + t.a) (s.b + t.b) (s.c + t.c) (s.d + t.d) (s.e + t.e) (s.f + t.f) s.g s.h)
  | 7 => St8.ints (St8.mk (s.a + t.a) (s.b + t.b) (s.c + t.c) (s.d + t.d) (s.e + t.e) (s.f + t.f) (s.g + t.g) s.h)
  | _ => St8.ints (s.add t)
def padT (m : List UInt8) (z : Nat) : List UInt8 := m ++ 128 :: List.replicate z 0
theorem padT_length (m : List UInt8) (z : Nat) : (padT m z).length = m.length + 1 + z := by simp [padT]; omega
def LPad (m : List UInt8) (A : Option Addr) (n cap : Nat) (H : Hp) (k : Nat) (F : Fr) (H2 : Hp) (G : List SB) : Prop :=
  ∃ z : Nat, z ≤ padN n ∧ k = padN n - z ∧ F = [(0, pv (.slice A n cap)), (3, .si (.ce (.self 0)))] ∧ H.Le H2 ∧ G = [.row 5 1 (n + 1 + z) (bCells (padT m z))]
theorem tail_cells (m : List UInt8) {n : Nat} (hn : n = m.length) (hl : n ≤ 1000000) : bCells (padT m (padN n)) ++ [Value.int .u8 0, .int .u8 0, .int .u8 0, .int .u8 0] ++ [Value.int .u8 (IntKind.u8.wrap (IntKind.i64.wrap (((8 * n : Nat) : Int).tdiv 16777216))), .int .u8 (IntKind.u8.wrap ((IntKind.i64.wrap (((8 * n : Nat) : Int).tdiv 65536)).tmod 256)),
    .int .u8 (IntKind.u8.wrap ((IntKind.i64.wrap (((8 * n : Nat) : Int).tdiv 256)).tmod 256)), .int .u8 (IntKind.u8.wrap (((8 * n : Nat) : Int).tmod 256))] = bCells (tailOf m m.length) := by
  have e1 : tailOf m m.length = padT m (padN n) ++ be8 (8 * n) := by subst hn; unfold tailOf padT; simp
  rw [e1, ← bCells_append, List.append_assoc]
  congr 1
  have hd : ∀ p : Nat, (((8 * n : Nat) : Int).tdiv (p : Int)) = ((8 * n / p : Nat) : Int) := fun p => by rw [Int.tdiv_eq_ediv_of_nonneg (by omega), ← Int.natCast_ediv]
  have hm : ∀ q : Nat, ((q : Int).tmod 256) = ((q % 256 : Nat) : Int) := fun q => by rw [Int.tmod_eq_emod_of_nonneg (by omega)]; omega
  have hw : ∀ p : Nat, IntKind.i64.wrap ((8 * n / p : Nat) : Int) = ((8 * n / p : Nat) : Int) := fun p => by
    have := Nat.div_le_self (8 * n) p
    generalize 8 * n / p = q at *
    rw [wrap64 (by omega) (by omega)]
  have hb : ∀ q : Nat, IntKind.u8.wrap ((q : Nat) : Int) = ((byteOf (q : Int)).toNat : Int) := fun q => by rw [wrap8, byteOf_toNat]
  have hb2 : ∀ q : Nat, IntKind.u8.wrap ((q % 256 : Nat) : Int) = ((byteOf (q : Int)).toNat : Int) := fun q => by rw [wrap8, byteOf_toNat]; omega
  have h1 : (((8 * n : Nat) : Int).tdiv 16777216) = ((8 * n / 16777216 : Nat) : Int) := hd 16777216
  have h2 : (((8 * n : Nat) : Int).tdiv 65536) = ((8 * n / 65536 : Nat) : Int) := hd 65536
  have h3 : (((8 * n : Nat) : Int).tdiv 256) = ((8 * n / 256 : Nat) : Int) := hd 256
  rw [h1, h2, h3, hw, hw, hw, hm, hm, hm, hb, hb2, hb2, hb2]
  unfold be8
  rw [show 8 * n / 2 ^ 56 = 0 from Nat.div_eq_of_lt (by omega), show 8 * n / 2 ^ 48 = 0 from Nat.div_eq_of_lt (by omega), show 8 * n / 2 ^ 40 = 0 from Nat.div_eq_of_lt (by omega), show 8 * n / 2 ^ 32 = 0 from Nat.div_eq_of_lt (by omega)]
  rfl
theorem BytesAt.cut {H : Hp} {a : Addr} {n : Nat} {bs : List UInt8} (hb : BytesAt H (some a) n bs) {c lo hi : Nat} (h1 : lo < hi) (h2 : hi ≤ n) (h3 : n ≤ c) : ∃ a', subA (some a) c lo 1 = some a' ∧ BytesAt H (some a') (hi - lo) ((bs.drop lo).take (hi - lo)) := by
  obtain ⟨hn, -, hrd⟩ := hb
  obtain ⟨b, o, hab, hrd2⟩ := hrd a rfl
  injection hab with hab
  subst hab
  refine ⟨⟨b, o + lo * 1, none⟩, ?_, ?_⟩
  · unfold subA
    rw [if_neg (by omega)]
    simp [Addr.add_lit]
  refine BytesAt.lit (by simp; omega) ⟨b, _, rfl, fun j x hx => ?_⟩
  have := hrd2 (lo + j) x (by
    unfold bCells at hx ⊢
    rw [List.getElem?_map] at hx ⊢
    rw [List.getElem?_take] at hx
    split at hx
    · rw [List.getElem?_drop] at hx; exact hx
    · cases hx)
  rw [← this]
  congr 1
  omega
theorem compressP_take (x : List UInt8) (s : St8) : compressP (x.take 64) s = compressP x s := by
  refine compressP_ext (fun i hi => ?_) s
  unfold byteN
  rw [List.getD_eq_getElem?_getD, List.getElem?_take, if_pos hi, ← List.getD_eq_getElem?_getD]
theorem ints_one (s : St8) : ∀ u ∈ St8.ints s, u.oneCell' = true := by
  intro u hu
  simp only [St8.ints, List.mem_cons, List.not_mem_nil, or_false] at hu
  rcases hu with rfl | rfl | rfl | rfl | rfl | rfl | rfl | rfl <;> rfl
theorem rdI {H H' : Hp} (h : H.Le H') {a : Addr} {xs : List Value} (hr : RdN H (some a) 0 xs) {k : Nat} {x : Value} (hk : xs[k]? = some x) {off : Nat} (ho : off = k) : RdC H' (some a) off x := by
  subst ho
  obtain ⟨b, o, h1, h2⟩ := hr
  exact ⟨b, o, h1, h _ _ _ (h2 _ _ hk)⟩
theorem rdI0 {H H' : Hp} (h : H.Le H') {a : Addr} {xs : List Value} (hr : RdN H (some a) 0 xs) {x : Value} {off : Nat} (hk : xs[off]? = some x) : RdC H' (some a) off x := rdI h hr hk rfl
theorem kget {t off : Nat} (ht : t < 64) (ho : off = t) : (kTab.map iW)[off]? = some (iW (kAt t)) := by
  subst ho
  have hl : kTab.length = 64 := rfl
  rw [List.getElem?_map, kAt, List.getD_eq_getElem?_getD, List.getElem?_eq_getElem (by omega)]
  rfl
theorem wget64 {bl : List UInt8} {t off : Nat} (ht : t < 64) (ho : off = t) : (iCells (schedN bl 64))[off]? = some (iW (wAt bl t)) := iget ht ho
theorem topT1 (R : St8) (k w : BitVec 32) (H : Hp) : CallO Tryz.prog 156 [pv (.int .i64 (IntKind.i64.wrap (IntKind.i64.wrap (IntKind.i64.wrap (IntKind.i64.wrap (u R.h + u (R.e.rotateRight 6 ^^^ R.e.rotateRight 11 ^^^ R.e.rotateRight 25)) + u ((R.e &&& R.f) ^^^ (~~~ R.e &&& R.g))) + u k) + u w)))] H []
    fun e H' G' => e = .ret (pv (iW (R.t1 k w))) ∧ H' = H ∧ G' = [] := top5 R.h (Sg1 R.e) ((R.e &&& R.f) ^^^ (~~~ R.e &&& R.g)) k w H
theorem topT2 (R : St8) (H : Hp) : CallO Tryz.prog 156 [pv (.int .i64 (IntKind.i64.wrap (u (R.a.rotateRight 2 ^^^ R.a.rotateRight 13 ^^^ R.a.rotateRight 22) + u ((R.a &&& R.b) ^^^ (R.a &&& R.c) ^^^ (R.b &&& R.c)))))] H []
    fun e H' G' => e = .ret (pv (iW R.t2)) ∧ H' = H ∧ G' = [] := top2 (Sg0 R.a) ((R.a &&& R.b) ^^^ (R.a &&& R.c) ^^^ (R.b &&& R.c)) H
def TR (bl : List UInt8) (S0 : St8) (L i : Nat) (a ka : Addr) (c : Nat) (H : Hp) (k : Nat) (F : Fr) (H2 : Hp) (G : List SB) : Prop :=
  ∃ (t : Nat) (sb so cs : Nat), t ≤ 64 ∧ k = 64 - t ∧ F = [(3, pv (.slice (some a) L c)), (5, pv (.slice (some ka) 64 64)), (6, .si (.ce (.self 0))), (7, pv (.int .i64 ((64 * i : Nat) : Int))), (8, .si (.ce (.self 1))), (9, pv (.slice (some ⟨sb, so, none⟩) 8 cs)), (10, pv (.int .i64 t))] ∧ H.Le H2 ∧
    RdN H2 (some ⟨sb, so, none⟩) 0 (St8.ints (rounds bl S0 t)) ∧ G = [.row 3 1 8 (St8.ints S0), .row 3 1 64 (iCells (schedN bl 64))]
theorem be4_cellsI (x : BitVec 32) : [Value.int .u8 (IntKind.u8.wrap (IntKind.i64.wrap ((u x).tdiv 16777216))), .int .u8 (IntKind.u8.wrap ((IntKind.i64.wrap ((u x).tdiv 65536)).tmod 256)), .int .u8 (IntKind.u8.wrap ((IntKind.i64.wrap ((u x).tdiv 256)).tmod 256)), .int .u8 (IntKind.u8.wrap ((u x).tmod 256))] = bCells (be4 x) := by
  have hx := x.isLt
  have hd : ∀ p : Nat, ((x.toNat : Int).tdiv (p : Int)) = ((x.toNat / p : Nat) : Int) := fun p => by rw [Int.tdiv_eq_ediv_of_nonneg (by omega), ← Int.natCast_ediv]
  have hm : ∀ q : Nat, ((q : Int).tmod 256) = ((q % 256 : Nat) : Int) := fun q => by rw [Int.tmod_eq_emod_of_nonneg (by omega)]; omega
  have hw : ∀ p : Nat, IntKind.i64.wrap ((x.toNat / p : Nat) : Int) = ((x.toNat / p : Nat) : Int) := fun p => by
    have := Nat.div_le_self x.toNat p
    generalize x.toNat / p = q at *
    rw [wrap64 (by omega) (by omega)]
  have hb : ∀ q : Nat, IntKind.u8.wrap ((q : Nat) : Int) = ((byteOf (q : Int)).toNat : Int) := fun q => by rw [wrap8, byteOf_toNat]
  have hb2 : ∀ q : Nat, IntKind.u8.wrap ((q % 256 : Nat) : Int) = ((byteOf (q : Int)).toNat : Int) := fun q => by rw [wrap8, byteOf_toNat]; omega
  have h1 : ((x.toNat : Int).tdiv 16777216) = ((x.toNat / 16777216 : Nat) : Int) := hd 16777216
  have h2 : ((x.toNat : Int).tdiv 65536) = ((x.toNat / 65536 : Nat) : Int) := hd 65536
  have h3 : ((x.toNat : Int).tdiv 256) = ((x.toNat / 256 : Nat) : Int) := hd 256
  unfold u
  rw [h1, h2, h3, hw, hw, hw, hm, hm, hm, hb, hb2, hb2, hb2]
  rfl
theorem row_outI (t : TypeId) (n : Nat) (a : List UInt8) (x : BitVec 32) : SB.row t 1 (n + 4) (bCells a ++ [Value.int .u8 (IntKind.u8.wrap (IntKind.i64.wrap ((u x).tdiv 16777216))), .int .u8 (IntKind.u8.wrap ((IntKind.i64.wrap ((u x).tdiv 65536)).tmod 256)), .int .u8 (IntKind.u8.wrap ((IntKind.i64.wrap ((u x).tdiv 256)).tmod 256)), .int .u8 (IntKind.u8.wrap ((u x).tmod 256))]) = SB.row t 1 (n + 4) (bCells (a ++ be4 x)) := by
  rw [be4_cellsI, bCells_append]
def UI (S : St8) (H : Hp) (k : Nat) (F : Fr) (H2 : Hp) (G : List SB) : Prop :=
  ∃ j : Nat, j ≤ 8 ∧ k = 8 - j ∧ F = [(6, .si (.ce (.self 0))), (16, .si (.ce (.self 1))), (17, pv (.int .i64 j))] ∧ H.Le H2 ∧ G = [.row 3 1 8 (St8.ints S), .row 5 1 (4 * j) (bCells (outT S j))]
def JI (S0 R : St8) (L i : Nat) (a ka : Addr) (c : Nat) (sa : Addr) (cs : Nat) (H : Hp) (k : Nat) (F : Fr) (H2 : Hp) (G : List SB) : Prop :=
  ∃ j : Nat, j ≤ 8 ∧ k = 8 - j ∧ F = [(3, pv (.slice (some a) L c)), (5, pv (.slice (some ka) 64 64)), (6, .si (.ce (.self 0))), (7, pv (.int .i64 ((64 * i : Nat) : Int))), (9, pv (.slice (some sa) 8 cs)), (15, pv (.int .i64 j))] ∧ H2 = H ∧ G = [.row 3 1 8 (addI S0 R j)]
theorem addI_all (s t : St8) : addI s t 8 = St8.ints (t.add s) := by
  show St8.ints (s.add t) = _
  unfold St8.add
  simp only [BitVec.add_comm]
def OI (all : List UInt8) (a ka : Addr) (c : Nat) (H : Hp) (k : Nat) (F : Fr) (H2 : Hp) (G : List SB) : Prop :=
  ∃ i : Nat, i ≤ all.length / 64 ∧ k = all.length / 64 - i ∧ F = [(3, pv (.slice (some a) all.length c)), (5, pv (.slice (some ka) 64 64)), (6, .si (.ce (.self 0))), (7, pv (.int .i64 ((64 * i : Nat) : Int)))] ∧ H.Le H2 ∧
    G = [.row 3 1 8 (St8.ints (blocks i init8 all))]
set_option maxHeartbeats 4000000 in
theorem sum0 (m : List UInt8) (A : Option Addr) (n cap : Nat) (H : Hp) (hm : BytesAt H A n m) (hl : n ≤ 1000000) :
    CallO Tryz.prog 112 [pv (.slice A n cap)] H [] fun e _ G' => ∃ xs, e = .ret (.si (.ce (.self 1))) ∧ G' = [.row 3 1 8 xs, .row 5 1 32 (bCells (sha m))] := by
  refine CallO.of_bodyW tab Tryz.func112 rfl (nt := Tryz.f112.ntmps) rfl (by kernel_rfl) ?_
  refine W.seqS (codeX_ok tab _ ?_)
  (conv => whnf)
  refine WS.seqTo tab (fun F H2 G => H.Le H2 ∧ F = [(0, pv (.slice A n cap)), (3, .si (.ce (.self 0)))] ∧ G = [.row 5 1 (n + 1) (bCells (padT m 0))]) ?_ ?_
  · obtain ⟨hn, hA, hrd⟩ := hm
    (conv => whnf)
    refine ⟨by decide, .inr ⟨rfl, ?_⟩⟩
    (conv => whnf)
    cases A with
    | none =>
      have hm0 := hA rfl
      have hn0 : n = 0 := by rw [hn, hm0]; rfl
      subst hn0
      subst hm0
      (conv => whnf)
      refine ⟨by decide, ?_⟩
      (conv => whnf)
      refine ⟨by decide, .inl ?_⟩
      intro g H2 hle hrd2
      (conv => whnf)
      refine ⟨_, rfl, hrd2, one_int _ _, ?_⟩
      (conv => whnf)
      refine ⟨by decide, ?_⟩
      (conv => whnf)
      refine ⟨_, _, [2], ⟨hle, rfl, rfl⟩, ?_⟩
      exact ⟨rfl, ⟨rfl, trivial⟩, rfl, rfl, trivial⟩
    | some a =>
      (conv => whnf)
      refine ⟨bCells m, by rw [bCells_length, hn]; exact (Nat.mul_one _).symm, hrd a rfl, bCells_one m, ?_⟩
      (conv => whnf)
      refine ⟨by show (0 + n) * 2 ≤ _; omega, ?_⟩
      (conv => whnf)
      refine ⟨by decide, .inl ?_⟩
      intro g H2 hle hrd2
      (conv => whnf)
      refine ⟨_, rfl, hrd2, one_int _ _, ?_⟩
      (conv => whnf)
      refine ⟨by show (0 + n + 1) * 2 ≤ _; omega, ?_⟩
      (conv => whnf)
      refine ⟨_, _, [2], ⟨hle, rfl, rfl⟩, ?_⟩
      refine ⟨rfl, ⟨?_, trivial⟩, rfl, rfl, trivial⟩
      show SB.row 5 1 (0 + n + 1) (([] ++ bCells m) ++ bCells [128]) = SB.row 5 1 (n + 1) (bCells (padT m 0))
      rw [List.nil_append, bCells_append, Nat.zero_add]
      rfl
  · rintro F H2 G hle ⟨hle2, rfl, rfl⟩
    refine codeL.go tab ?_
    (conv => whnf)
    refine WS.loop (LPad m A n cap H) 65 ?_ ?_
    · refine ⟨padN n, by unfold padN; omega, _, _, [0], ⟨0, by omega, rfl, rfl, hle2, rfl⟩, ?_⟩
      exact ⟨rfl, ⟨rfl, trivial⟩, rfl, rfl, trivial⟩
    rintro k F H3 G hle3 ⟨z, hz, rfl, rfl, hle4, rfl⟩
    refine codeL.go tab ?_
    (conv => whnf)
    have hn := hm.1
    refine ⟨by decide, ?_⟩
    (conv => whnf)
    have e64 : Int.tmod ((n + 1 + z : Nat) : Int) 64 = (((n + 1 + z) % 64 : Nat) : Int) := by rw [Int.tmod_eq_emod_of_nonneg (by omega)]; omega
    rw [e64]
    refine br.of (fun h1 => ?_) (fun h1 => ?_) <;> (conv => whnf)
    · simp only [bne_iff_ne, ne_eq] at h1
      have h2 : z < padN n := by unfold padN at *; omega
      refine ⟨by decide, .inl ?_⟩
      intro g H4 hle5 hrd2
      (conv => whnf)
      refine ⟨_, rfl, hrd2, one_int _ _, ?_⟩
      (conv => whnf)
      refine ⟨by show _ * 2 ≤ _; unfold padN at *; omega, ?_⟩
      (conv => whnf)
      refine ⟨padN n - (z + 1), by omega, _, _, [1], ⟨z + 1, by omega, rfl, rfl, hle4.trans hle5, rfl⟩, ?_⟩
      refine ⟨rfl, ⟨?_, trivial⟩, rfl, rfl, trivial⟩
      show SB.row 5 1 (n + 1 + z + 1) (bCells (padT m z) ++ bCells [0]) = SB.row 5 1 (n + 1 + (z + 1)) (bCells (padT m (z + 1)))
      rw [bCells_append]
      unfold padT
      rw [List.replicate_succ', List.append_assoc]
      rfl
    · simp only [bne_eq_false_iff_eq] at h1
      have h2 : z = padN n := by unfold padN at *; omega
      subst h2
      refine ⟨by decide, .inl ?_⟩
      intro g H4 hle5 hrd2
      (conv => whnf)
      refine ⟨_, rfl, hrd2, ones4 _ _ _ _ _, ?_⟩
      (conv => whnf)
      refine ⟨by show _ * 2 ≤ _; unfold padN at *; omega, ?_⟩
      (conv => whnf)
      rw [wrap64 (x := 8 * (n : Int)) (by omega) (by omega), show 8 * (n : Int) = ((8 * n : Nat) : Int) by omega]
      iterate 6 (refine ⟨by decide, ?_⟩; (conv => whnf))
      refine ⟨by decide, .inl ?_⟩
      intro g2 H5 hle6 hrd3
      (conv => whnf)
      refine ⟨_, rfl, hrd3, ones4 _ _ _ _ _, ?_⟩
      (conv => whnf)
      refine ⟨by show _ * 2 ≤ _; unfold padN at *; omega, ?_⟩
      (conv => whnf)
      refine ⟨⟨_, Tryz.func153, rfl, by kernel_rfl⟩, CallS.use (keys_ _) [] rfl rfl trivial ?_⟩
      rintro e H6 G' hle7 ⟨⟨ka, rfl, hk⟩, rfl⟩
      (conv => whnf)
      refine ⟨⟨_, Tryz.func154, rfl, by kernel_rfl⟩, CallS.use (first_ _) [] rfl rfl trivial ?_⟩
      rintro e H7 G' hle8 ⟨rfl, rfl, rfl⟩
      (conv => whnf)
      have hal : (tailOf m m.length).length = n + 1 + padN n + 4 + 4 := by rw [tailOf_length, hn]
      have hmod := tailOf_mod m m.length
      refine WS.frz 2 (t := 5) (sz := 1) (m := (tailOf m m.length).length) (xs := bCells (tailOf m m.length)) ?_ ?_ ?_
      · show some (SB.row 5 1 (n + 1 + padN n + 4 + 4) _) = _
        rw [tail_cells m hn hl, hal]
      · intro h0; omega
      intro x H8 hle9 hfr
      rw [show sha m = outB (blocks ((tailOf m m.length).length / 64) init8 (tailOf m m.length)) by unfold sha hst; rfl]
      have hpn : padN n < 64 := by unfold padN; omega
      generalize tailOf m m.length = all at *
      obtain ⟨a, c, rfl, hc, hb⟩ : ∃ a c, x = .slice (some a) all.length c ∧ all.length ≤ c ∧ BytesAt H8 (some a) all.length all := by
        rcases hfr with ⟨_, h0, _⟩ | ⟨g, o, c, rfl, h1, h2⟩
        · omega
        · exact ⟨_, c, rfl, h1, BytesAt.lit rfl h2⟩
      refine WS.loop (OI all a ka c H8) (all.length / 64 + 1) ?_ ?_
      · refine ⟨all.length / 64, by omega, _, _, [3], ⟨0, by omega, rfl, rfl, .refl _, rfl⟩, ?_⟩
        exact ⟨rfl, ⟨rfl, trivial⟩, rfl, rfl, rfl, rfl, trivial⟩
      rintro k F H9 G hle10 ⟨i, hi, rfl, rfl, hle11, rfl⟩
      refine codeL.go tab ?_
      (conv => whnf)
      refine br.of (fun h3 => ?_) (fun h3 => ?_) <;> (conv => whnf)
      · simp only [decide_eq_true_eq] at h3
        rw [wrap64 (x := ((64 * i : Nat) : Int) + 64) (by omega) (by omega), show ((64 * i : Nat) : Int) + 64 = ((64 * (i + 1) : Nat) : Int) by omega]
        refine ⟨by omega, ?_⟩
        (conv => whnf)
        obtain ⟨a', ha', hb'⟩ := (BytesAt.cut (hb.mono hle11) (c := c) (lo := 64 * i) (hi := 64 * (i + 1)) (by omega) (by omega) hc)
        generalize hS : subA (some a) c _ _ = S
        rw [Int.toNat_natCast] at hS
        obtain rfl : S = some a' := hS.symm.trans ha'
        rw [Int.toNat_natCast, Int.toNat_natCast, show 64 * (i + 1) - 64 * i = 64 by omega]
        rw [show 64 * (i + 1) - 64 * i = 64 by omega] at hb'
        have hbl := blocks_succ i init8 all
        rw [← compressP_take] at hbl
        generalize (all.drop (64 * i)).take 64 = bl at *
        generalize blocks i init8 all = S0 at *
        refine ⟨⟨_, Tryz.func155, rfl, by kernel_rfl⟩, CallS.use (schedule bl a' _ _ hb') [] rfl rfl trivial ?_⟩
        rintro e H10 G' hle12 ⟨rfl, rfl⟩
        (conv => whnf)
        refine ⟨by decide, .inl ?_⟩
        intro g3 H11 hle13 hrd4
        (conv => whnf)
        refine ⟨ints_one S0, ?_⟩
        (conv => whnf)
        refine ⟨fun h => (nomatch h), fun _ => ⟨rfl, [], rfl, hrd4, by decide, ?_⟩⟩
        (conv => whnf)
        refine WS.frz 2 (t := 3) (sz := 1) (m := 8) (xs := St8.ints S0) rfl (fun h => (nomatch h)) ?_
        intro x H12 hle14 hfr2
        obtain ⟨sb, so, cs, rfl, hsr⟩ : ∃ sb so cs, x = .slice (some ⟨sb, so, none⟩) 8 cs ∧ RdN H12 (some ⟨sb, so, none⟩) 0 (St8.ints S0) := by
          rcases hfr2 with ⟨_, h0, _⟩ | ⟨g, o, c, rfl, h1, h2⟩
          · cases h0
          · exact ⟨_, _, c, rfl, h2⟩
        refine WS.loop (TR bl S0 all.length i a ka c H12) 65 ?_ ?_
        · refine ⟨64, by omega, _, _, [0, 1], ⟨0, sb, so, cs, by omega, rfl, rfl, .refl _, hsr, rfl⟩, ?_⟩
          exact ⟨rfl, ⟨rfl, rfl, trivial⟩, rfl, rfl, rfl, rfl, rfl, rfl, rfl, trivial⟩
        rintro k F H13 G hle15 ⟨t, sb, so, cs, ht, rfl, rfl, hle16, hsr, rfl⟩
        refine codeL.go tab ?_
        (conv => whnf)
        refine br.of (fun h4 => ?_) (fun h4 => ?_) <;> (conv => whnf)
        · simp only [decide_eq_true_eq] at h4
          have hk13 : RdN H13 (some ka) 0 (kTab.map iW) := hk.mono ((((((hle8.trans hle9).trans hle11).trans hle12).trans hle13).trans hle14).trans hle16)
          obtain ⟨kb, ko, hka, -⟩ := id hk13
          have hR1 : rounds bl S0 (t + 1) = ⟨(rounds bl S0 t).t1 (kAt t) (wAt bl t) + (rounds bl S0 t).t2, (rounds bl S0 t).a, (rounds bl S0 t).b, (rounds bl S0 t).c, (rounds bl S0 t).d + (rounds bl S0 t).t1 (kAt t) (wAt bl t), (rounds bl S0 t).e, (rounds bl S0 t).f, (rounds bl S0 t).g⟩ := rfl
          generalize rounds bl S0 t = R at *
          refine ⟨by decide, ⟨sb, so, rfl⟩, ?_⟩; (conv => whnf)
          refine ⟨_, rdI0 (.refl _) hsr rfl, ?_⟩; (conv => whnf)
          refine ⟨by decide, ⟨sb, so, rfl⟩, ?_⟩; (conv => whnf)
          refine ⟨_, rdI0 (.refl _) hsr rfl, ?_⟩; (conv => whnf)
          refine WS.draw tab mixed (.take 0 (.take 1 (.take 2 (.take 3 (.take 5 (.take 8 (.take 12 (.take 13 (.take 14 (.take 15 (.take 16 (.take 17 (.take 18 (.take 19 (.take 20 (.take 21 (.take 22 (.take 23 (.take 25 (.take 26 (.take 27 (.take 28 (.take 30 (.take 31 (.take 32 (.take 33 (.alt 4 (.alt 6 (.take 7 (.alt 9 (.take 10 (.take 11 (.take 24 (.take 29 (.take 34 (.alt 35 (.take 36 .done) .no)))))) .no)) .no) .no))))))))))))))))))))))))))) (by kernel_rfl) [] ?_
          (conv => whnf)
          have h64 : (t : Int) < (64 : Nat) := h4
          have h4' : t < 64 := by omega
          repeat' (first
            | (refine ⟨by decide, ⟨sb, so, rfl⟩, ?_⟩; (conv => whnf))
            | (refine ⟨⟨by omega, h64⟩, ⟨kb, ko, hka⟩, ?_⟩; (conv => whnf))
            | (refine ⟨⟨by omega, h64⟩, ?_⟩; (conv => whnf))
            | (refine ⟨_, rdI0 (.refl _) hsr rfl, ?_⟩; (conv => whnf))
            | (refine ⟨_, rdI (.refl _) hk13 (k := t) (kget h4' rfl) (by simp), ?_⟩; (conv => whnf))
            | (refine ⟨_, wget64 h4' (by simp), ?_⟩; (conv => whnf)))
          refine ⟨⟨⟨_, Tryz.func157, rfl, by kernel_rfl⟩, CallS.use (turn R.e 6 (by decide) (by decide) _) [] rfl rfl trivial ?_⟩, trivial⟩
          rintro e H' G' hle ⟨rfl, rfl, rfl⟩
          (conv => whnf)
          refine ⟨⟨rfl, rfl, trivial⟩, ?_⟩
          (conv => whnf)
          refine ⟨⟨⟨_, Tryz.func157, rfl, by kernel_rfl⟩, CallS.use (turn R.e 11 (by decide) (by decide) _) [] rfl rfl trivial ?_⟩, trivial⟩
          rintro e H' G' hle ⟨rfl, rfl, rfl⟩
          (conv => whnf)
          refine ⟨⟨rfl, rfl, trivial⟩, ?_⟩
          (conv => whnf)
          refine ⟨⟨⟨_, Tryz.func157, rfl, by kernel_rfl⟩, CallS.use (turn R.e 25 (by decide) (by decide) _) [] rfl rfl trivial ?_⟩, trivial⟩
          rintro e H' G' hle ⟨rfl, rfl, rfl⟩
          (conv => whnf)
          refine ⟨⟨rfl, rfl, trivial⟩, ?_⟩
          (conv => whnf)
          simp only [i_xor, i_and, i_not]
          refine ⟨⟨⟨_, Tryz.func156, rfl, by kernel_rfl⟩, CallS.use (topT1 R (kAt t) (wAt bl t) _) [] rfl rfl trivial ?_⟩, trivial⟩
          rintro e H' G' hle ⟨rfl, rfl, rfl⟩
          (conv => whnf)
          refine ⟨⟨rfl, rfl, trivial⟩, ?_⟩
          (conv => whnf)
          refine WS.draw tab mixed (.take 0 (.take 2 (.take 5 (.take 8 (.take 9 (.take 10 (.take 11 (.take 12 (.take 13 (.take 14 (.take 15 (.take 16 (.take 17 (.take 18 (.take 19 (.take 20 (.take 21 (.take 22 (.take 23 (.take 24 (.take 25 (.take 26 (.alt 1 (.alt 3 (.take 4 (.alt 6 (.take 7 (.take 27 (.alt 28 (.take 29 .done) .no))) .no)) .no) .no))))))))))))))))))))))) (by kernel_rfl) [] ?_
          (conv => whnf)
          repeat' (first
            | (refine ⟨by decide, ⟨sb, so, rfl⟩, ?_⟩; (conv => whnf))
            | (refine ⟨⟨by omega, h64⟩, ⟨kb, ko, hka⟩, ?_⟩; (conv => whnf))
            | (refine ⟨⟨by omega, h64⟩, ?_⟩; (conv => whnf))
            | (refine ⟨_, rdI0 (.refl _) hsr rfl, ?_⟩; (conv => whnf))
            | (refine ⟨_, rdI (.refl _) hk13 (k := t) (kget h4' rfl) (by simp), ?_⟩; (conv => whnf))
            | (refine ⟨_, wget64 h4' (by simp), ?_⟩; (conv => whnf)))
          refine ⟨⟨⟨_, Tryz.func157, rfl, by kernel_rfl⟩, CallS.use (turn R.a 2 (by decide) (by decide) _) [] rfl rfl trivial ?_⟩, trivial⟩
          rintro e H' G' hle ⟨rfl, rfl, rfl⟩
          (conv => whnf)
          refine ⟨⟨rfl, rfl, trivial⟩, ?_⟩
          (conv => whnf)
          refine ⟨⟨⟨_, Tryz.func157, rfl, by kernel_rfl⟩, CallS.use (turn R.a 13 (by decide) (by decide) _) [] rfl rfl trivial ?_⟩, trivial⟩
          rintro e H' G' hle ⟨rfl, rfl, rfl⟩
          (conv => whnf)
          refine ⟨⟨rfl, rfl, trivial⟩, ?_⟩
          (conv => whnf)
          refine ⟨⟨⟨_, Tryz.func157, rfl, by kernel_rfl⟩, CallS.use (turn R.a 22 (by decide) (by decide) _) [] rfl rfl trivial ?_⟩, trivial⟩
          rintro e H' G' hle ⟨rfl, rfl, rfl⟩
          (conv => whnf)
          refine ⟨⟨rfl, rfl, trivial⟩, ?_⟩
          (conv => whnf)
          simp only [i_xor, i_and]
          refine ⟨⟨⟨_, Tryz.func156, rfl, by kernel_rfl⟩, CallS.use (topT2 R _) [] rfl rfl trivial ?_⟩, trivial⟩
          rintro e H' G' hle ⟨rfl, rfl, rfl⟩
          (conv => whnf)
          refine ⟨⟨rfl, rfl, trivial⟩, ?_⟩
          (conv => whnf)
          refine WS.draw tab mixed (.take 0 (.take 1 (.take 2 (.take 4 (.take 5 (.take 6 (.take 7 (.take 8 (.take 9 (.take 10 (.take 11 (.take 12 (.take 13 (.take 14 (.take 15 (.take 16 (.take 17 (.take 19 (.take 20 (.take 21 (.take 22 (.take 23 (.take 24 (.take 25 (.take 26 (.take 27 (.alt 3 (.alt 18 (.alt 28 (.take 29 .done) .no) .no) .no))))))))))))))))))))))))))) (by kernel_rfl) [] ?_
          (conv => whnf)
          repeat' (first
            | (refine ⟨by decide, ⟨sb, so, rfl⟩, ?_⟩; (conv => whnf))
            | (refine ⟨⟨by omega, h64⟩, ⟨kb, ko, hka⟩, ?_⟩; (conv => whnf))
            | (refine ⟨⟨by omega, h64⟩, ?_⟩; (conv => whnf))
            | (refine ⟨_, rdI0 (.refl _) hsr rfl, ?_⟩; (conv => whnf))
            | (refine ⟨_, rdI (.refl _) hk13 (k := t) (kget h4' rfl) (by simp), ?_⟩; (conv => whnf))
            | (refine ⟨_, wget64 h4' (by simp), ?_⟩; (conv => whnf)))
          generalize R.t1 (kAt t) (wAt bl t) = x1 at *
          generalize R.t2 = x2 at *
          repeat' (first
            | exact trivial
            | exact rfl
            | exact ⟨_, Tryz.func156, rfl, by kernel_rfl⟩
            | (refine CallS.use (top2 x1 x2 _) [] rfl rfl trivial ?_; rintro e H' G' hle ⟨rfl, rfl, rfl⟩; (conv => whnf))
            | (refine CallS.use (top2 R.d x1 _) [] rfl rfl trivial ?_; rintro e H' G' hle ⟨rfl, rfl, rfl⟩; (conv => whnf))
            | (refine ⟨by decide, .inl ?_⟩; intro g4 H14 hle17 hrd5; (conv => whnf))
            | (refine And.intro ?_ ?_ <;> (conv => whnf)))
          all_goals
            rw [wrap64 (x := (t : Int) + 1) (by omega) (by omega)]
            refine ⟨64 - (t + 1), by omega, _, _, [0, 1], ⟨t + 1, g4, 0, 8, by omega, rfl, rfl, hle16.trans hle17, ?_, rfl⟩, ?_⟩
            · rw [hR1]; exact hrd5
            · exact ⟨rfl, ⟨rfl, rfl, trivial⟩, rfl, rfl, rfl, rfl, rfl, rfl, rfl, trivial⟩
        · simp only [decide_eq_false_iff_not] at h4
          obtain rfl : t = 64 := by omega
          rw [show compressP bl S0 = (rounds bl S0 64).add S0 from rfl] at hbl
          generalize rounds bl S0 64 = R at *
          refine WS.loop (JI S0 R all.length i a ka c ⟨sb, so, none⟩ cs H13) 9 ?_ ?_
          · refine ⟨8, by omega, _, _, [0], ⟨0, by omega, rfl, rfl, rfl, rfl⟩, ?_⟩
            exact ⟨rfl, ⟨rfl, trivial⟩, rfl, rfl, rfl, rfl, rfl, rfl, trivial⟩
          rintro k F H14 G hle17 ⟨j, hj, rfl, rfl, rfl, rfl⟩
          refine codeL.go tab ?_
          have hj9 : j = 0 ∨ j = 1 ∨ j = 2 ∨ j = 3 ∨ j = 4 ∨ j = 5 ∨ j = 6 ∨ j = 7 ∨ j = 8 := by omega
          rcases hj9 with rfl | rfl | rfl | rfl | rfl | rfl | rfl | rfl | rfl
          · (conv => whnf)
            refine WS.draw tab mixed (.take 0 (.take 1 (.take 2 (.take 3 (.take 6 (.take 7 (.take 8 (.take 9 (.alt 4 (.alt 5 (.take 10 (.alt 11 (.alt 12 (.alt 13 .done .no) .no) .no)) .no) .no))))))))) (by kernel_rfl) [0] ?_
            (conv => whnf)
            repeat' (first
              | exact trivial
              | exact rfl
              | exact ⟨_, Tryz.func156, rfl, by kernel_rfl⟩
              | (refine ⟨by decide, ⟨sb, so, rfl⟩, ?_⟩; (conv => whnf))
              | (refine ⟨_, rdI0 (.refl _) hsr rfl, ?_⟩; (conv => whnf))
              | (refine ⟨by decide, ?_⟩; (conv => whnf))
              | (refine ⟨_, rfl, ?_⟩; (conv => whnf))
              | (refine CallS.use (top2 S0.a R.a _) [] rfl rfl trivial ?_; rintro e H' G' hle ⟨rfl, rfl, rfl⟩; (conv => whnf))
              | (refine ⟨7, by decide, _, _, [0], ⟨1, by decide, rfl, rfl, rfl, rfl⟩, ?_⟩; exact ⟨rfl, ⟨rfl, trivial⟩, rfl, rfl, rfl, rfl, rfl, rfl, trivial⟩)
              | exact Nat.le_of_ble_eq_true rfl
              | (refine And.intro ?_ ?_ <;> (conv => whnf)))
          · (conv => whnf)
            refine WS.draw tab mixed (.take 0 (.take 1 (.take 2 (.take 3 (.take 6 (.take 7 (.take 8 (.take 9 (.alt 4 (.alt 5 (.take 10 (.alt 11 (.alt 12 (.alt 13 .done .no) .no) .no)) .no) .no))))))))) (by kernel_rfl) [0] ?_
            (conv => whnf)
            repeat' (first
              | exact trivial
              | exact rfl
              | exact ⟨_, Tryz.func156, rfl, by kernel_rfl⟩
              | (refine ⟨by decide, ⟨sb, so, rfl⟩, ?_⟩; (conv => whnf))
              | (refine ⟨_, rdI0 (.refl _) hsr rfl, ?_⟩; (conv => whnf))
              | (refine ⟨by decide, ?_⟩; (conv => whnf))
              | (refine ⟨_, rfl, ?_⟩; (conv => whnf))
              | (refine CallS.use (top2 S0.b R.b _) [] rfl rfl trivial ?_; rintro e H' G' hle ⟨rfl, rfl, rfl⟩; (conv => whnf))
              | (refine ⟨6, by decide, _, _, [0], ⟨2, by decide, rfl, rfl, rfl, rfl⟩, ?_⟩; exact ⟨rfl, ⟨rfl, trivial⟩, rfl, rfl, rfl, rfl, rfl, rfl, trivial⟩)
              | exact Nat.le_of_ble_eq_true rfl
              | (refine And.intro ?_ ?_ <;> (conv => whnf)))
          · (conv => whnf)
            refine WS.draw tab mixed (.take 0 (.take 1 (.take 2 (.take 3 (.take 6 (.take 7 (.take 8 (.take 9 (.alt 4 (.alt 5 (.take 10 (.alt 11 (.alt 12 (.alt 13 .done .no) .no) .no)) .no) .no))))))))) (by kernel_rfl) [0] ?_
            (conv => whnf)
            repeat' (first
              | exact trivial
              | exact rfl
              | exact ⟨_, Tryz.func156, rfl, by kernel_rfl⟩
              | (refine ⟨by decide, ⟨sb, so, rfl⟩, ?_⟩; (conv => whnf))
              | (refine ⟨_, rdI0 (.refl _) hsr rfl, ?_⟩; (conv => whnf))
              | (refine ⟨by decide, ?_⟩; (conv => whnf))
              | (refine ⟨_, rfl, ?_⟩; (conv => whnf))
              | (refine CallS.use (top2 S0.c R.c _) [] rfl rfl trivial ?_; rintro e H' G' hle ⟨rfl, rfl, rfl⟩; (conv => whnf))
              | (refine ⟨5, by decide, _, _, [0], ⟨3, by decide, rfl, rfl, rfl, rfl⟩, ?_⟩; exact ⟨rfl, ⟨rfl, trivial⟩, rfl, rfl, rfl, rfl, rfl, rfl, trivial⟩)
              | exact Nat.le_of_ble_eq_true rfl
              | (refine And.intro ?_ ?_ <;> (conv => whnf)))
          · (conv => whnf)
            refine WS.draw tab mixed (.take 0 (.take 1 (.take 2 (.take 3 (.take 6 (.take 7 (.take 8 (.take 9 (.alt 4 (.alt 5 (.take 10 (.alt 11 (.alt 12 (.alt 13 .done .no) .no) .no)) .no) .no))))))))) (by kernel_rfl) [0] ?_
            (conv => whnf)
            repeat' (first
              | exact trivial
              | exact rfl
              | exact ⟨_, Tryz.func156, rfl, by kernel_rfl⟩
              | (refine ⟨by decide, ⟨sb, so, rfl⟩, ?_⟩; (conv => whnf))
              | (refine ⟨_, rdI0 (.refl _) hsr rfl, ?_⟩; (conv => whnf))
              | (refine ⟨by decide, ?_⟩; (conv => whnf))
              | (refine ⟨_, rfl, ?_⟩; (conv => whnf))
              | (refine CallS.use (top2 S0.d R.d _) [] rfl rfl trivial ?_; rintro e H' G' hle ⟨rfl, rfl, rfl⟩; (conv => whnf))
              | (refine ⟨4, by decide, _, _, [0], ⟨4, by decide, rfl, rfl, rfl, rfl⟩, ?_⟩; exact ⟨rfl, ⟨rfl, trivial⟩, rfl, rfl, rfl, rfl, rfl, rfl, trivial⟩)
              | exact Nat.le_of_ble_eq_true rfl
              | (refine And.intro ?_ ?_ <;> (conv => whnf)))
          · (conv => whnf)
            refine WS.draw tab mixed (.take 0 (.take 1 (.take 2 (.take 3 (.take 6 (.take 7 (.take 8 (.take 9 (.alt 4 (.alt 5 (.take 10 (.alt 11 (.alt 12 (.alt 13 .done .no) .no) .no)) .no) .no))))))))) (by kernel_rfl) [0] ?_
            (conv => whnf)
            repeat' (first
              | exact trivial
              | exact rfl
              | exact ⟨_, Tryz.func156, rfl, by kernel_rfl⟩
              | (refine ⟨by decide, ⟨sb, so, rfl⟩, ?_⟩; (conv => whnf))
              | (refine ⟨_, rdI0 (.refl _) hsr rfl, ?_⟩; (conv => whnf))
              | (refine ⟨by decide, ?_⟩; (conv => whnf))
              | (refine ⟨_, rfl, ?_⟩; (conv => whnf))
              | (refine CallS.use (top2 S0.e R.e _) [] rfl rfl trivial ?_; rintro e H' G' hle ⟨rfl, rfl, rfl⟩; (conv => whnf))
              | (refine ⟨3, by decide, _, _, [0], ⟨5, by decide, rfl, rfl, rfl, rfl⟩, ?_⟩; exact ⟨rfl, ⟨rfl, trivial⟩, rfl, rfl, rfl, rfl, rfl, rfl, trivial⟩)
              | exact Nat.le_of_ble_eq_true rfl
              | (refine And.intro ?_ ?_ <;> (conv => whnf)))
          · (conv => whnf)
            refine WS.draw tab mixed (.take 0 (.take 1 (.take 2 (.take 3 (.take 6 (.take 7 (.take 8 (.take 9 (.alt 4 (.alt 5 (.take 10 (.alt 11 (.alt 12 (.alt 13 .done .no) .no) .no)) .no) .no))))))))) (by kernel_rfl) [0] ?_
            (conv => whnf)
            repeat' (first
              | exact trivial
              | exact rfl
              | exact ⟨_, Tryz.func156, rfl, by kernel_rfl⟩
              | (refine ⟨by decide, ⟨sb, so, rfl⟩, ?_⟩; (conv => whnf))
              | (refine ⟨_, rdI0 (.refl _) hsr rfl, ?_⟩; (conv => whnf))
              | (refine ⟨by decide, ?_⟩; (conv => whnf))
              | (refine ⟨_, rfl, ?_⟩; (conv => whnf))
              | (refine CallS.use (top2 S0.f R.f _) [] rfl rfl trivial ?_; rintro e H' G' hle ⟨rfl, rfl, rfl⟩; (conv => whnf))
              | (refine ⟨2, by decide, _, _, [0], ⟨6, by decide, rfl, rfl, rfl, rfl⟩, ?_⟩; exact ⟨rfl, ⟨rfl, trivial⟩, rfl, rfl, rfl, rfl, rfl, rfl, trivial⟩)
              | exact Nat.le_of_ble_eq_true rfl
              | (refine And.intro ?_ ?_ <;> (conv => whnf)))
          · (conv => whnf)
            refine WS.draw tab mixed (.take 0 (.take 1 (.take 2 (.take 3 (.take 6 (.take 7 (.take 8 (.take 9 (.alt 4 (.alt 5 (.take 10 (.alt 11 (.alt 12 (.alt 13 .done .no) .no) .no)) .no) .no))))))))) (by kernel_rfl) [0] ?_
            (conv => whnf)
            repeat' (first
              | exact trivial
              | exact rfl
              | exact ⟨_, Tryz.func156, rfl, by kernel_rfl⟩
              | (refine ⟨by decide, ⟨sb, so, rfl⟩, ?_⟩; (conv => whnf))
              | (refine ⟨_, rdI0 (.refl _) hsr rfl, ?_⟩; (conv => whnf))
              | (refine ⟨by decide, ?_⟩; (conv => whnf))
              | (refine ⟨_, rfl, ?_⟩; (conv => whnf))
              | (refine CallS.use (top2 S0.g R.g _) [] rfl rfl trivial ?_; rintro e H' G' hle ⟨rfl, rfl, rfl⟩; (conv => whnf))
              | (refine ⟨1, by decide, _, _, [0], ⟨7, by decide, rfl, rfl, rfl, rfl⟩, ?_⟩; exact ⟨rfl, ⟨rfl, trivial⟩, rfl, rfl, rfl, rfl, rfl, rfl, trivial⟩)
              | exact Nat.le_of_ble_eq_true rfl
              | (refine And.intro ?_ ?_ <;> (conv => whnf)))
          · (conv => whnf)
            refine WS.draw tab mixed (.take 0 (.take 1 (.take 2 (.take 3 (.take 6 (.take 7 (.take 8 (.take 9 (.alt 4 (.alt 5 (.take 10 (.alt 11 (.alt 12 (.alt 13 .done .no) .no) .no)) .no) .no))))))))) (by kernel_rfl) [0] ?_
            (conv => whnf)
            repeat' (first
              | exact trivial
              | exact rfl
              | exact ⟨_, Tryz.func156, rfl, by kernel_rfl⟩
              | (refine ⟨by decide, ⟨sb, so, rfl⟩, ?_⟩; (conv => whnf))
              | (refine ⟨_, rdI0 (.refl _) hsr rfl, ?_⟩; (conv => whnf))
              | (refine ⟨by decide, ?_⟩; (conv => whnf))
              | (refine ⟨_, rfl, ?_⟩; (conv => whnf))
              | (refine CallS.use (top2 S0.h R.h _) [] rfl rfl trivial ?_; rintro e H' G' hle ⟨rfl, rfl, rfl⟩; (conv => whnf))
              | (refine ⟨0, by decide, _, _, [0], ⟨8, by decide, rfl, rfl, rfl, rfl⟩, ?_⟩; exact ⟨rfl, ⟨rfl, trivial⟩, rfl, rfl, rfl, rfl, rfl, rfl, trivial⟩)
              | exact Nat.le_of_ble_eq_true rfl
              | (refine And.intro ?_ ?_ <;> (conv => whnf)))
          · (conv => whnf)
            rw [wrap64 (x := ((64 * i : Nat) : Int) + 64) (by omega) (by omega), show ((64 * i : Nat) : Int) + 64 = ((64 * (i + 1) : Nat) : Int) by omega]
            refine ⟨all.length / 64 - (i + 1), by omega, _, _, [0], ⟨i + 1, by omega, rfl, rfl, ?_, rfl⟩, ?_⟩
            · exact (((hle11.trans hle12).trans hle13).trans hle14).trans hle16
            · refine ⟨rfl, ⟨?_, trivial⟩, rfl, rfl, rfl, rfl, trivial⟩
              rw [hbl, addI_all]
              rfl
      · simp only [decide_eq_false_iff_not] at h3
        have hi2 : i = all.length / 64 := by omega
        subst hi2
        generalize blocks (all.length / 64) init8 all = S at *
        refine WS.nilRow 16 5 1 rfl ?_
        (conv => whnf)
        refine WS.loop (UI S H9) 9 ?_ ?_
        · refine ⟨8, by omega, _, _, [0, 1], ⟨0, by omega, rfl, rfl, .refl _, rfl⟩, ?_⟩
          exact ⟨rfl, ⟨rfl, rfl, trivial⟩, rfl, rfl, rfl, trivial⟩
        clear hal hmod hpn hi h3
        rintro k F H14 G hle17 ⟨j, hj, rfl, rfl, hle18, rfl⟩
        refine codeL.go tab ?_
        have hj9 : j = 0 ∨ j = 1 ∨ j = 2 ∨ j = 3 ∨ j = 4 ∨ j = 5 ∨ j = 6 ∨ j = 7 ∨ j = 8 := by omega
        rcases hj9 with rfl | rfl | rfl | rfl | rfl | rfl | rfl | rfl | rfl
        · (conv => whnf)
          refine WS.draw tab mixed (.take 0 (.take 1 (.take 2 (.take 3 (.take 4 (.take 5 (.take 6 (.take 7 (.take 8 (.take 9 (.take 10 (.take 11 (.take 12 (.take 13 (.take 14 (.take 15 (.take 16 (.take 17 (.take 18 (.take 19 (.take 20 (.take 21 (.take 22 (.take 23 (.take 24 (.take 25 (.take 26 (.alt 27 (.alt 28 (.take 29 .done) .no) .no)))))))))))))))))))))))))))) (by kernel_rfl) [1] ?_
          (conv => whnf)
          repeat' (first
            | exact trivial
            | (refine ⟨_, rfl, hrd6, ones4 _ _ _ _ _, ?_⟩; (conv => whnf))
            | (refine ⟨by decide, .inl ?_⟩; intro g5 H15 hle19 hrd6; (conv => whnf))
            | (refine ⟨by decide, ?_⟩; (conv => whnf))
            | (refine ⟨_, rfl, ?_⟩; (conv => whnf))
            | (refine ⟨7, by decide, _, _, [0, 2], ⟨1, by decide, rfl, rfl, hle18.trans hle19, rfl⟩, ?_⟩; refine ⟨rfl, ⟨rfl, row_outI _ _ _ _, trivial⟩, rfl, rfl, rfl, trivial⟩)
            | exact rfl
            | (refine And.intro ?_ ?_ <;> (conv => whnf)))
        · (conv => whnf)
          refine WS.draw tab mixed (.take 0 (.take 1 (.take 2 (.take 3 (.take 4 (.take 5 (.take 6 (.take 7 (.take 8 (.take 9 (.take 10 (.take 11 (.take 12 (.take 13 (.take 14 (.take 15 (.take 16 (.take 17 (.take 18 (.take 19 (.take 20 (.take 21 (.take 22 (.take 23 (.take 24 (.take 25 (.take 26 (.alt 27 (.alt 28 (.take 29 .done) .no) .no)))))))))))))))))))))))))))) (by kernel_rfl) [1] ?_
          (conv => whnf)
          repeat' (first
            | exact trivial
            | (refine ⟨_, rfl, hrd6, ones4 _ _ _ _ _, ?_⟩; (conv => whnf))
            | (refine ⟨by decide, .inl ?_⟩; intro g5 H15 hle19 hrd6; (conv => whnf))
            | (refine ⟨by decide, ?_⟩; (conv => whnf))
            | (refine ⟨_, rfl, ?_⟩; (conv => whnf))
            | (refine ⟨6, by decide, _, _, [0, 2], ⟨2, by decide, rfl, rfl, hle18.trans hle19, rfl⟩, ?_⟩; refine ⟨rfl, ⟨rfl, row_outI _ _ _ _, trivial⟩, rfl, rfl, rfl, trivial⟩)
            | exact rfl
            | (refine And.intro ?_ ?_ <;> (conv => whnf)))
        · (conv => whnf)
          refine WS.draw tab mixed (.take 0 (.take 1 (.take 2 (.take 3 (.take 4 (.take 5 (.take 6 (.take 7 (.take 8 (.take 9 (.take 10 (.take 11 (.take 12 (.take 13 (.take 14 (.take 15 (.take 16 (.take 17 (.take 18 (.take 19 (.take 20 (.take 21 (.take 22 (.take 23 (.take 24 (.take 25 (.take 26 (.alt 27 (.alt 28 (.take 29 .done) .no) .no)))))))))))))))))))))))))))) (by kernel_rfl) [1] ?_
          (conv => whnf)
          repeat' (first
            | exact trivial
            | (refine ⟨_, rfl, hrd6, ones4 _ _ _ _ _, ?_⟩; (conv => whnf))
            | (refine ⟨by decide, .inl ?_⟩; intro g5 H15 hle19 hrd6; (conv => whnf))
            | (refine ⟨by decide, ?_⟩; (conv => whnf))
            | (refine ⟨_, rfl, ?_⟩; (conv => whnf))
            | (refine ⟨5, by decide, _, _, [0, 2], ⟨3, by decide, rfl, rfl, hle18.trans hle19, rfl⟩, ?_⟩; refine ⟨rfl, ⟨rfl, row_outI _ _ _ _, trivial⟩, rfl, rfl, rfl, trivial⟩)
            | exact rfl
            | (refine And.intro ?_ ?_ <;> (conv => whnf)))
        · (conv => whnf)
          refine WS.draw tab mixed (.take 0 (.take 1 (.take 2 (.take 3 (.take 4 (.take 5 (.take 6 (.take 7 (.take 8 (.take 9 (.take 10 (.take 11 (.take 12 (.take 13 (.take 14 (.take 15 (.take 16 (.take 17 (.take 18 (.take 19 (.take 20 (.take 21 (.take 22 (.take 23 (.take 24 (.take 25 (.take 26 (.alt 27 (.alt 28 (.take 29 .done) .no) .no)))))))))))))))))))))))))))) (by kernel_rfl) [1] ?_
          (conv => whnf)
          repeat' (first
            | exact trivial
            | (refine ⟨_, rfl, hrd6, ones4 _ _ _ _ _, ?_⟩; (conv => whnf))
            | (refine ⟨by decide, .inl ?_⟩; intro g5 H15 hle19 hrd6; (conv => whnf))
            | (refine ⟨by decide, ?_⟩; (conv => whnf))
            | (refine ⟨_, rfl, ?_⟩; (conv => whnf))
            | (refine ⟨4, by decide, _, _, [0, 2], ⟨4, by decide, rfl, rfl, hle18.trans hle19, rfl⟩, ?_⟩; refine ⟨rfl, ⟨rfl, row_outI _ _ _ _, trivial⟩, rfl, rfl, rfl, trivial⟩)
            | exact rfl
            | (refine And.intro ?_ ?_ <;> (conv => whnf)))
        · (conv => whnf)
          refine WS.draw tab mixed (.take 0 (.take 1 (.take 2 (.take 3 (.take 4 (.take 5 (.take 6 (.take 7 (.take 8 (.take 9 (.take 10 (.take 11 (.take 12 (.take 13 (.take 14 (.take 15 (.take 16 (.take 17 (.take 18 (.take 19 (.take 20 (.take 21 (.take 22 (.take 23 (.take 24 (.take 25 (.take 26 (.alt 27 (.alt 28 (.take 29 .done) .no) .no)))))))))))))))))))))))))))) (by kernel_rfl) [1] ?_
          (conv => whnf)
          repeat' (first
            | exact trivial
            | (refine ⟨_, rfl, hrd6, ones4 _ _ _ _ _, ?_⟩; (conv => whnf))
            | (refine ⟨by decide, .inl ?_⟩; intro g5 H15 hle19 hrd6; (conv => whnf))
            | (refine ⟨by decide, ?_⟩; (conv => whnf))
            | (refine ⟨_, rfl, ?_⟩; (conv => whnf))
            | (refine ⟨3, by decide, _, _, [0, 2], ⟨5, by decide, rfl, rfl, hle18.trans hle19, rfl⟩, ?_⟩; refine ⟨rfl, ⟨rfl, row_outI _ _ _ _, trivial⟩, rfl, rfl, rfl, trivial⟩)
            | exact rfl
            | (refine And.intro ?_ ?_ <;> (conv => whnf)))
        · (conv => whnf)
          refine WS.draw tab mixed (.take 0 (.take 1 (.take 2 (.take 3 (.take 4 (.take 5 (.take 6 (.take 7 (.take 8 (.take 9 (.take 10 (.take 11 (.take 12 (.take 13 (.take 14 (.take 15 (.take 16 (.take 17 (.take 18 (.take 19 (.take 20 (.take 21 (.take 22 (.take 23 (.take 24 (.take 25 (.take 26 (.alt 27 (.alt 28 (.take 29 .done) .no) .no)))))))))))))))))))))))))))) (by kernel_rfl) [1] ?_
          (conv => whnf)
          repeat' (first
            | exact trivial
            | (refine ⟨_, rfl, hrd6, ones4 _ _ _ _ _, ?_⟩; (conv => whnf))
            | (refine ⟨by decide, .inl ?_⟩; intro g5 H15 hle19 hrd6; (conv => whnf))
            | (refine ⟨by decide, ?_⟩; (conv => whnf))
            | (refine ⟨_, rfl, ?_⟩; (conv => whnf))
            | (refine ⟨2, by decide, _, _, [0, 2], ⟨6, by decide, rfl, rfl, hle18.trans hle19, rfl⟩, ?_⟩; refine ⟨rfl, ⟨rfl, row_outI _ _ _ _, trivial⟩, rfl, rfl, rfl, trivial⟩)
            | exact rfl
            | (refine And.intro ?_ ?_ <;> (conv => whnf)))
        · (conv => whnf)
          refine WS.draw tab mixed (.take 0 (.take 1 (.take 2 (.take 3 (.take 4 (.take 5 (.take 6 (.take 7 (.take 8 (.take 9 (.take 10 (.take 11 (.take 12 (.take 13 (.take 14 (.take 15 (.take 16 (.take 17 (.take 18 (.take 19 (.take 20 (.take 21 (.take 22 (.take 23 (.take 24 (.take 25 (.take 26 (.alt 27 (.alt 28 (.take 29 .done) .no) .no)))))))))))))))))))))))))))) (by kernel_rfl) [1] ?_
          (conv => whnf)
          repeat' (first
            | exact trivial
            | (refine ⟨_, rfl, hrd6, ones4 _ _ _ _ _, ?_⟩; (conv => whnf))
            | (refine ⟨by decide, .inl ?_⟩; intro g5 H15 hle19 hrd6; (conv => whnf))
            | (refine ⟨by decide, ?_⟩; (conv => whnf))
            | (refine ⟨_, rfl, ?_⟩; (conv => whnf))
            | (refine ⟨1, by decide, _, _, [0, 2], ⟨7, by decide, rfl, rfl, hle18.trans hle19, rfl⟩, ?_⟩; refine ⟨rfl, ⟨rfl, row_outI _ _ _ _, trivial⟩, rfl, rfl, rfl, trivial⟩)
            | exact rfl
            | (refine And.intro ?_ ?_ <;> (conv => whnf)))
        · (conv => whnf)
          refine WS.draw tab mixed (.take 0 (.take 1 (.take 2 (.take 3 (.take 4 (.take 5 (.take 6 (.take 7 (.take 8 (.take 9 (.take 10 (.take 11 (.take 12 (.take 13 (.take 14 (.take 15 (.take 16 (.take 17 (.take 18 (.take 19 (.take 20 (.take 21 (.take 22 (.take 23 (.take 24 (.take 25 (.take 26 (.alt 27 (.alt 28 (.take 29 .done) .no) .no)))))))))))))))))))))))))))) (by kernel_rfl) [1] ?_
          (conv => whnf)
          repeat' (first
            | exact trivial
            | (refine ⟨_, rfl, hrd6, ones4 _ _ _ _ _, ?_⟩; (conv => whnf))
            | (refine ⟨by decide, .inl ?_⟩; intro g5 H15 hle19 hrd6; (conv => whnf))
            | (refine ⟨by decide, ?_⟩; (conv => whnf))
            | (refine ⟨_, rfl, ?_⟩; (conv => whnf))
            | (refine ⟨0, by decide, _, _, [0, 2], ⟨8, by decide, rfl, rfl, hle18.trans hle19, rfl⟩, ?_⟩; refine ⟨rfl, ⟨rfl, row_outI _ _ _ _, trivial⟩, rfl, rfl, rfl, trivial⟩)
            | exact rfl
            | (refine And.intro ?_ ?_ <;> (conv => whnf)))
        · (conv => whnf)
          refine ⟨St8.ints S, rfl, ?_⟩
          rw [← outT_all]
end Ref1
end Go.Kx.Sha
