/- The reference's SHA-256: its small functions. No condition of its own. -/
import Derived.Test.YtjpjpdmceliofaaDoorShaE
import Derived.Test.YtjpjpdmceliofaaDoorKF
namespace Go.Kx.Sha
open Go.Proofs Go.Kx
set_option maxRecDepth 20000
namespace Ref1
def T : Tab := [(22, { k := TK.slice 5, agg := false, size := 1, bytes := 24, zero := [Z.sl] }), (3, { k := TK.int IntKind.i64, agg := false, size := 1, bytes := 8, zero := [Z.i IntKind.i64] }), (4, { k := TK.bool, agg := false, size := 1, bytes := 1, zero := [Z.b] }), (5, { k := TK.int IntKind.u8, agg := false, size := 1, bytes := 1, zero := [Z.i IntKind.u8] }), (116, { k := TK.slice 3, agg := false, size := 1, bytes := 24, zero := [Z.sl] })]
set_option maxRecDepth 100000 in
theorem tab : TabOk Tryd.prog T := tabOk_mk (ts := [22, 3, 4, 5, 116]) (by kernel_rfl)

/-- A word as an int. -/
def iW (b : BitVec 32) : Value := .int .i64 (u b)
theorem ofInt64_u (b : BitVec 32) : (BitVec.ofInt IntKind.i64.bits (u b)).toNat = b.toNat := by
  show (BitVec.ofInt 64 (u b)).toNat = b.toNat
  unfold u
  rw [BitVec.ofInt_natCast, BitVec.toNat_ofNat]
  have := b.isLt
  omega
theorem i_xor (a b : BitVec 32) : IntKind.i64.wrap ((BitVec.ofInt IntKind.i64.bits (u a) ^^^ BitVec.ofInt IntKind.i64.bits (u b)).toNat : Int) = u (a ^^^ b) := by
  rw [BitVec.toNat_xor, ofInt64_u, ofInt64_u, ← BitVec.toNat_xor]
  have := (a ^^^ b).isLt
  rw [wrap64 (by omega) (by omega)]; rfl
theorem i_and (a b : BitVec 32) : IntKind.i64.wrap ((BitVec.ofInt IntKind.i64.bits (u a) &&& BitVec.ofInt IntKind.i64.bits (u b)).toNat : Int) = u (a &&& b) := by
  rw [BitVec.toNat_and, ofInt64_u, ofInt64_u, ← BitVec.toNat_and]
  have := (a &&& b).isLt
  rw [wrap64 (by omega) (by omega)]; rfl
theorem i_not (a : BitVec 32) : IntKind.i64.wrap (4294967295 - u a) = u (~~~ a) := by
  have h := a.isLt
  unfold u
  rw [BitVec.toNat_not, wrap64 (by omega) (by omega)]
  omega
theorem i_shr (a : BitVec 32) (k : Nat) (p : Int) (hp : p = ((2 ^ k : Nat) : Int)) : IntKind.i64.wrap ((u a).tdiv p) = u (a >>> k) := by
  subst hp
  unfold u
  have h := (a >>> k).isLt
  rw [Int.tdiv_eq_ediv_of_nonneg (by omega), ← Int.natCast_ediv]
  rw [BitVec.toNat_ushiftRight, Nat.shiftRight_eq_div_pow] at h ⊢
  generalize a.toNat / 2 ^ k = y at h ⊢
  rw [wrap64 (by omega) (by omega)]
theorem rot_nat (x : BitVec 32) (n : Nat) (h1 : 1 ≤ n) (h2 : n ≤ 31) : x.toNat / 2 ^ n + x.toNat % 2 ^ n * (4294967296 / 2 ^ n) = (x.rotateRight n).toNat := by
  have hp : (4294967296 : Nat) = 2 ^ (32 - n) * 2 ^ n := by rw [← Nat.pow_add, show 32 - n + n = 32 by omega]
  have hq : (4294967296 : Nat) / 2 ^ n = 2 ^ (32 - n) := by rw [hp]; exact Nat.mul_div_cancel _ (Nat.pow_pos (by decide))
  rw [hq, BitVec.toNat_rotateRight, Nat.mod_eq_of_lt (show n < 32 by omega)]
  have hs : x.toNat <<< (32 - n) % 2 ^ 32 = (x.toNat % 2 ^ n) <<< (32 - n) := by
    rw [Nat.shiftLeft_eq, Nat.shiftLeft_eq, show (2 : Nat) ^ 32 = 2 ^ n * 2 ^ (32 - n) by rw [← Nat.pow_add, show n + (32 - n) = 32 by omega], Nat.mul_mod_mul_right]
  rw [hs, Nat.or_comm, Nat.shiftRight_eq_div_pow]
  have hb : x.toNat / 2 ^ n < 2 ^ (32 - n) := by
    rw [Nat.div_lt_iff_lt_mul (Nat.pow_pos (by decide)), ← hp]; exact x.isLt
  rw [← Nat.shiftLeft_add_eq_or_of_lt hb, Nat.shiftLeft_eq, Nat.add_comm]
theorem word_nat (bs : List UInt8) (j : Nat) : (word bs j).toNat = byteN bs (4 * j) * 16777216 + byteN bs (4 * j + 1) * 65536 + byteN bs (4 * j + 2) * 256 + byteN bs (4 * j + 3) := by
  have hb : ∀ i, byteN bs i < 256 := fun i => by unfold byteN; exact (bs.getD i 0).toNat_lt
  have hn : ∀ i, (by32 bs i).toNat = byteN bs i := fun i => by unfold by32; rw [BitVec.toNat_ofNat]; have := hb i; omega
  unfold word
  have h0 := hb (4 * j)
  have h1 := hb (4 * j + 1)
  have h2 := hb (4 * j + 2)
  have h3 := hb (4 * j + 3)
  rw [BitVec.toNat_or, BitVec.toNat_or, BitVec.toNat_or, BitVec.toNat_shiftLeft, BitVec.toNat_shiftLeft, BitVec.toNat_shiftLeft, hn, hn, hn, hn]
  generalize byteN bs (4 * j) = a at *
  generalize byteN bs (4 * j + 1) = b at *
  generalize byteN bs (4 * j + 2) = c at *
  generalize byteN bs (4 * j + 3) = d at *
  rw [Nat.shiftLeft_eq, Nat.shiftLeft_eq, Nat.shiftLeft_eq, Nat.mod_eq_of_lt (by omega), Nat.mod_eq_of_lt (by omega), Nat.mod_eq_of_lt (by omega)]
  have e1 := Nat.shiftLeft_add_eq_or_of_lt (show b * 2 ^ 16 < 2 ^ 24 by omega) a
  have e2 := Nat.shiftLeft_add_eq_or_of_lt (show c * 2 ^ 8 < 2 ^ 16 by omega) (a * 256 + b)
  have e3 := Nat.shiftLeft_add_eq_or_of_lt (show d < 2 ^ 8 by omega) (a * 65536 + b * 256 + c)
  rw [Nat.shiftLeft_eq] at e1 e2 e3
  simp only [Nat.reducePow] at e1 e2 e3 ⊢
  rw [← e1, show a * 16777216 + b * 65536 = (a * 256 + b) * 65536 by clear e1 e2 e3; omega, ← e2, show (a * 256 + b) * 65536 + c * 256 = (a * 65536 + b * 256 + c) * 256 by clear e1 e2 e3; omega, ← e3]
theorem pow_cases : ∀ n : Fin 32, 1 ≤ (2 : Nat) ^ n.val ∧ (2 : Nat) ^ n.val ≤ 2147483648 ∧ IntKind.i64.wrap (1 * 2 ^ min (Int.toNat (n.val : Int)) IntKind.i64.bits) = ((2 ^ n.val : Nat) : Int) := by decide
theorem top (v : Int) (h0 : 0 ≤ v) (H : Hp) : CallO Tryd.prog 94 [pv (.int .i64 v)] H [] fun e H' G' => e = .ret (pv (.int .i64 (v % 4294967296))) ∧ H' = H ∧ G' = [] := by
  refine CallO.of_body tab Tryd.func94 rfl (nt := Tryd.f94.ntmps) rfl (by kernel_rfl) ?_
  conv => whnf
  refine ⟨by decide, ?_⟩
  conv => whnf
  refine ⟨?_, rfl, rfl⟩
  rw [← show v.tmod 4294967296 = v % 4294967296 from Int.tmod_eq_emod_of_nonneg h0]
  generalize v.tmod 4294967296 = z
  rfl
theorem top2 (x0 x1 : BitVec 32) (H : Hp) : CallO Tryd.prog 94 [pv (.int .i64 (IntKind.i64.wrap (u x0 + u x1)))] H [] fun e H' G' => e = .ret (pv (iW (x0 + x1))) ∧ H' = H ∧ G' = [] := by
  have hx0 := u_lt x0
  have hx1 := u_lt x1
  rw [wrap64 (x := u x0 + u x1) (by omega) (by omega)]
  have h := top (u x0 + u x1) (by omega) H
  rw [show (u x0 + u x1) % 4294967296 = u (x0 + x1) by unfold u; simp only [BitVec.toNat_add]; omega] at h
  exact h
theorem top4 (x0 x1 x2 x3 : BitVec 32) (H : Hp) : CallO Tryd.prog 94 [pv (.int .i64 (IntKind.i64.wrap (IntKind.i64.wrap (IntKind.i64.wrap (u x0 + u x1) + u x2) + u x3)))] H [] fun e H' G' => e = .ret (pv (iW (x0 + x1 + x2 + x3))) ∧ H' = H ∧ G' = [] := by
  have hx0 := u_lt x0
  have hx1 := u_lt x1
  have hx2 := u_lt x2
  have hx3 := u_lt x3
  rw [wrap64 (x := u x0 + u x1) (by omega) (by omega)]
  rw [wrap64 (x := u x0 + u x1 + u x2) (by omega) (by omega)]
  rw [wrap64 (x := u x0 + u x1 + u x2 + u x3) (by omega) (by omega)]
  have h := top (u x0 + u x1 + u x2 + u x3) (by omega) H
  rw [show (u x0 + u x1 + u x2 + u x3) % 4294967296 = u (x0 + x1 + x2 + x3) by unfold u; simp only [BitVec.toNat_add]; omega] at h
  exact h
theorem top5 (x0 x1 x2 x3 x4 : BitVec 32) (H : Hp) : CallO Tryd.prog 94 [pv (.int .i64 (IntKind.i64.wrap (IntKind.i64.wrap (IntKind.i64.wrap (IntKind.i64.wrap (u x0 + u x1) + u x2) + u x3) + u x4)))] H [] fun e H' G' => e = .ret (pv (iW (x0 + x1 + x2 + x3 + x4))) ∧ H' = H ∧ G' = [] := by
  have hx0 := u_lt x0
  have hx1 := u_lt x1
  have hx2 := u_lt x2
  have hx3 := u_lt x3
  have hx4 := u_lt x4
  rw [wrap64 (x := u x0 + u x1) (by omega) (by omega)]
  rw [wrap64 (x := u x0 + u x1 + u x2) (by omega) (by omega)]
  rw [wrap64 (x := u x0 + u x1 + u x2 + u x3) (by omega) (by omega)]
  rw [wrap64 (x := u x0 + u x1 + u x2 + u x3 + u x4) (by omega) (by omega)]
  have h := top (u x0 + u x1 + u x2 + u x3 + u x4) (by omega) H
  rw [show (u x0 + u x1 + u x2 + u x3 + u x4) % 4294967296 = u (x0 + x1 + x2 + x3 + x4) by unfold u; simp only [BitVec.toNat_add]; omega] at h
  exact h
theorem turn (x : BitVec 32) (n : Nat) (h1 : 1 ≤ n) (h2 : n ≤ 31) (H : Hp) : CallO Tryd.prog 95 [pv (iW x), pv (.int .i64 (n : Int))] H [] fun e H' G' => e = .ret (pv (iW (x.rotateRight n))) ∧ H' = H ∧ G' = [] := by
  refine CallO.of_body tab Tryd.func95 rfl (nt := Tryd.f95.ntmps) rfl (by kernel_rfl) ?_
  conv => whnf
  refine ⟨by omega, ?_⟩
  conv => whnf
  obtain ⟨p1, p2, p3⟩ := pow_cases ⟨n, by omega⟩
  simp only at p1 p2 p3
  rw [p3]
  refine WS.draw tab mixed (.take 0 (.take 1 (.take 2 (.take 3 (.take 4 (.take 5 (.take 6 (.take 7 (.take 8 (.take 9 (.take 10 .done))))))))))) (by kernel_rfl) [] ?_
  conv => whnf
  refine ⟨by omega, ?_⟩
  conv => whnf
  refine ⟨by omega, ?_⟩
  conv => whnf
  refine ⟨by omega, ?_⟩
  conv => whnf
  have hr := rot_nat x n h1 h2
  have hb := (x.rotateRight n).isLt
  rw [← hr] at hb
  have e1 : (u x).tdiv ((2 ^ n : Nat) : Int) = ((x.toNat / 2 ^ n : Nat) : Int) := by unfold u; rw [Int.tdiv_eq_ediv_of_nonneg (by omega), ← Int.natCast_ediv]
  have e2 : (u x).tmod ((2 ^ n : Nat) : Int) = ((x.toNat % 2 ^ n : Nat) : Int) := by unfold u; rw [Int.tmod_eq_emod_of_nonneg (by omega), ← Int.natCast_emod]
  have e3 : Int.tdiv 4294967296 ((2 ^ n : Nat) : Int) = ((4294967296 / 2 ^ n : Nat) : Int) := by rw [Int.tdiv_eq_ediv_of_nonneg (by omega)]; exact (Int.natCast_ediv 4294967296 (2 ^ n)).symm
  refine ⟨?_, rfl, rfl⟩
  have e5 : (4294967296 / 2 ^ n : Nat) ≤ 4294967296 := Nat.div_le_self _ _
  rw [e1, e2, e3]
  rw [show pv (iW (x.rotateRight n)) = pv (.int .i64 (((x.rotateRight n).toNat : Nat) : Int)) from rfl, ← hr]
  clear e1 e2 e3 hr
  generalize (4294967296 : Nat) / 2 ^ n = q at *
  rw [wrap64 (x := (q : Int)) (by omega) (by omega), ← Int.natCast_mul]
  generalize x.toNat % 2 ^ n * q = z at *
  generalize x.toNat / 2 ^ n = y at *
  rw [wrap64 (x := (y : Int)) (by omega) (by omega), wrap64 (x := (z : Int)) (by omega) (by omega), wrap64 (by omega) (by omega), ← Int.natCast_add]
  rfl
theorem word_ (j n : Nat) (bs : List UInt8) (a : Addr) (cap : Nat) (hj : 4 * j + 3 < n) (H : Hp) (hb : BytesAt H (some a) n bs) (hl : n ≤ 1000000) : CallO Tryd.prog 119 [pv (.slice (some a) n cap), pv (.int .i64 ((4 * j : Nat) : Int))] H [] fun e H' G' => e = .ret (pv (iW (word bs j))) ∧ H' = H ∧ G' = [] := by
  refine CallO.of_body tab Tryd.func119 rfl (nt := Tryd.f119.ntmps) rfl (by kernel_rfl) ?_
  conv => whnf
  refine WS.draw tab mixed (.take 0 (.take 1 (.take 2 (.take 3 (.take 4 (.take 5 (.take 6 (.take 7 (.take 8 (.take 9 (.take 10 (.take 11 (.take 12 (.take 13 (.take 14 (.take 15 (.take 16 (.take 17 (.take 18 (.take 19 (.take 20 (.take 21 (.take 22 (.take 23 (.take 24 (.take 25 (.take 26 (.take 27 (.take 28 (.take 29 .done)))))))))))))))))))))))))))))) (by kernel_rfl) [] ?_
  conv => whnf
  obtain ⟨hn, -, hrd⟩ := hb
  obtain ⟨b, o, hab, hrd⟩ := hrd a rfl
  have q1 : IntKind.i64.wrap (((4 * j : Nat) : Int) + 1) = ((4 * j + 1 : Nat) : Int) := by rw [wrap64 (by omega) (by omega)]; omega
  have q2 : IntKind.i64.wrap (((4 * j : Nat) : Int) + 2) = ((4 * j + 2 : Nat) : Int) := by rw [wrap64 (by omega) (by omega)]; omega
  have q3 : IntKind.i64.wrap (((4 * j : Nat) : Int) + 3) = ((4 * j + 3 : Nat) : Int) := by rw [wrap64 (by omega) (by omega)]; omega
  have rdb : ∀ i, i < bs.length → ∀ off, off = i → RdC H (some a) off (.int .u8 (byteN bs i)) := fun i hi off ho => ⟨b, o, hab, hrd _ _ (bget hi ho)⟩
  refine ⟨⟨by omega, by omega⟩, ⟨b, o, hab⟩, ?_⟩
  conv => whnf
  refine ⟨_, rdb (4 * j) (by omega) _ (by simp; omega), ?_⟩
  conv => whnf
  rw [q1]
  refine ⟨⟨by omega, by omega⟩, ⟨b, o, hab⟩, ?_⟩
  conv => whnf
  refine ⟨_, rdb (4 * j + 1) (by omega) _ (by simp; omega), ?_⟩
  conv => whnf
  rw [q2]
  refine ⟨⟨by omega, by omega⟩, ⟨b, o, hab⟩, ?_⟩
  conv => whnf
  refine ⟨_, rdb (4 * j + 2) (by omega) _ (by simp; omega), ?_⟩
  conv => whnf
  rw [q3]
  refine ⟨⟨by omega, by omega⟩, ⟨b, o, hab⟩, ?_⟩
  conv => whnf
  refine ⟨_, rdb (4 * j + 3) (by omega) _ (by simp; omega), ?_⟩
  conv => whnf
  refine ⟨?_, rfl, rfl⟩
  have hB : ∀ i, byteN bs i < 256 := fun i => by unfold byteN; exact (bs.getD i 0).toNat_lt
  have h0 := hB (4 * j)
  have h1 := hB (4 * j + 1)
  have h2 := hB (4 * j + 2)
  have h3 := hB (4 * j + 3)
  show SE.ret (pv (.int .i64 _)) = SE.ret (pv (.int .i64 (((word bs j).toNat : Nat) : Int)))
  rw [word_nat]
  generalize byteN bs (4 * j) = a0 at *
  generalize byteN bs (4 * j + 1) = a1 at *
  generalize byteN bs (4 * j + 2) = a2 at *
  generalize byteN bs (4 * j + 3) = a3 at *
  congr 3
  rw [wrap64 (x := (a0 : Int)) (by omega) (by omega), wrap64 (x := (a1 : Int)) (by omega) (by omega), wrap64 (x := (a2 : Int)) (by omega) (by omega), wrap64 (x := (a3 : Int)) (by omega) (by omega),
    wrap64 (x := (a0 : Int) * 16777216) (by omega) (by omega), wrap64 (x := (a1 : Int) * 65536) (by omega) (by omega), wrap64 (x := (a2 : Int) * 256) (by omega) (by omega),
    wrap64 (x := (a0 : Int) * 16777216 + (a1 : Int) * 65536) (by omega) (by omega), wrap64 (x := (a0 : Int) * 16777216 + (a1 : Int) * 65536 + (a2 : Int) * 256) (by omega) (by omega), wrap64 (by omega) (by omega)]
  omega
theorem keys_ (H : Hp) : CallO Tryd.prog 91 [] H [] fun e H' G' => (∃ a, e = .ret (pv (.slice (some a) 64 64)) ∧ RdN H' (some a) 0 (kTab.map iW)) ∧ G' = [] := by
  refine CallO.of_body tab Tryd.func91 rfl (nt := Tryd.f91.ntmps) rfl (by kernel_rfl) ?_
  conv => whnf
  refine ⟨by decide, .inl ?_⟩
  intro g H2 hle hrd
  conv => whnf
  exact ⟨⟨_, rfl, hrd⟩, rfl⟩
theorem first_ (H : Hp) : CallO Tryd.prog 92 [] H [] fun e H' G' => e = .ret (.si (.ce (.self 0))) ∧ H' = H ∧ G' = [.row 3 1 8 [iW init8.a, iW init8.b, iW init8.c, iW init8.d, iW init8.e, iW init8.f, iW init8.g, iW init8.h]] := by
  refine CallO.of_body tab Tryd.func92 rfl (nt := Tryd.f92.ntmps) rfl (by kernel_rfl) ?_
  conv => whnf
  refine ⟨by decide, .inr ⟨rfl, ?_⟩⟩
  conv => whnf
  exact ⟨rfl, rfl, rfl⟩
end Ref1
end Go.Kx.Sha
