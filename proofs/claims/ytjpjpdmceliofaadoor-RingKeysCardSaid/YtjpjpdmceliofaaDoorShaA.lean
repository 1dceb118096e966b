/- SHA-256's small functions: what each comes to. No condition of its own. -/
import Derived.Test.YtjpjpdmceliofaaDoorProg
import Derived.Test.YtjpjpdmceliofaaDoorK15
namespace Go.Kx.Sha
open Go.Proofs Go.Kx
set_option maxRecDepth 20000

def T : Tab := [(111, { k := TK.ptr 146, agg := false, size := 1, bytes := 8, zero := [Z.p] }), (144, { k := TK.ar 8 99 1, agg := true, size := 8, bytes := 32, zero := [Z.i IntKind.u32, Z.i IntKind.u32, Z.i IntKind.u32, Z.i IntKind.u32, Z.i IntKind.u32, Z.i IntKind.u32, Z.i IntKind.u32, Z.i IntKind.u32] }), (146, { k := TK.st [(0, 144, 8), (8, 22, 1), (9, 3, 1)], agg := true, size := 10, bytes := 64, zero := [Z.i IntKind.u32, Z.i IntKind.u32, Z.i IntKind.u32, Z.i IntKind.u32, Z.i IntKind.u32, Z.i IntKind.u32, Z.i IntKind.u32, Z.i IntKind.u32, Z.sl, Z.i IntKind.i64] }), (22, { k := TK.slice 5, agg := false, size := 1, bytes := 24, zero := [Z.sl] }), (3, { k := TK.int IntKind.i64, agg := false, size := 1, bytes := 8, zero := [Z.i IntKind.i64] }), (4, { k := TK.bool, agg := false, size := 1, bytes := 1, zero := [Z.b] }), (110, { k := TK.slice 22, agg := false, size := 1, bytes := 24, zero := [Z.sl] }), (5, { k := TK.int IntKind.u8, agg := false, size := 1, bytes := 1, zero := [Z.i IntKind.u8] }), (99, { k := TK.int IntKind.u32, agg := false, size := 1, bytes := 4, zero := [Z.i IntKind.u32] }), (161, { k := TK.ar 64 99 1, agg := true, size := 64, bytes := 256, zero := [Z.i IntKind.u32, Z.i IntKind.u32, Z.i IntKind.u32, Z.i IntKind.u32, Z.i IntKind.u32, Z.i IntKind.u32, Z.i IntKind.u32, Z.i IntKind.u32, Z.i IntKind.u32, Z.i IntKind.u32, Z.i IntKind.u32, Z.i IntKind.u32, Z.i IntKind.u32, Z.i IntKind.u32, Z.i IntKind.u32, Z.i IntKind.u32, Z.i IntKind.u32, Z.i IntKind.u32, Z.i IntKind.u32, Z.i IntKind.u32, Z.i IntKind.u32, Z.i IntKind.u32, Z.i IntKind.u32, Z.i IntKind.u32, Z.i IntKind.u32, Z.i IntKind.u32, Z.i IntKind.u32, Z.i IntKind.u32, Z.i IntKind.u32, Z.i IntKind.u32, Z.i IntKind.u32, Z.i IntKind.u32, Z.i IntKind.u32, Z.i IntKind.u32, Z.i IntKind.u32, Z.i IntKind.u32, Z.i IntKind.u32, Z.i IntKind.u32, Z.i IntKind.u32, Z.i IntKind.u32, Z.i IntKind.u32, Z.i IntKind.u32, Z.i IntKind.u32, Z.i IntKind.u32, Z.i IntKind.u32, Z.i IntKind.u32, Z.i IntKind.u32, Z.i IntKind.u32, Z.i IntKind.u32, Z.i IntKind.u32, Z.i IntKind.u32, Z.i IntKind.u32, Z.i IntKind.u32, Z.i IntKind.u32, Z.i IntKind.u32, Z.i IntKind.u32, Z.i IntKind.u32, Z.i IntKind.u32, Z.i IntKind.u32, Z.i IntKind.u32, Z.i IntKind.u32, Z.i IntKind.u32, Z.i IntKind.u32, Z.i IntKind.u32] }), (71, { k := TK.int IntKind.u64, agg := false, size := 1, bytes := 8, zero := [Z.i IntKind.u64] })]
set_option maxRecDepth 100000 in
theorem tab : TabOk Tryd.prog T := tabOk_mk (ts := [111, 144, 146, 22, 3, 4, 110, 5, 99, 161, 71]) (by kernel_rfl)
theorem mixed : Tryd.prog.follows .mixedOrders = true := by kernel_rfl


/-- A word as an int of kind u32. -/
def u (b : BitVec 32) : Int := (b.toNat : Int)
def uV (b : BitVec 32) : SV := pv (.int .u32 (u b))
theorem u_lt (b : BitVec 32) : 0 ≤ u b ∧ u b < 4294967296 := by unfold u; have := b.isLt; omega
theorem wrap32 {x : Int} (h : 0 ≤ x) (h' : x < 4294967296) : IntKind.u32.wrap x = x := by
  simp only [IntKind.wrap, IntKind.bits, IntKind.signed]; simp; omega
theorem wrap32' (x : Int) : IntKind.u32.wrap x = x % 4294967296 := by
  simp [IntKind.wrap, IntKind.bits, IntKind.signed]
theorem ofInt_u (b : BitVec 32) : BitVec.ofInt IntKind.u32.bits (u b) = b := by
  show BitVec.ofInt 32 (u b) = b
  unfold u; simp
theorem u_add (a b : BitVec 32) : IntKind.u32.wrap (u a + u b) = u (a + b) := by
  rw [wrap32']; unfold u; rw [BitVec.toNat_add]; omega
theorem u_xor (a b : BitVec 32) : IntKind.u32.wrap ((BitVec.ofInt IntKind.u32.bits (u a) ^^^ BitVec.ofInt IntKind.u32.bits (u b)).toNat : Int) = u (a ^^^ b) := by
  rw [ofInt_u, ofInt_u]; exact wrap32 (u_lt _).1 (u_lt (a ^^^ b)).2
theorem u_and (a b : BitVec 32) : IntKind.u32.wrap ((BitVec.ofInt IntKind.u32.bits (u a) &&& BitVec.ofInt IntKind.u32.bits (u b)).toNat : Int) = u (a &&& b) := by
  rw [ofInt_u, ofInt_u]; exact wrap32 (u_lt _).1 (u_lt (a &&& b)).2
theorem u_or (a b : BitVec 32) : IntKind.u32.wrap ((BitVec.ofInt IntKind.u32.bits (u a) ||| BitVec.ofInt IntKind.u32.bits (u b)).toNat : Int) = u (a ||| b) := by
  rw [ofInt_u, ofInt_u]; exact wrap32 (u_lt _).1 (u_lt (a ||| b)).2
theorem u_shl (a : BitVec 32) (k : Nat) (hk : k < 32) : IntKind.u32.wrap (u a * 2 ^ min k IntKind.u32.bits) = u (a <<< k) := by
  rw [wrap32', show min k IntKind.u32.bits = k from Nat.min_eq_left (by show k ≤ 32; omega)]
  unfold u
  rw [BitVec.toNat_shiftLeft, Nat.shiftLeft_eq, Int.natCast_emod, Int.natCast_mul, Int.natCast_pow]
  rfl
theorem u_shr (a : BitVec 32) (k : Nat) (hk : k < 32) : (u a).fdiv (2 ^ min k IntKind.u32.bits) = u (a >>> k) := by
  rw [show min k IntKind.u32.bits = k from Nat.min_eq_left (by show k ≤ 32; omega)]
  unfold u
  rw [BitVec.toNat_ushiftRight, Nat.shiftRight_eq_div_pow, Int.fdiv_eq_ediv_of_nonneg _ (by exact Int.le_of_lt (Int.pow_pos (by decide))), Int.natCast_ediv, Int.natCast_pow]
  rfl
/-- How far to the left a turn to the right by n is. -/
theorem lefts : ∀ n : Fin 32, n.val ≠ 0 → IntKind.u64.wrap ((BitVec.ofInt IntKind.u64.bits (IntKind.u64.wrap (IntKind.i64.wrap (-(n.val : Int)))) &&& BitVec.ofInt IntKind.u64.bits 31).toNat : Int) = 32 - (n.val : Int) := by decide
theorem rot (x : BitVec 32) (n : Nat) (h1 : 1 ≤ n) (h2 : n ≤ 31) (H : Hp) : CallO Tryd.prog 143 [uV x, pv (.int .i64 (IntKind.i64.wrap (-(n : Int))))] H [] fun e H' G' => e = .ret (uV (x.rotateRight n)) ∧ H' = H ∧ G' = [] := by
  refine CallO.of_body tab Tryd.func143 rfl (nt := Tryd.f143.ntmps) rfl (by kernel_rfl) ?_
  conv => whnf
  have hl := lefts ⟨n, by omega⟩ (by show n ≠ 0; omega)
  simp only at hl
  rw [hl]
  refine ⟨by omega, ?_⟩
  conv => whnf
  have hw : IntKind.u64.wrap (32 - (32 - (n : Int))) = (n : Int) := by simp only [IntKind.wrap, IntKind.bits, IntKind.signed]; simp; omega
  rw [hw]
  refine ⟨by omega, ?_⟩
  conv => whnf
  have e1 : (32 - (n : Int)).toNat = 32 - n := by omega
  rw [e1, Int.toNat_natCast]
  refine ⟨?_, rfl, rfl⟩
  rw [u_shl x (32 - n) (by omega), u_shr x n (by omega), u_or]
  have e2 : x.rotateRight n = x <<< (32 - n) ||| x >>> n := by
    rw [BitVec.rotateRight_def, Nat.mod_eq_of_lt (by omega), BitVec.or_comm]
  rw [e2]; rfl
theorem right (x : BitVec 32) (n : Nat) (h1 : 1 ≤ n) (h2 : n ≤ 31) (H : Hp) : CallO Tryd.prog 135 [uV x, pv (.int .i64 (n : Int))] H [] fun e H' G' => e = .ret (uV (x.rotateRight n)) ∧ H' = H ∧ G' = [] := by
  refine CallO.of_body tab Tryd.func135 rfl (nt := Tryd.f135.ntmps) rfl (by kernel_rfl) ?_
  conv => whnf
  rw [Int.zero_sub]
  refine ⟨⟨_, Tryd.func143, rfl, by kernel_rfl⟩, CallS.use (rot x n h1 h2 H) [] rfl rfl trivial ?_⟩
  rintro e H' G' hle ⟨rfl, rfl, rfl⟩
  conv => whnf
  exact ⟨rfl, rfl, rfl⟩
end Go.Kx.Sha
