/- The push layer's functions: what each comes to. No condition of its own. -/
import Derived.Test.YtocmciilifenhaaProg
import Derived.Test.YtocmciilifenhaaK14
namespace Go.Kx.Push
open Go.Proofs Go.Kx

def T : Tab := [(3, { k := TK.int IntKind.i64, agg := false, size := 1, bytes := 8, zero := [Z.i IntKind.i64] }), (4, { k := TK.bool, agg := false, size := 1, bytes := 1, zero := [Z.b] }), (9, { k := TK.string, agg := false, size := 1, bytes := 16, zero := [Z.s] }), (22, { k := TK.slice 3, agg := false, size := 1, bytes := 24, zero := [Z.sl] }), (37, { k := TK.st [(0, 3, 1), (1, 3, 1)], agg := true, size := 2, bytes := 16, zero := [Z.i IntKind.i64, Z.i IntKind.i64] }), (38, { k := TK.int IntKind.i64, agg := false, size := 1, bytes := 8, zero := [Z.i IntKind.i64] }), (49, { k := TK.slice 57, agg := false, size := 1, bytes := 24, zero := [Z.sl] }), (50, { k := TK.ptr 86, agg := false, size := 1, bytes := 8, zero := [Z.p] }), (53, { k := TK.slice 61, agg := false, size := 1, bytes := 24, zero := [Z.sl] }), (55, { k := TK.st [(0, 3, 1), (1, 3, 1), (2, 53, 1)], agg := true, size := 3, bytes := 40, zero := [Z.i IntKind.i64, Z.i IntKind.i64, Z.sl] }), (57, { k := TK.st [(0, 3, 1), (1, 3, 1), (2, 9, 1), (3, 4, 1), (4, 3, 1), (5, 3, 1)], agg := true, size := 6, bytes := 56, zero := [Z.i IntKind.i64, Z.i IntKind.i64, Z.s, Z.b, Z.i IntKind.i64, Z.i IntKind.i64] }), (61, { k := TK.st [(0, 3, 1), (1, 9, 1), (2, 3, 1), (3, 3, 1)], agg := true, size := 4, bytes := 40, zero := [Z.i IntKind.i64, Z.s, Z.i IntKind.i64, Z.i IntKind.i64] }), (84, { k := TK.map 3 91, agg := false, size := 1, bytes := 8, zero := [Z.m] }), (86, { k := TK.st [(0, 37, 2), (2, 84, 1)], agg := true, size := 3, bytes := 24, zero := [Z.i IntKind.i64, Z.i IntKind.i64, Z.m] }), (91, { k := TK.st [(0, 9, 1), (1, 3, 1), (2, 3, 1)], agg := true, size := 3, bytes := 32, zero := [Z.s, Z.i IntKind.i64, Z.i IntKind.i64] })]
set_option maxRecDepth 100000 in
theorem tab : TabOk Try.prog T := tabOk_mk (ts := [3, 4, 9, 22, 37, 38, 49, 50, 53, 55, 57, 61, 84, 86, 91]) (by kernel_rfl)

def lineV (x : ByteArray × Int × Int) : Value := .agg #[.string x.1, .int .i64 x.2.1, .int .i64 x.2.2]
def lf (pl : Int → Option (ByteArray × Int × Int)) : Value → Option Value := fun v => match v with
  | .int .i64 n => (pl n).map lineV
  | _ => none
def lineOf (pl : Int → Option (ByteArray × Int × Int)) (n : Int) : ByteArray × Int × Int := (pl n).getD (⟨#[]⟩, 0, 0)
section
variable {pl : Int → Option (ByteArray × Int × Int)} {n : Int} {x : ByteArray × Int × Int}
theorem lf_none (h : pl n = none) : lf pl (.int .i64 n) = none := by simp [lf, h]
theorem lf_some (h : pl n = some x) : lf pl (.int .i64 n) = some (lineV x) := by simp [lf, h]
theorem lineOf_none (h : pl n = none) : lineOf pl n = (⟨#[]⟩, 0, 0) := by simp [lineOf, h]
theorem lineOf_some (h : pl n = some x) : lineOf pl n = x := by simp [lineOf, h]
end
/-- A scheduler and its lines. -/
def pushG (b c : Int) (cnt : Nat) (pl : Int → Option (ByteArray × Int × Int)) : List SB := [.box 86 [.val (.int .i64 b), .val (.int .i64 c), .self 1], .map (.int .i64) cnt (lf pl)]

theorem way (b c : Int) (cnt : Nat) (pl : Int → Option (ByteArray × Int × Int)) (n : Int) (H : Hp) : CallO Try.prog 28 [.si (.ce (.ptr 0 0)), pv (.int .i64 n)] H (pushG b c cnt pl) fun e H' G' => e = .ret (pv (.string (lineOf pl n).1)) ∧ H' = H ∧ G' = pushG b c cnt pl := by
  refine CallO.of_body tab Try.func28 rfl (nt := Try.f28.ntmps) rfl (by kernel_rfl) ?_
  conv => whnf
  cases hpl : pl n with
  | none =>
    refine ⟨none, lf_none hpl, ?_⟩
    conv => whnf
    refine ⟨?_, rfl, rfl⟩
    rw [lineOf_none hpl]; rfl
  | some x =>
    refine ⟨_, lf_some hpl, ?_⟩
    conv => whnf
    refine ⟨?_, rfl, rfl⟩
    rw [lineOf_some hpl]; rfl
end Go.Kx.Push
