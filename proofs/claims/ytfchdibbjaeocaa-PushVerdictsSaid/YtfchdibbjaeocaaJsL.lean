/- The library's strings.IndexByte, strings.HasPrefix. No condition of its own. -/
import Derived.Test.YtfchdibbjaeocaaProg
import Derived.Test.YtfchdibbjaeocaaKBy
import Derived.Shelf.Small.Strs
namespace Go.Proofs
open Go.Shelf
def Try.laysIB_ren : Go.Shelf.Ren := ⟨fun | 137 => 28 | 217 => 40 | 266 => 50 | n => n, fun | 9 => 9 | 5 => 5 | 3 => 3 | n => n, fun | n => n⟩
theorem Try.laysIB : Go.Proofs.Lays.n137 Try.prog Try.laysIB_ren where
  mixed := by kernel_rfl
  f137 := Try.func28.trans (congrArg some (by kernel_rfl))
  f217 := Try.func40.trans (congrArg some (by kernel_rfl))
  f266 := Try.func50.trans (congrArg some (by kernel_rfl))
  t3 := Try.underlying3
  a3 := Try.isAgg3
  z3 := Try.sizeOf3
  v3 := Try.zeroValue3
  t5 := Try.underlying5
  a5 := Try.isAgg5
  z5 := Try.sizeOf5
  v5 := Try.zeroValue5
  t9 := Try.underlying9
  a9 := Try.isAgg9
  z9 := Try.sizeOf9
  v9 := Try.zeroValue9

end Go.Proofs
namespace Go.Kx.Js
open Go.Proofs Go.Kx Go.RowKit
set_option maxRecDepth 20000
def ixB (s : List UInt8) (c : UInt8) : Int := Lib.indexByte s c
theorem indexByte (s : ByteArray) (c : UInt8) (H : Hp) (G : List SB) : CallO Try.prog 28 [pv (.string s), pv (.int .u8 (c.toNat : Int))] H G fun e H' G' => e = .ret (pv (.int .i64 (ixB s.data.toList c))) ∧ H' = H ∧ G' = G := by
  refine (CallO.of_calls (args := [.string s, .int .u8 (c.toNat : Int)]) (R := fun v => v = .int .i64 (ixB s.data.toList c)) fun w _ _ => ?_).mono ?_
  · refine (Any.strings_IndexByte Try.laysIB s (c.toNat : Int) w).mono fun e w' ⟨he, hw⟩ => ⟨_, he, ?_, ?_⟩
    · unfold ixB
      congr 2
      show (c.toNat).toUInt8 = c
      simp
    · subst hw; exact grown_refl _
  · rintro e H' G' hle ⟨v, rfl, rfl, rfl, rfl⟩
    exact ⟨rfl, rfl, rfl⟩
end Go.Kx.Js
