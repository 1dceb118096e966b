/- The reference's SHA-256, of what is read for good, and of a row of one's own. No condition of its own. -/
import Derived.Test.YtjpjpdmceliofaaDoorRef1C
namespace Go.Kx.Sha
open Go.Proofs Go.Kx
set_option maxRecDepth 20000
namespace Ref1
theorem sumR (m : List UInt8) (A : Option Addr) (n cap : Nat) (H : Hp) (hm : BytesAt H A n m) (hl : n ≤ 1000000) :
    CallO Tryd.prog 54 [pv (.slice A n cap)] H [] fun e H' G' => RetB (sha m) e H' ∧ G' = [] := by
  refine CallO.bytes (t := 5) rfl (CallO.sub (sum0 m A n cap H hm hl) ?_)
  rintro e H' G' hle ⟨xs, rfl, rfl⟩
  exact ⟨.si (.ce (.self 0)), [.row 5 1 32 (bCells (sha m))], [1], rfl, ⟨rfl, trivial⟩, rfl, rfl, rfl⟩
/-- Of a row of one's own, that isn't written any more. -/
theorem sumO (m : List UInt8) (n : Nat) (H : Hp) (hn : n = m.length) (hl : n ≤ 1000000) :
    CallO Tryd.prog 54 [.si (.ce (.self 0))] H [.row 5 1 n (bCells m)] fun e H' G' => RetB (sha m) e H' ∧ G' = [.dead] := by
  refine CallO.eat 0 (t := 5) (sz := 1) (n := n) (xs := bCells m) rfl (fun h0 => by have : m = [] := List.eq_nil_of_length_eq_zero (by omega); rw [this]; rfl) ?_
  intro x H2 hle hfr
  obtain ⟨A, cap, rfl, hb⟩ := BytesAt.of_frozen hn hfr
  refine (CallS.use (sumR m A n cap H2 hb hl) [] rfl rfl trivial ?_).to
  rintro e H' G' hle ⟨⟨B, k, c, rfl, hb⟩, rfl⟩
  conv => whnf
  exact ⟨⟨B, k, c, rfl, hb⟩, rfl⟩
end Ref1
end Go.Kx.Sha
