/- A row of one's own that is handed to a call and is read for good from there on; slices read for good. Generic in the program; no condition of its own. -/
import Derived.Test.YtfchdibbjaeocaaDoorKX
namespace Go.Kx
open Go.RowKit

section
variable {P : Program}
theorem all2_at {ρ : List Value} {k : Nat} {x : Value} (hk : ρ[k]? = some x) : ∀ {svs : List SV} {vs : List Value}, All2 (SV.Is ρ) svs vs → All2 (SV.Is ρ) (svs.map (SV.at k x)) vs
  | _, _, .nil => .nil
  | _, _, .cons h t => .cons (h.at hk) (all2_at hk t)
theorem CallO.eat {f : FuncId} {svs : List SV} {H : Hp} {G : List SB} {K : SE → Hp → List SB → Prop} (k : Nat) {t : TypeId} {sz n : Nat} {xs : List Value} (hk : G[k]? = some (.row t sz n xs)) (hz : n = 0 → xs = [])
    (h : ∀ x H2, H.Le H2 → Frozen H2 x n xs → CallO P f (svs.map (SV.at k x)) H2 ((G.set k .dead).map (SB.at k x)) K) : CallO P f svs H G K := by
  intro w0 M hgd H0 ρ w vs hs hv
  obtain ⟨x, H2, a1, a2, a3, a4⟩ := hs.frz hk hz
  have a5 := a1.kill k
  rw [List.set_set] at a5
  refine (h x H2 a2 a3 w0 M hgd H0 ρ w vs (a5.atAll a4) (all2_at a4 hv)).mono fun e w' he => ?_
  cases e with
  | returned v => obtain ⟨sv, ρ', H', G', h1, h2, h3, h4, h5⟩ := he; exact ⟨sv, ρ', H', G', h1, h2, h3, a2.trans h4, h5⟩
  | panicked ch => obtain ⟨ρ', H', G', h1, h2, h4, h5⟩ := he; exact ⟨ρ', H', G', h1, h2, a2.trans h4, h5⟩
  | outgrown => exact he
theorem WS.frz {n e : Nat} {D : Pin} {c : Code} {K : KT} {F : Fr} {H : Hp} {G : List SB} (k : Nat) {t : TypeId} {sz m : Nat} {xs : List Value} (hk : G[k]? = some (.row t sz m xs)) (hz : m = 0 → xs = [])
    (h : ∀ x H2, H.Le H2 → Frozen H2 x m xs → WS P n e D c K (frameAt k x F) H2 ((G.set k .dead).map (SB.at k x))) : WS P n e D c K F H G :=
  ⟨(codeL.frz k hk hz fun x H2 h1 h2 => codeL.ofS (h x H2 h1 h2)).to⟩
end
end Go.Kx
