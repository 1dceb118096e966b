/- Contracts of the library's functions in use. Generic in the program; no condition of its own. -/
import Derived.Test.YtfchdibbjaeocaaDoorKE
import Derived.Laws.AppendOwn
namespace Go.Kx
open Go.RowKit
section
variable {P : Program}
/-- The blocks that are laid for good are there. -/
def GlW (w : World) : Prop := ∀ g cs, Gl g = some cs → ∃ t z, w.heap[g]? = some (.cells cs t z)
def svOf : Value → SV
  | .tuple vs => .tu (vs.toList.map fun v => .ce (.val v))
  | v => pv v
theorem svOf_is (ρ : List Value) (v : Value) : (svOf v).Is ρ v := by
  unfold svOf
  split
  · rename_i vs
    refine ⟨vs.toList, by simp, ?_⟩
    generalize vs.toList = l
    induction l with
    | nil => exact .nil
    | cons a l ih => exact .cons rfl ih
  · rfl
theorem pv_all (ρ : List Value) : ∀ {args vs : List Value}, All2 (SV.Is ρ) (args.map pv) vs → vs = args
  | [], _, h => by cases h; rfl
  | a :: l, _, h => by
    cases h with | cons h1 h2 =>
      have h1 : _ = a := h1
      rw [h1, pv_all ρ h2]
theorem grown_of_below {w w' : World} (h : Below w.heap.size w w') : w.grownBy w' none := ⟨h.os, h.tape, h.output, h.size, fun k hk _ => h.block k hk⟩
theorem grown_refl (w : World) : w.grownBy w none := grown_of_below (Below.refl _ _)
/-- What a call comes to that turns nothing that is there. -/
theorem CallO.of_calls {f : FuncId} {args : List Value} {H : Hp} {G : List SB} {R : Value → Prop} (h : ∀ w : World, GlW w → H.In w → Calls P f args.toArray w fun e w' => ∃ v, e = .returned v ∧ R v ∧ w.grownBy w' none) :
    CallO P f (args.map pv) H G fun e H' G' => ∃ v, R v ∧ e = .ret (svOf v) ∧ H' = H ∧ G' = G := by
  intro w0 M hgd H0 ρ w vs hs hv
  obtain rfl := pv_all ρ hv
  refine (h w (fun g cs hc => hs.gl hgd hc) hs.hin).mono fun e w' he => ?_
  obtain ⟨v, rfl, hR, hg⟩ := he
  exact ⟨svOf v, ρ, H, G, hs.grew hg (fun g e => by cases e), .refl _, svOf_is ρ v, .refl _, v, hR, rfl, rfl, rfl⟩
end
end Go.Kx
