/- Panics, assertions to a type that is no interface. Generic in the program; no condition of its own. -/
import Derived.Test.YtfchdibbjaeocaaDoorKB
namespace Go.Kx
open Go.RowKit

section
variable {P : Program}
/-- 'panic(x)', x a value that is known. -/
def panX (sx : SV) (Kp : List PanicEntry → Prop) : Prop :=
  match sx with
  | .si (.ce (.val (.iface t v))) => Kp [{ v := .iface t v, recovered := false }]
  | _ => False
theorem panX_ok {o : Oper} {x : Operand} (ho : o.op = .panic x) {F : Fr} {H : Hp} {G : List SB} {K : SV → Hp → List SB → Prop} {Kp : List PanicEntry → Hp → List SB → Prop}
    (h : evX x F fun sx => panX sx fun ch => Kp ch H G) : LO P o F H G K Kp := by
  obtain ⟨sx, h, hx⟩ := evX_ok h
  unfold panX at h
  split at h
  · rename_i t v
    intro w0 M hgd H0 ρ a w hs hf
    have e : a.eval x = .iface t v := hx ρ a hf
    have hrun : (execOp a.eval o).run P w = .halt (.panic (.iface t v)) w := by
      simp only [execOp, ho, e]
      simp [Instr.panic, goPanic]
    rw [hrun]
    exact ⟨ρ, H, G, hs, .refl _, .refl _, h⟩
  · exact h.elim
def ifcX (sx : SV) (K1 : TypeId → Value → Prop) (K0 : Prop) : Prop :=
  match sx with
  | .si (.ce (.val (.iface u v))) => K1 u v
  | .si (.ce (.val .nilIface)) => K0
  | _ => False
theorem ifcX_ok {sx : SV} {K1 : TypeId → Value → Prop} {K0 : Prop} (h : ifcX sx K1 K0) : (∃ u v, sx = .si (.ce (.val (.iface u v))) ∧ K1 u v) ∨ (sx = .si (.ce (.val .nilIface)) ∧ K0) := by
  unfold ifcX at h
  split at h <;> first | exact .inl ⟨_, _, rfl, h⟩ | exact .inr ⟨rfl, h⟩ | exact h.elim
/-- 'x.(T)', 'x, ok := y.(T)', T no interface. -/
def taX (T : Tab) (t : TypeId) (ok : Bool) (sx : SV) (K : SV → Prop) : Prop :=
  tabX T t fun ti => notIfc ti.k <| ifcX sx (fun u v => match Nat.beq u t with
      | true => constX v fun sv => lookX.fin ok sv true K
      | false => match ok with
        | true => zeroX ti fun sv => lookX.fin true sv false K
        | false => False)
    (match ok with
      | true => zeroX ti fun sv => lookX.fin true sv false K
      | false => False)
theorem run_ta_yes {t xt : TypeId} {d : TypeDesc} (hd : P.underlying t = some d) (hn : ∀ m, d ≠ .interface m) (v : Value) (ok : Bool) (w : World) : (Instr.typeAssert (.iface t v) xt t ok).run P w = .ok (if ok then .tuple #[v, .bool true] else v) w := by
  unfold Instr.typeAssert
  cases d <;> first | exact absurd rfl (hn _) | (simp [run_underlying hd])
theorem run_ta_no {t u xt : TypeId} (hu : u ≠ t) {d : TypeDesc} (hd : P.underlying t = some d) (hn : ∀ m, d ≠ .interface m) (v z : Value) (hz : ∀ w, (zeroValue t).run P w = .ok z w) (w : World) : (Instr.typeAssert (.iface u v) xt t true).run P w = .ok (.tuple #[z, .bool false]) w := by
  unfold Instr.typeAssert
  cases d <;> first | exact absurd rfl (hn _) | (simp [run_underlying hd, hu, hz])
theorem run_ta_nil {t xt : TypeId} {d : TypeDesc} (hd : P.underlying t = some d) (hn : ∀ m, d ≠ .interface m) (z : Value) (hz : ∀ w, (zeroValue t).run P w = .ok z w) (w : World) : (Instr.typeAssert .nilIface xt t true).run P w = .ok (.tuple #[z, .bool false]) w := by
  unfold Instr.typeAssert
  cases d <;> first | exact absurd rfl (hn _) | (simp [run_underlying hd, hz])
theorem taX_ok {T : Tab} (hT : TabOk P T) {o : Oper} {x : Operand} {xt t : TypeId} {ok : Bool} (ho : o.op = .typeAssert x xt t ok) {F : Fr} {H : Hp} {G : List SB} {K : SV → Prop}
    (h : evX x F fun sx => taX T t ok sx K) : QO P o F H G K := by
  obtain ⟨sx, h, hx⟩ := evX_ok h
  obtain ⟨ti, ht, h⟩ := tabX_ok hT h
  obtain ⟨hk, h⟩ := notIfc_ok h
  obtain ⟨d, hd, hn⟩ := ht.notIface hk
  have hex : ∀ (a : Act) (w : World), (execOp a.eval o).run P w = ((Instr.typeAssert (a.eval x) xt t ok).run P w).andThen fun v w => .ok (.value v) w := fun a w => by
    simp [execOp, ho]
  rcases ifcX_ok h with ⟨u, v, e0, h2⟩ | ⟨e0, h2⟩ <;> clear h <;> subst e0
  · cases hu : Nat.beq u t with
    | true =>
      rw [hu] at h2
      have hu := Nat.eq_of_beq_eq_true hu
      subst hu
      obtain ⟨sv, h, hsv⟩ := constX_ok h2
      obtain ⟨s, h, hs⟩ := lookX_fin h
      refine ⟨s, h, fun ρ a wc hf hw => ⟨_, hs ρ _ (hsv ρ), fun w hw' => ?_⟩⟩
      have e : a.eval x = .iface u v := hx ρ a hf
      rw [hex, e, run_ta_yes hd hn]; rfl
    | false =>
      rw [hu] at h2
      have hu : u ≠ t := fun e => by rw [e, Nat.beq_refl] at hu; cases hu
      cases ok with
      | true =>
        obtain ⟨sv, z, h, hsv, hz⟩ := zeroX_ok ht h2
        obtain ⟨s, h, hs⟩ := lookX_fin h
        refine ⟨s, h, fun ρ a wc hf hw => ⟨_, hs ρ _ (hsv ρ), fun w hw' => ?_⟩⟩
        have e : a.eval x = .iface u v := hx ρ a hf
        rw [hex, e, run_ta_no hu hd hn v z hz]; rfl
      | false => exact h2.elim
  · cases ok with
    | true =>
      obtain ⟨sv, z, h, hsv, hz⟩ := zeroX_ok ht h2
      obtain ⟨s, h, hs⟩ := lookX_fin h
      refine ⟨s, h, fun ρ a wc hf hw => ⟨_, hs ρ _ (hsv ρ), fun w hw' => ?_⟩⟩
      have e : a.eval x = .nilIface := hx ρ a hf
      rw [hex, e, run_ta_nil hd hn z hz]; rfl
    | false => exact h2.elim
end
end Go.Kx
