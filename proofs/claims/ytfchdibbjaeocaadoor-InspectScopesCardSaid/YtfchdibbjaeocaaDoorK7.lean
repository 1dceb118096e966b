/- Quiet operations, whole: one function over all kinds, and that what it tells is so. Generic in the program; no condition of its own. -/
import Derived.Test.YtfchdibbjaeocaaDoorK6
namespace Go.Kx
open Go.RowKit

def pv (v : Value) : SV := .si (.ce (.val v))
theorem pv_is (ρ : List Value) (v : Value) : (pv v).Is ρ v := rfl

/-! ### Two operands -/
/-- Is it nil? Of what can be held against nil. -/
def nilOf (x : SC) (K : Bool → Prop) : Prop :=
  match x with
  | .val v => match v with
    | .pointer none => K true
    | .pointer (some _) => K false
    | .slice none _ _ => K true
    | .slice (some _) _ _ => K false
    | .nilIface => K true
    | .iface _ _ => K false
    | .nilFunc => K true
    | .func _ _ _ => K false
    | .map none => K true
    | .map (some _) => K false
    | _ => False
  | .ptr _ _ => K false
  | .fn _ _ _ => K false
  | _ => False
/-- The operands' types against which nil is held. -/
def nilKind (k : TK) (z : Value) : Bool :=
  match k, z with
  | .ptr _, .pointer none => true
  | .slice _, .slice none 0 0 => true
  | .func, .nilFunc => true
  | .map _ _, .map none => true
  | .ifc, .nilIface => true
  | _, _ => false
/-- The value's shape fits the kind. -/
def nilFit (k : TK) (x : SC) : Bool :=
  match k, x with
  | .ptr _, .val (.pointer _) => true
  | .ptr _, .ptr _ _ => true
  | .slice _, .val (.slice _ _ _) => true
  | .func, .val .nilFunc => true
  | .func, .val (.func _ _ _) => true
  | .func, .fn _ _ _ => true
  | .map _ _, .val (.map _) => true
  | .ifc, .val .nilIface => true
  | .ifc, .val (.iface _ _) => true
  | _, _ => false
def isTrue (b : Bool) (K : Prop) : Prop :=
  match b with
  | true => K
  | false => False
theorem isTrue_ok {b : Bool} {K : Prop} (h : isTrue b K) : b = true ∧ K := by cases b with | true => exact ⟨rfl, h⟩ | false => exact h.elim
def isConstB : Operand → Bool
  | .const _ => true
  | _ => false
/-- x == nil, x != nil. -/
def nilCmp (T : Tab) (op : BinOp) (t : TypeId) (sx : SV) (z : Value) (K : SV → Prop) : Prop :=
  tabX T t fun ti => isTrue (nilKind ti.k z) <| cellX sx fun c => isTrue (nilFit ti.k c) <| nilOf c fun b => nilX op b fun v => K (pv v)
def binQ (T : Tab) (op : BinOp) (t : TypeId) (sx : SV) (y : Operand) (sy : SV) (K : SV → Prop) : Prop :=
  match sy with
  | .si (.ce (.val v)) => match v with
    | .int k' b => match sx with
      | .si (.ce (.val (.int k a))) => binX op (.int k a) (.int k' b) fun v => K (pv v)
      | _ => False
    | .string b => match sx with
      | .si (.ce (.val (.string a))) => binX op (.string a) (.string b) fun v => K (pv v)
      | _ => False
    | .bool b => match sx with
      | .si (.ce (.val (.bool a))) => tabX T t fun ti => match ti.k with
        | .bool => binX op (.bool a) (.bool b) fun v => K (pv v)
        | _ => False
      | _ => False
    | z => isTrue (isConstB y) (nilCmp T op t sx z K)
  | _ => False

section
variable {P : Program}
theorem run_equalIn_bool {t : TypeId} {ti : TI} (ht : TOk P t ti) (hk : ti.k = .bool) (a b : Bool) (w : World) (d : Nat) : (Op.equalIn (d + 1) t (.bool a) (.bool b)).run P w = .ok (a == b) w := by
  simp [Op.equalIn, run_underlying (ht.bool hk)]
theorem run_equal_bool {t : TypeId} {ti : TI} (ht : TOk P t ti) (hk : ti.k = .bool) (a b : Bool) (w : World) : (Op.equal t (.bool a) (.bool b)).run P w = .ok (a == b) w :=
  run_equalIn_bool ht hk a b w 9999
theorem run_eqGuard_plain {op : BinOp} {t : TypeId} {x y : Operand} {a b : Value} (h : ∀ c d, ¬ (a = .agg c ∧ b = .agg d)) (hn : ¬ (a = .nilIface ∧ b = .nilIface) ∨ isConstB y = true) (w : World) : (eqGuard op t x y a b).run P w = .ok () w := by
  cases op <;> first
    | rfl
    | (cases a <;> cases b <;> first
        | rfl
        | exact absurd ⟨rfl, rfl⟩ (h _ _)
        | (rcases hn with hn | hn
           · exact absurd ⟨rfl, rfl⟩ hn
           · cases y <;> first | (simp [isConstB] at hn; done) | simp [eqGuard]))
theorem binX_ok {t : TypeId} {op : BinOp} {a b : Value} {K : Value → Prop} (hb : ∀ x y, a = .bool x → b = .bool y → ∀ w : World, (Op.equal t a b).run P w = .ok (x == y) w) (h : binX op a b K) :
    ∃ v, K v ∧ ∀ (x y : Operand) (w : World), ((do eqGuard op t x y a b; binOp op t a b) : Sem Value).run P w = .ok v w := by
  have hg : ∀ (x y : Operand) (w : World), (∀ c d, ¬ (a = .agg c ∧ b = .agg d)) → ¬ (a = .nilIface ∧ b = .nilIface) → ((do eqGuard op t x y a b; binOp op t a b) : Sem Value).run P w = (binOp op t a b).run P w := fun x y w h1 h2 => by
    rw [Sem.run_bind, run_eqGuard_plain h1 (.inl h2)]; rfl
  cases a with
  | int k x =>
    cases b with
    | int k' y =>
      simp only [binX] at h
      split at h
      · obtain ⟨v, h1, h2⟩ := shiftInt_ok (P := P) (t := t) (k' := k') h
        exact ⟨v, h1, fun x y w => by rw [hg x y w (by simp) (by simp)]; exact h2 w⟩
      · rename_i hs
        split at h
        · rename_i hk
          obtain rfl := kindEq_ok hk
          obtain ⟨v, h1, h2⟩ := binInt_ok (P := P) (t := t) hs h
          exact ⟨v, h1, fun x y w => by rw [hg x y w (by simp) (by simp)]; exact h2 w⟩
        · exact h.elim
    | _ => exact h.elim
  | string x =>
    cases b with
    | string y =>
      obtain ⟨v, h1, h2⟩ := binStr_ok (P := P) (t := t) h
      exact ⟨v, h1, fun x y w => by rw [hg x y w (by simp) (by simp)]; exact h2 w⟩
    | _ => exact h.elim
  | bool x =>
    cases b with
    | bool y =>
      cases op <;> first
        | exact h.elim
        | (refine ⟨_, h, fun p q w => ?_⟩; rw [hg p q w (by simp) (by simp)]; simp only [binOp, Sem.run_bind, hb x y rfl rfl w, Result.andThen_ok]; rfl)
    | _ => exact h.elim
  | _ => exact h.elim

theorem run_equal_nil {t : TypeId} {ti : TI} (ht : TOk P t ti) {v z : Value} {b : Bool} (hz : nilKind ti.k z = true)
    (hv : (∃ e, ti.k = .ptr e ∧ ((v = .pointer none ∧ b = true) ∨ ∃ a, v = .pointer (some a) ∧ b = false)) ∨ (∃ e, ti.k = .slice e ∧ ((∃ n c, v = .slice none n c ∧ b = true) ∨ ∃ a n c, v = .slice (some a) n c ∧ b = false)) ∨
      (ti.k = .func ∧ ((v = .nilFunc ∧ b = true) ∨ ∃ f x y, v = .func f x y ∧ b = false)) ∨ (∃ k e, ti.k = .map k e ∧ ((v = .map none ∧ b = true) ∨ ∃ a, v = .map (some a) ∧ b = false)) ∨
      (ti.k = .ifc ∧ ((v = .nilIface ∧ b = true) ∨ ∃ u x, v = .iface u x ∧ b = false))) (w : World) : (Op.equal t v z).run P w = .ok b w := by
  suffices H : ∀ n, (Op.equalIn (n + 1) t v z).run P w = .ok b w from H 9999
  intro n
  rcases hv with ⟨e, hk, hv⟩ | ⟨e, hk, hv⟩ | ⟨hk, hv⟩ | ⟨k, e, hk, hv⟩ | ⟨hk, hv⟩ <;> rw [hk] at hz
  · have hu := ht.ptr hk
    obtain rfl : z = .pointer none := by unfold nilKind at hz; split at hz <;> first | rfl | (rename_i h; cases h; done) | cases hz
    rcases hv with ⟨rfl, rfl⟩ | ⟨a, rfl, rfl⟩ <;> simp [Op.equalIn, run_underlying hu]
  · have hu := ht.slice hk
    obtain rfl : z = .slice none 0 0 := by unfold nilKind at hz; split at hz <;> first | rfl | (rename_i h; cases h; done) | cases hz
    rcases hv with ⟨n, c, rfl, rfl⟩ | ⟨a, n, c, rfl, rfl⟩ <;> simp [Op.equalIn, run_underlying hu]
  · obtain ⟨x, y, z', hu⟩ := ht.func hk
    obtain rfl : z = .nilFunc := by unfold nilKind at hz; split at hz <;> first | rfl | (rename_i h; cases h; done) | cases hz
    rcases hv with ⟨rfl, rfl⟩ | ⟨f, p, q, rfl, rfl⟩ <;> simp [Op.equalIn, run_underlying hu]
  · have hu := ht.map hk
    obtain rfl : z = .map none := by unfold nilKind at hz; split at hz <;> first | rfl | (rename_i h; cases h; done) | cases hz
    rcases hv with ⟨rfl, rfl⟩ | ⟨a, rfl, rfl⟩ <;> simp [Op.equalIn, run_underlying hu]
  · obtain ⟨m, hu⟩ := ht.ifc hk
    obtain rfl : z = .nilIface := by unfold nilKind at hz; split at hz <;> first | rfl | (rename_i h; cases h; done) | cases hz
    rcases hv with ⟨rfl, rfl⟩ | ⟨u, x, rfl, rfl⟩ <;> simp [Op.equalIn, run_underlying hu]
end
end Go.Kx
