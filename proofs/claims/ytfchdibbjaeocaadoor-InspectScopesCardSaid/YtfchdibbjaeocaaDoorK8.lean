/- Quiet operations, whole: one function over all kinds, and that what it tells is so. Generic in the program; no condition of its own. -/
import Derived.Test.YtfchdibbjaeocaaDoorK7
namespace Go.Kx
open Go.RowKit

section
variable {P : Program}
theorem fit_ptr {k : TK} {a : Option Addr} (h : nilFit k (.val (.pointer a)) = true) : ∃ e, k = .ptr e := by cases k <;> first | exact ⟨_, rfl⟩ | cases h
theorem fit_ptr' {k : TK} {a b : Nat} (h : nilFit k (.ptr a b) = true) : ∃ e, k = .ptr e := by cases k <;> first | exact ⟨_, rfl⟩ | cases h
theorem fit_slice {k : TK} {a : Option Addr} {n c : Nat} (h : nilFit k (.val (.slice a n c)) = true) : ∃ e, k = .slice e := by cases k <;> first | exact ⟨_, rfl⟩ | cases h
theorem fit_ifc {k : TK} (h : nilFit k (.val .nilIface) = true) : k = .ifc := by cases k <;> first | rfl | cases h
theorem fit_ifc' {k : TK} {u : TypeId} {x : Value} (h : nilFit k (.val (.iface u x)) = true) : k = .ifc := by cases k <;> first | rfl | cases h
theorem fit_func {k : TK} (h : nilFit k (.val .nilFunc) = true) : k = .func := by cases k <;> first | rfl | cases h
theorem fit_func' {k : TK} {f : Fn} {x y : Array Value} (h : nilFit k (.val (.func f x y)) = true) : k = .func := by cases k <;> first | rfl | cases h
theorem fit_func2 {k : TK} {f : Fn} {n : Nat} {l : List (Nat × Nat)} (h : nilFit k (.fn f n l) = true) : k = .func := by cases k <;> first | rfl | cases h
theorem fit_map {k : TK} {r : Option Nat} (h : nilFit k (.val (.map r)) = true) : ∃ a e, k = .map a e := by cases k <;> first | exact ⟨_, _, rfl⟩ | cases h
theorem nilOf_ok {T : Tab} {t : TypeId} {ti : TI} (ht : TOk P t ti) {z : Value} (hz : nilKind ti.k z = true) {c : SC} (hf : nilFit ti.k c = true) {K : Bool → Prop} (h : nilOf c K) :
    ∃ b, K b ∧ ∀ ρ v, c.Is ρ v → (∀ w : World, (Op.equal t v z).run P w = .ok b w) ∧ (∀ x, v ≠ .agg x) ∧ (∀ k n, v ≠ .int k n) ∧ (∀ s, v ≠ .string s) ∧ (∀ k n, v ≠ .float k n) ∧ (∀ k n m, v ≠ .complex k n m) := by
  have _ := T
  have fit : ∀ v b, ((∃ e, ti.k = .ptr e ∧ ((v = .pointer none ∧ b = true) ∨ ∃ a, v = .pointer (some a) ∧ b = false)) ∨ (∃ e, ti.k = .slice e ∧ ((∃ n c, v = .slice none n c ∧ b = true) ∨ ∃ a n c, v = .slice (some a) n c ∧ b = false)) ∨
      (ti.k = .func ∧ ((v = .nilFunc ∧ b = true) ∨ ∃ f x y, v = .func f x y ∧ b = false)) ∨ (∃ k e, ti.k = .map k e ∧ ((v = .map none ∧ b = true) ∨ ∃ a, v = .map (some a) ∧ b = false)) ∨
      (ti.k = .ifc ∧ ((v = .nilIface ∧ b = true) ∨ ∃ u x, v = .iface u x ∧ b = false))) →
      (∀ w : World, (Op.equal t v z).run P w = .ok b w) ∧ (∀ x, v ≠ .agg x) ∧ (∀ k n, v ≠ .int k n) ∧ (∀ s, v ≠ .string s) ∧ (∀ k n, v ≠ .float k n) ∧ (∀ k n m, v ≠ .complex k n m) := by
    intro v b hv
    refine ⟨fun w => run_equal_nil ht hz hv w, ?_⟩
    rcases hv with ⟨e, hk, hv⟩ | ⟨e, hk, hv⟩ | ⟨hk, hv⟩ | ⟨k, e, hk, hv⟩ | ⟨hk, hv⟩
    · rcases hv with ⟨rfl, rfl⟩ | ⟨a, rfl, rfl⟩ <;> simp
    · rcases hv with ⟨n, c, rfl, rfl⟩ | ⟨a, n, c, rfl, rfl⟩ <;> simp
    · rcases hv with ⟨rfl, rfl⟩ | ⟨f, p, q, rfl, rfl⟩ <;> simp
    · rcases hv with ⟨rfl, rfl⟩ | ⟨a, rfl, rfl⟩ <;> simp
    · rcases hv with ⟨rfl, rfl⟩ | ⟨u, x, rfl, rfl⟩ <;> simp
  cases c with
  | val v =>
    cases v with
    | pointer a =>
      have hk : ∃ e, ti.k = .ptr e := fit_ptr hf
      obtain ⟨e, hk⟩ := hk
      cases a with
      | none => exact ⟨true, h, fun ρ v hv => by obtain rfl : v = _ := hv; exact fit _ _ (.inl ⟨e, hk, .inl ⟨rfl, rfl⟩⟩)⟩
      | some a => exact ⟨false, h, fun ρ v hv => by obtain rfl : v = _ := hv; exact fit _ _ (.inl ⟨e, hk, .inr ⟨a, rfl, rfl⟩⟩)⟩
    | slice a n c =>
      have hk : ∃ e, ti.k = .slice e := fit_slice hf
      obtain ⟨e, hk⟩ := hk
      cases a with
      | none => exact ⟨true, h, fun ρ v hv => by obtain rfl : v = _ := hv; exact fit _ _ (.inr (.inl ⟨e, hk, .inl ⟨_, _, rfl, rfl⟩⟩))⟩
      | some a => exact ⟨false, h, fun ρ v hv => by obtain rfl : v = _ := hv; exact fit _ _ (.inr (.inl ⟨e, hk, .inr ⟨_, _, _, rfl, rfl⟩⟩))⟩
    | nilIface =>
      have hk : ti.k = .ifc := fit_ifc hf
      exact ⟨true, h, fun ρ v hv => by obtain rfl : v = _ := hv; exact fit _ _ (.inr (.inr (.inr (.inr ⟨hk, .inl ⟨rfl, rfl⟩⟩))))⟩
    | iface u x =>
      have hk : ti.k = .ifc := fit_ifc' hf
      exact ⟨false, h, fun ρ v hv => by obtain rfl : v = _ := hv; exact fit _ _ (.inr (.inr (.inr (.inr ⟨hk, .inr ⟨_, _, rfl, rfl⟩⟩))))⟩
    | nilFunc =>
      have hk : ti.k = .func := fit_func hf
      exact ⟨true, h, fun ρ v hv => by obtain rfl : v = _ := hv; exact fit _ _ (.inr (.inr (.inl ⟨hk, .inl ⟨rfl, rfl⟩⟩)))⟩
    | func f x y =>
      have hk : ti.k = .func := fit_func' hf
      exact ⟨false, h, fun ρ v hv => by obtain rfl : v = _ := hv; exact fit _ _ (.inr (.inr (.inl ⟨hk, .inr ⟨_, _, _, rfl, rfl⟩⟩)))⟩
    | map r =>
      have hk : ∃ k e, ti.k = .map k e := fit_map hf
      obtain ⟨k, e, hk⟩ := hk
      cases r with
      | none => exact ⟨true, h, fun ρ v hv => by obtain rfl : v = _ := hv; exact fit _ _ (.inr (.inr (.inr (.inl ⟨k, e, hk, .inl ⟨rfl, rfl⟩⟩))))⟩
      | some a => exact ⟨false, h, fun ρ v hv => by obtain rfl : v = _ := hv; exact fit _ _ (.inr (.inr (.inr (.inl ⟨k, e, hk, .inr ⟨_, rfl, rfl⟩⟩))))⟩
    | _ => exact h.elim
  | ptr k off =>
    have hk : ∃ e, ti.k = .ptr e := fit_ptr' hf
    obtain ⟨e, hk⟩ := hk
    refine ⟨false, h, fun ρ v hv => ?_⟩
    obtain ⟨r, _, hp⟩ := hv
    unfold ptrAt at hp
    split at hp <;> first | (injection hp with hp; subst hp; exact fit _ _ (.inl ⟨e, hk, .inr ⟨_, rfl, rfl⟩⟩)) | cases hp
  | fn f n l =>
    have hk : ti.k = .func := fit_func2 hf
    refine ⟨false, h, fun ρ v hv => ?_⟩
    obtain ⟨ys, rfl, _⟩ := hv
    exact fit _ _ (.inr (.inr (.inl ⟨hk, .inr ⟨_, _, _, rfl, rfl⟩⟩)))
  | _ => exact h.elim
theorem nilX_ok {op : BinOp} {b : Bool} {K : Value → Prop} (h : nilX op b K) : (op = .eql ∧ K (.bool b)) ∨ (op = .neq ∧ K (.bool (!b))) := by cases op <;> first | exact h.elim | exact .inl ⟨rfl, h⟩ | exact .inr ⟨rfl, h⟩
theorem nilCmp_ok {T : Tab} (hT : TabOk P T) {op : BinOp} {t : TypeId} {sx : SV} {z : Value} {K : SV → Prop} (h : nilCmp T op t sx z K) :
    ∃ sv, K sv ∧ ∀ ρ v, sx.Is ρ v → ∃ u, sv.Is ρ u ∧ ∀ (x y : Operand) (w : World), isConstB y = true → ((do eqGuard op t x y v z; binOp op t v z) : Sem Value).run P w = .ok u w := by
  obtain ⟨ti, ht, h⟩ := tabX_ok hT h
  obtain ⟨hz, h⟩ := isTrue_ok h
  obtain ⟨c, rfl, h⟩ := cellX_ok h
  obtain ⟨hf, h⟩ := isTrue_ok h
  obtain ⟨b, h, hb⟩ := nilOf_ok (T := T) ht hz hf h
  rcases nilX_ok h with ⟨rfl, h⟩ | ⟨rfl, h⟩
  all_goals
    refine ⟨_, h, fun ρ v hv => ⟨_, rfl, fun x y w hy => ?_⟩⟩
    obtain ⟨e1, e2, e3, e4, e5, e6⟩ := hb ρ v hv
    rw [Sem.run_bind, run_eqGuard_plain (fun c d e => e2 c e.1) (.inr hy), Result.andThen_ok]
    have := e1 w
    cases v <;> first | exact absurd rfl (e3 _ _) | exact absurd rfl (e4 _) | exact absurd rfl (e5 _ _) | exact absurd rfl (e6 _ _ _) | exact absurd rfl (e2 _) | (simp only [binOp, Sem.run_bind, this, Result.andThen_ok]; rfl)
theorem binQ_ok {T : Tab} (hT : TabOk P T) {op : BinOp} {t : TypeId} {sx sy : SV} {y : Operand} {K : SV → Prop} (h : binQ T op t sx y sy K) :
    ∃ sv, K sv ∧ ∀ ρ v u, sx.Is ρ v → sy.Is ρ u → ∃ r, sv.Is ρ r ∧ ∀ (x : Operand) (w : World), ((do eqGuard op t x y v u; binOp op t v u) : Sem Value).run P w = .ok r w := by
  unfold binQ at h
  split at h
  · rename_i z
    split at h
    · split at h
      · obtain ⟨r, h1, h2⟩ := binX_ok (P := P) (t := t) (fun x y e => by cases e) h
        refine ⟨_, h1, fun ρ v u hv hu => ⟨r, rfl, fun x w => ?_⟩⟩
        obtain rfl : v = _ := hv
        obtain rfl : u = _ := hu
        exact h2 x y w
      · exact h.elim
    · split at h
      · obtain ⟨r, h1, h2⟩ := binX_ok (P := P) (t := t) (fun x y e => by cases e) h
        refine ⟨_, h1, fun ρ v u hv hu => ⟨r, rfl, fun x w => ?_⟩⟩
        obtain rfl : v = _ := hv
        obtain rfl : u = _ := hu
        exact h2 x y w
      · exact h.elim
    · split at h
      · obtain ⟨ti, ht, h0⟩ := tabX_ok hT h
        split at h0
        · rename_i hk
          obtain ⟨r, h1, h2⟩ := binX_ok (P := P) (t := t) (fun x y e e' w => by cases e; cases e'; exact run_equal_bool ht hk _ _ w) h0
          refine ⟨_, h1, fun ρ v u hv hu => ⟨r, rfl, fun x w => ?_⟩⟩
          obtain rfl : v = _ := hv
          obtain rfl : u = _ := hu
          exact h2 x y w
        · exact h0.elim
      · exact h.elim
    · obtain ⟨hc, h⟩ := isTrue_ok h
      obtain ⟨sv, h1, h2⟩ := nilCmp_ok hT h
      refine ⟨sv, h1, fun ρ v u hv hu => ?_⟩
      obtain rfl : u = _ := hu
      obtain ⟨r, h3, h4⟩ := h2 ρ v hv
      exact ⟨r, h3, fun x w => h4 x y w hc⟩
  · exact h.elim

/-- A row of one's own, not empty, compared with nil. -/
def ownNil (T : Tab) (op : BinOp) (t : TypeId) (k : Nat) (y : Operand) (z : Value) (G : List SB) (K : SV → Prop) : Prop :=
  isTrue (isConstB y) <| tabX T t fun ti => isTrue (nilKind ti.k z) <| isTrue (nilFit ti.k (.val (.slice none 0 0))) <| getG G k fun s => match s with
    | .row _ _ n _ => 0 < n ∧ nilX op false fun v => K (pv v)
    | _ => False
def binG (T : Tab) (op : BinOp) (t : TypeId) (sx : SV) (y : Operand) (sy : SV) (G : List SB) (K : SV → Prop) : Prop :=
  match sx with
  | .si (.ce (.self k)) => match sy with
    | .si (.ce (.val z)) => ownNil T op t k y z G K
    | _ => False
  | _ => binQ T op t sx y sy K
theorem binG_ok {T : Tab} (hT : TabOk P T) {op : BinOp} {t : TypeId} {sx sy : SV} {y : Operand} {G : List SB} {K : SV → Prop} (h : binG T op t sx y sy G K) :
    ∃ sv, K sv ∧ ∀ ρ v u, sx.Is ρ v → sy.Is ρ u → (∃ H wc, Sw ρ H G wc) → ∃ r, sv.Is ρ r ∧ ∀ (x : Operand) (w : World), ((do eqGuard op t x y v u; binOp op t v u) : Sem Value).run P w = .ok r w := by
  unfold binG at h
  split at h
  · rename_i k
    split at h
    · rename_i z
      obtain ⟨hy, h⟩ := isTrue_ok h
      obtain ⟨ti, ht, h⟩ := tabX_ok hT h
      obtain ⟨hz, h⟩ := isTrue_ok h
      obtain ⟨hf, h⟩ := isTrue_ok h
      obtain ⟨s, hs, h⟩ := getG_ok h
      split at h
      · obtain ⟨hn, h⟩ := h
        rcases nilX_ok h with ⟨rfl, h⟩ | ⟨rfl, h⟩
        all_goals
          refine ⟨_, h, fun ρ v u hv hu hw => ⟨_, rfl, fun x w => ?_⟩⟩
          obtain rfl : u = z := hu
          obtain ⟨H, wc, hw⟩ := hw
          obtain ⟨r, hr, hok⟩ := hw.at hs
          have hv' : ρ[k]? = some v := hv
          obtain rfl : r = v := by rw [hr] at hv'; injection hv'
          obtain ⟨a, n, c, rfl⟩ : ∃ a n c, r = .slice (some a) n c := by
            rcases hok.2 with ⟨_, h0⟩ | ⟨g, o, cap, cur, rfl, _⟩
            · omega
            · exact ⟨_, _, _, rfl⟩
          obtain ⟨b, rfl, hb⟩ := nilOf_ok (T := T) (c := .val (.slice (some a) n c)) (K := fun b => b = false) ht hz (by obtain ⟨e, hk⟩ := fit_slice hf; rw [hk]; rfl) rfl
          obtain ⟨e1, e2, e3, e4, e5, e6⟩ := hb ρ _ rfl
          rw [Sem.run_bind, run_eqGuard_plain (fun c d e => e2 c e.1) (.inr hy), Result.andThen_ok]
          have := e1 w
          simp only [binOp, Sem.run_bind, this, Result.andThen_ok]; rfl
      · exact h.elim
    · exact h.elim
  · obtain ⟨sv, h1, h2⟩ := binQ_ok hT h
    exact ⟨sv, h1, fun ρ v u hv hu _ => h2 ρ v u hv hu⟩

/-! ### One operand -/
def unX (op : UnOp) (sx : SV) (K : SV → Prop) : Prop :=
  match op with
  | .neg => intX sx fun k n => K (pv (.int k (k.wrap (0 - n))))
  | .xor => intX sx fun k n => K (pv (.int k (k.wrap (BitVec.ofInt k.bits (if k.signed then -1 else k.max) ^^^ BitVec.ofInt k.bits n).toNat)))
  | .not => boolX sx fun b => K (pv (.bool (!b)))
  | _ => False
theorem unX_ok {op : UnOp} {sx : SV} {K : SV → Prop} (h : unX op sx K) : ∃ sv, K sv ∧ ∀ ρ v, sx.Is ρ v → ∃ r, sv.Is ρ r ∧ ∀ w : World, (Op.unary op v).run P w = .ok r w := by
  cases op with
  | neg =>
    obtain ⟨k, n, rfl, h⟩ := intX_ok h
    exact ⟨_, h, fun ρ v hv => ⟨_, rfl, fun w => by obtain rfl : v = _ := hv; rfl⟩⟩
  | xor =>
    obtain ⟨k, n, rfl, h⟩ := intX_ok h
    exact ⟨_, h, fun ρ v hv => ⟨_, rfl, fun w => by obtain rfl : v = _ := hv; rfl⟩⟩
  | not =>
    obtain ⟨b, rfl, h⟩ := boolX_ok h
    exact ⟨_, h, fun ρ v hv => ⟨_, rfl, fun w => by obtain rfl : v = _ := hv; rfl⟩⟩
  | plus => exact h.elim
/-- From integers to integers, from texts to texts. -/
def convX (T : Tab) (s d : TypeId) (sx : SV) (K : SV → Prop) : Prop :=
  tabX T s fun _ => tabX T d fun td => match td.k with
    | .int k => intX sx fun _ n => K (pv (.int k (k.wrap n)))
    | .string => strX sx fun b => K (pv (.string b))
    | _ => False
theorem convX_ok {T : Tab} (hT : TabOk P T) {s d : TypeId} {sx : SV} {K : SV → Prop} (h : convX T s d sx K) : ∃ sv, K sv ∧ ∀ ρ v, sx.Is ρ v → ∃ r, sv.Is ρ r ∧ ∀ w : World, (convert s d v).run P w = .ok r w := by
  obtain ⟨ts, hs, h⟩ := tabX_ok hT h
  obtain ⟨td, hd, h⟩ := tabX_ok hT h
  obtain ⟨ds, hds, _⟩ := hs.desc
  cases hk : td.k with
  | int k =>
    simp only [hk] at h
    obtain ⟨k', n, rfl, h⟩ := intX_ok h
    refine ⟨_, h, fun ρ v hv => ⟨_, rfl, fun w => ?_⟩⟩
    obtain rfl : v = _ := hv
    simp [convert, run_underlying hds, run_underlying (hd.int hk), Conv.intToInt]
  | string =>
    simp only [hk] at h
    obtain ⟨b, rfl, h⟩ := strX_ok h
    refine ⟨_, h, fun ρ v hv => ⟨_, rfl, fun w => ?_⟩⟩
    obtain rfl : v = _ := hv
    cases ds <;> simp [convert, run_underlying hds, run_underlying (hd.string hk)]
  | _ => simp only [hk] at h
/-- The value that a symbolic value is, if it is plain. -/
def allVal : List SC → (List Value → Prop) → Prop
  | [], K => K []
  | c :: r, K => match c with
    | .val v => allVal r fun l => K (v :: l)
    | _ => False
theorem allVal_ok {l : List SC} {K : List Value → Prop} (h : allVal l K) : ∃ vs, K vs ∧ ∀ ρ ys, All2 (SC.Is ρ) l ys → ys = vs := by
  induction l generalizing K with
  | nil => exact ⟨[], h, fun ρ ys hy => by cases hy; rfl⟩
  | cons c r ih =>
    cases c with
    | val v =>
      obtain ⟨vs, h1, h2⟩ := ih h
      refine ⟨_, h1, fun ρ ys hy => ?_⟩
      cases hy with | cons h3 h4 => rw [h2 ρ _ h4]; obtain rfl := h3; rfl
    | _ => exact h.elim
def wholeX (sv : SV) (K : Value → Prop) : Prop :=
  match sv with
  | .si (.ce (.val v)) => K v
  | .si (.ag l) => allVal l fun vs => K (.agg vs.toArray)
  | _ => False
theorem wholeX_ok {sv : SV} {K : Value → Prop} (h : wholeX sv K) : ∃ v, K v ∧ ∀ ρ y, sv.Is ρ y → y = v := by
  unfold wholeX at h
  split at h
  · exact ⟨_, h, fun ρ y hy => hy⟩
  · obtain ⟨vs, h1, h2⟩ := allVal_ok h
    refine ⟨_, h1, fun ρ y hy => ?_⟩
    obtain ⟨ys, rfl, h3⟩ := hy
    rw [h2 ρ _ h3]
  · exact h.elim
def notIfc (k : TK) (K : Prop) : Prop :=
  match k with
  | .ifc => False
  | _ => K
theorem notIfc_ok {k : TK} {K : Prop} (h : notIfc k K) : k ≠ .ifc ∧ K := by cases k <;> first | exact h.elim | exact ⟨by simp, h⟩
theorem run_makeInterface {t : TypeId} {ti : TI} (ht : TOk P t ti) (hk : ti.k ≠ .ifc) (v : Value) (w : World) : (Instr.makeInterface t v).run P w = .ok (.iface t v) w := by
  obtain ⟨d, hd, hn⟩ := ht.notIface hk
  cases d <;> first | exact absurd rfl (hn _) | simp [Instr.makeInterface, run_underlying hd]

/-! ### Slices of texts and of slices -/
def boundX (x : Option Operand) (F : Fr) (d : Int) (K : Int → Prop) : Prop :=
  match x with
  | none => K d
  | some x => evX x F fun s => intX s fun _ n => K n
def sliceVX (T : Tab) (t : TypeId) (sx : SV) (lo : Int) (hi : Option Int) (G : List SB) (K : SV → Prop) : Prop :=
  tabX T t fun ti => match ti.k with
    | .string => strX sx fun s => match hi with
      | none => (0 ≤ lo ∧ lo ≤ (s.size : Int)) ∧ K (pv (.string (s.extract lo.toNat s.size)))
      | some h => (0 ≤ lo ∧ lo ≤ h ∧ h ≤ (s.size : Int)) ∧ K (pv (.string (s.extract lo.toNat h.toNat)))
    | .slice e => tabX T e fun ei => sliceX sx G fun A n c => match hi with
      | none => (0 ≤ lo ∧ lo ≤ (n : Int)) ∧ K (pv (.slice (subA A c lo.toNat ei.size) (n - lo.toNat) (c - lo.toNat)))
      | some h => (0 ≤ lo ∧ lo ≤ h ∧ h ≤ (c : Int)) ∧ K (pv (.slice (subA A c lo.toNat ei.size) (h.toNat - lo.toNat) (c - lo.toNat)))
    | _ => False
end
end Go.Kx
