/- The quiet operations of a symbolic walk: what they leave, told by a function that is laid open by reduction, and that it is so. Generic in the program; no condition of its own. -/
import Derived.Test.YtfchdibbjaeocaaDoorK2
import Derived.Laws.Sem
import Derived.Laws.Rows
import Derived.Deep.MidRow
import Derived.WideLaws
import Derived.RowKit
import Derived.Laws.Strings
namespace Go.Kx

/-! ### Types -/
inductive Z
  | b | i (k : IntKind) | s | p | sl | m | fn | ifc | ch
def Z.val : Z → Value
  | .b => .bool false
  | .i k => .int k 0
  | .s => .string ⟨#[]⟩
  | .p => .pointer none
  | .sl => .slice none 0 0
  | .m => .map none
  | .fn => .nilFunc
  | .ifc => .nilIface
  | .ch => .chan none
inductive TK
  | bool | int (k : IntKind) | string | ptr (e : TypeId) | slice (e : TypeId) | map (k e : TypeId) | func | ifc
  | st (fs : List (Nat × TypeId × Nat)) | ar (n : Nat) (e : TypeId) (sz : Nat) | other
structure TI where
  k : TK
  agg : Bool
  size : Nat
  bytes : Nat
  zero : List Z
abbrev Tab := List (Nat × TI)

def zOf : Value → Option Z
  | .bool false => some .b
  | .int k (.ofNat 0) => some (.i k)
  | .string ⟨⟨[]⟩⟩ => some .s
  | .pointer none => some .p
  | .slice none 0 0 => some .sl
  | .map none => some .m
  | .nilFunc => some .fn
  | .nilIface => some .ifc
  | .chan none => some .ch
  | _ => none
def tkOf (P : Program) : TypeDesc → Option (TK × Bool)
  | .bool => some (.bool, false)
  | .int k => some (.int k, false)
  | .string => some (.string, false)
  | .pointer e => some (.ptr e, false)
  | .slice e => some (.slice e, false)
  | .map k e => some (.map k e, false)
  | .func .. => some (.func, false)
  | .interface _ => some (.ifc, false)
  | .struct fs => (fs.toList.mapM fun f => (P.info? f.type).map fun i => (f.offset, f.type, i.size)).map fun l => (.st l, true)
  | .array n e => (P.info? e).map fun i => (.ar n e i.size, true)
  | _ => some (.other, false)
def isAggV : Value → Bool
  | .agg _ => true
  | _ => false
def tiOf (P : Program) (t : TypeId) : Option TI :=
  match P.info? t, P.underlying t with
  | some i, some d => match i.zero, tkOf P d with
    | some z, some k => match z.cells.toList.mapM zOf with
      | some zs => if zs.length = i.size ∧ isAggV z = k.2 then some ⟨k.1, k.2, i.size, i.bytes, zs⟩ else none
      | none => none
    | _, _ => none
  | _, _ => none
def mkTab (P : Program) (ts : List TypeId) : Tab := ts.filterMap fun t => (tiOf P t).map fun i => (t, i)

theorem zOf_val {v : Value} {z : Z} (h : zOf v = some z) : v = z.val := by
  unfold zOf at h
  split at h <;> first | (injection h with h; subst h; rfl) | cases h
theorem mapM_zOf : ∀ {l : List Value} {zs : List Z}, l.mapM zOf = some zs → l = zs.map Z.val
  | [], zs, h => by simp at h; subst h; rfl
  | v :: l, zs, h => by
    rw [List.mapM_cons] at h
    cases hz : zOf v with
    | none => simp [hz] at h
    | some z =>
      cases hl : l.mapM zOf with
      | none => simp [hz, hl] at h
      | some zs' =>
        simp [hz, hl] at h
        subst h
        simp [← zOf_val hz, ← mapM_zOf hl]

/-- A row of the table is true of the program. -/
structure TOk (P : Program) (t : TypeId) (ti : TI) : Prop where
  info : ∃ i z, P.info? t = some i ∧ i.size = ti.size ∧ i.bytes = ti.bytes ∧ i.zero = some z ∧ z.cells.toList = ti.zero.map Z.val
  desc : ∃ d, P.underlying t = some d ∧ tkOf P d = some (ti.k, ti.agg)
  zlen : ti.zero.length = ti.size
  zagg : ∃ i z, P.info? t = some i ∧ i.zero = some z ∧ isAggV z = ti.agg
theorem tiOf_ok {P : Program} {t : TypeId} {ti : TI} (h : tiOf P t = some ti) : TOk P t ti := by
  unfold tiOf at h
  split at h
  · rename_i i d hi hd
    split at h
    · rename_i z k hz hk
      split at h
      · rename_i zs h1
        split at h
        · rename_i hl
          injection h with h
          subst h
          exact ⟨⟨i, z, hi, rfl, rfl, hz, mapM_zOf h1⟩, ⟨d, hd, hk⟩, hl.1, i, z, hi, hz, hl.2⟩
        · cases h
      · cases h
    · cases h
  · cases h
def TabOk (P : Program) (T : Tab) : Prop := ∀ t ti, (t, ti) ∈ T → TOk P t ti
theorem tabOk_mk {P : Program} {ts : List TypeId} {T : Tab} (h : T = mkTab P ts) : TabOk P T := by
  subst h
  intro t ti hm
  obtain ⟨t', _, ht⟩ := List.mem_filterMap.1 hm
  obtain ⟨i, h1, h2⟩ := Option.map_eq_some_iff.1 ht
  injection h2 with h2 h3
  subst h2 h3
  exact tiOf_ok h1
def tabX : Tab → TypeId → (TI → Prop) → Prop
  | [], _, _ => False
  | (j, ti) :: r, t, K => match Nat.beq j t with
    | true => K ti
    | false => tabX r t K
theorem tabX_ok {P : Program} {T : Tab} (hT : TabOk P T) {t : TypeId} {K : TI → Prop} (h : tabX T t K) : ∃ ti, TOk P t ti ∧ K ti := by
  suffices H : ∀ T' : Tab, (∀ x ∈ T', x ∈ T) → tabX T' t K → ∃ ti, TOk P t ti ∧ K ti from H T (fun _ h => h) h
  intro T'
  induction T' with
  | nil => intro _ h; exact h.elim
  | cons x r ih =>
    obtain ⟨j, ti⟩ := x
    intro hm hx
    unfold tabX at hx
    split at hx
    · rename_i hj
      have : j = t := Nat.eq_of_beq_eq_true hj
      subst this
      exact ⟨ti, hT _ _ (hm _ List.mem_cons_self), hx⟩
    · exact ih (fun y hy => hm y (List.mem_cons_of_mem _ hy)) hx

section
variable {P : Program} {t : TypeId} {ti : TI}
theorem TOk.typeInfo (h : TOk P t ti) (w : World) : ∃ i z, (Go.typeInfo t).run P w = .ok i w ∧ i.size = ti.size ∧ i.bytes = ti.bytes ∧ i.zero = some z ∧ z.cells.toList = ti.zero.map Z.val := by
  obtain ⟨i, z, hi, r⟩ := h.info
  exact ⟨i, z, by simp [Go.typeInfo, program, Sem.run, hi], r⟩
theorem TOk.sizeOf (h : TOk P t ti) (w : World) : (Go.sizeOf t).run P w = .ok ti.size w := by
  obtain ⟨i, z, hi, hs, _⟩ := h.info
  simp [Go.sizeOf, Go.typeInfo, program, Sem.run, hi, hs]
/-- Its zero value. -/
theorem TOk.zeroVal (h : TOk P t ti) : ∃ z, (∀ w, (Go.zeroValue t).run P w = .ok z w) ∧ z.cells.toList = ti.zero.map Z.val ∧ isAggV z = ti.agg := by
  obtain ⟨i, z, hi, _, _, hz, hc⟩ := h.info
  obtain ⟨i', z', hi', hz', ha⟩ := h.zagg
  rw [hi] at hi'; injection hi' with hi'; subst hi'
  rw [hz] at hz'; injection hz' with hz'; subst hz'
  exact ⟨z, fun w => by simp [Go.zeroValue, Go.typeInfo, program, Sem.run, hi, hz], hc, ha⟩
theorem TOk.isAgg (h : TOk P t ti) (w : World) : (Go.isAgg t).run P w = .ok ti.agg w := by
  obtain ⟨d, hd, he⟩ := h.desc
  simp only [Go.isAgg, Go.underlying, program, Sem.run_bind]
  cases d with
  | struct fs =>
    obtain ⟨l, _, h2⟩ := Option.map_eq_some_iff.1 he
    injection h2 with _ h2
    simp [Sem.run, hd, ← h2]
  | array n e =>
    obtain ⟨l, _, h2⟩ := Option.map_eq_some_iff.1 he
    injection h2 with _ h2
    simp [Sem.run, hd, ← h2]
  | _ => simp [tkOf] at he; simp [Sem.run, hd, he]
theorem TOk.cells (h : TOk P t ti) : P.cellsOf t = ti.size := by
  obtain ⟨i, z, hi, hs, _⟩ := h.info
  simp [Program.cellsOf, hi, hs]
theorem TOk.infoSize (h : TOk P t ti) : (P.info? t).map (·.size) = some ti.size := by
  obtain ⟨i, z, hi, hs, _⟩ := h.info
  simp [hi, hs]
theorem TOk.int {k : IntKind} (h : TOk P t ti) (hk : ti.k = .int k) : P.underlying t = some (.int k) := by
  obtain ⟨d, hd, he⟩ := h.desc
  rw [hk] at he
  cases d <;> simp [tkOf] at he
  rw [hd, he.1]
theorem TOk.string (h : TOk P t ti) (hk : ti.k = .string) : P.underlying t = some .string := by
  obtain ⟨d, hd, he⟩ := h.desc
  rw [hk] at he
  cases d <;> simp [tkOf] at he
  exact hd
theorem TOk.bool (h : TOk P t ti) (hk : ti.k = .bool) : P.underlying t = some .bool := by
  obtain ⟨d, hd, he⟩ := h.desc
  rw [hk] at he
  cases d <;> simp [tkOf] at he
  exact hd
theorem TOk.slice {e : TypeId} (h : TOk P t ti) (hk : ti.k = .slice e) : P.underlying t = some (.slice e) := by
  obtain ⟨d, hd, he⟩ := h.desc
  rw [hk] at he
  cases d <;> simp [tkOf] at he
  rw [hd, he.1]
theorem TOk.ptr {e : TypeId} (h : TOk P t ti) (hk : ti.k = .ptr e) : P.underlying t = some (.pointer e) := by
  obtain ⟨d, hd, he⟩ := h.desc
  rw [hk] at he
  cases d <;> simp [tkOf] at he
  rw [hd, he.1]
theorem TOk.func (h : TOk P t ti) (hk : ti.k = .func) : ∃ a b c, P.underlying t = some (.func a b c) := by
  obtain ⟨d, hd, he⟩ := h.desc
  rw [hk] at he
  cases d <;> simp [tkOf] at he
  exact ⟨_, _, _, hd⟩
theorem TOk.ifc (h : TOk P t ti) (hk : ti.k = .ifc) : ∃ m, P.underlying t = some (.interface m) := by
  obtain ⟨d, hd, he⟩ := h.desc
  rw [hk] at he
  cases d <;> simp [tkOf] at he
  exact ⟨_, hd⟩
theorem TOk.map {k e : TypeId} (h : TOk P t ti) (hk : ti.k = .map k e) : P.underlying t = some (.map k e) := by
  obtain ⟨d, hd, he⟩ := h.desc
  rw [hk] at he
  cases d <;> simp [tkOf] at he
  rw [hd, he.1.1, he.1.2]
theorem TOk.array {n : Nat} {e : TypeId} {sz : Nat} (h : TOk P t ti) (hk : ti.k = .ar n e sz) : P.underlying t = some (.array n e) ∧ ∃ i, P.info? e = some i ∧ i.size = sz := by
  obtain ⟨d, hd, he⟩ := h.desc
  rw [hk] at he
  cases d <;> simp [tkOf] at he
  obtain ⟨i, h1, ⟨rfl, rfl, rfl⟩, _⟩ := he
  exact ⟨hd, i, h1, rfl⟩
theorem TOk.struct {fs : List (Nat × TypeId × Nat)} (h : TOk P t ti) (hk : ti.k = .st fs) : ∃ fields : Array Field, P.underlying t = some (.struct fields) ∧ fields.toList.mapM (fun f => (P.info? f.type).map fun i => (f.offset, f.type, i.size)) = some fs := by
  obtain ⟨d, hd, he⟩ := h.desc
  rw [hk] at he
  cases d <;> simp [tkOf] at he
  obtain ⟨l, h1, rfl, _⟩ := he
  exact ⟨_, hd, h1⟩
theorem mapM_get {α β : Type} {f : α → Option β} : ∀ {l : List α} {r : List β}, l.mapM f = some r → ∀ {i : Nat} {b : β}, r[i]? = some b → ∃ a, l[i]? = some a ∧ f a = some b
  | [], r, h, i, b, hb => by simp at h; subst h; simp at hb
  | a :: l, r, h, i, b, hb => by
    rw [List.mapM_cons] at h
    cases ha : f a with
    | none => simp [ha] at h
    | some x =>
      cases hl : l.mapM f with
      | none => simp [ha, hl] at h
      | some r' =>
        simp [ha, hl] at h
        subst h
        cases i with
        | zero => simp at hb; subst hb; exact ⟨a, rfl, ha⟩
        | succ i => simpa using mapM_get hl (by simpa using hb)
theorem TOk.field {fs : List (Nat × TypeId × Nat)} (h : TOk P t ti) (hk : ti.k = .st fs) {f o sz : Nat} {ft : TypeId} (hf : fs[f]? = some (o, ft, sz)) :
    ∃ (fields : Array Field) (fd : Field) (i : TypeInfo), P.underlying t = some (.struct fields) ∧ fields[f]? = some fd ∧ fd.offset = o ∧ fd.type = ft ∧ P.info? ft = some i ∧ i.size = sz := by
  obtain ⟨fields, h1, h2⟩ := h.struct hk
  obtain ⟨fd, h3, h4⟩ := mapM_get h2 hf
  obtain ⟨i, h5, h6⟩ := Option.map_eq_some_iff.1 h4
  simp only [Prod.mk.injEq] at h6
  obtain ⟨rfl, rfl, rfl⟩ := h6
  exact ⟨fields, fd, i, h1, by simpa using h3, rfl, rfl, h5, rfl⟩
theorem TOk.notIface (h : TOk P t ti) (hk : ti.k ≠ .ifc) : ∃ d, P.underlying t = some d ∧ ∀ m, d ≠ .interface m := by
  obtain ⟨d, hd, he⟩ := h.desc
  refine ⟨d, hd, fun m e => hk ?_⟩
  subst e
  simp [tkOf] at he
  exact he.1.symm
theorem TOk.row (h : TOk P t ti) (ha : ti.agg = true) : ∃ d, P.underlying t = some d ∧ d.isRow = true := by
  obtain ⟨d, hd, he⟩ := h.desc
  rw [ha] at he
  cases d <;> simp [tkOf] at he <;> exact ⟨_, hd, rfl⟩
theorem TOk.flat (h : TOk P t ti) (ha : ti.agg = false) : ∃ d, P.underlying t = some d ∧ d.isRow = false := by
  obtain ⟨d, hd, he⟩ := h.desc
  rw [ha] at he
  cases d <;> simp [tkOf] at he <;> exact ⟨_, hd, rfl⟩
end

/-! ### Looking up -/
def getX : Fr → Nat → (SV → Prop) → Prop
  | [], _, _ => False
  | (j, v) :: r, i, K => match Nat.beq j i with
    | true => K v
    | false => getX r i K
theorem getX_ok {F : Fr} {i : Nat} {K : SV → Prop} (h : getX F i K) : ∃ sv, (i, sv) ∈ F ∧ K sv := by
  induction F with
  | nil => exact h.elim
  | cons x r ih =>
    obtain ⟨j, v⟩ := x
    unfold getX at h
    split at h
    · rename_i hj
      have : j = i := Nat.eq_of_beq_eq_true hj
      subst this
      exact ⟨v, List.mem_cons_self, h⟩
    · obtain ⟨sv, h1, h2⟩ := ih h
      exact ⟨sv, List.mem_cons_of_mem _ h1, h2⟩
/-- The cells of a list of values. -/
def valsX : List Value → (List SC → Prop) → Prop
  | [], K => K []
  | v :: r, K => valsX r fun l => K (.val v :: l)
theorem valsX_ok {l : List Value} {K : List SC → Prop} (h : valsX l K) : ∃ cs, K cs ∧ ∀ ρ, All2 (SC.Is ρ) cs l := by
  induction l generalizing K with
  | nil => exact ⟨[], h, fun _ => .nil⟩
  | cons v r ih =>
    obtain ⟨cs, h1, h2⟩ := ih h
    exact ⟨_, h1, fun ρ => .cons rfl (h2 ρ)⟩
def constX (v : Value) (K : SV → Prop) : Prop :=
  match v with
  | .agg cs => valsX cs.toList fun l => K (.si (.ag l))
  | v => K (.si (.ce (.val v)))
theorem constX_ok {v : Value} {K : SV → Prop} (h : constX v K) : ∃ sv, K sv ∧ ∀ ρ, sv.Is ρ v := by
  unfold constX at h
  split at h
  · rename_i cs
    obtain ⟨l, h1, h2⟩ := valsX_ok h
    exact ⟨_, h1, fun ρ => ⟨cs.toList, by simp, h2 ρ⟩⟩
  · exact ⟨_, h, fun _ => rfl⟩
def evX (x : Operand) (F : Fr) (K : SV → Prop) : Prop :=
  match x with
  | .tmp t => getX F t K
  | .const v => constX v K
  | .global g => K (.si (.ce (.val (.pointer (some ⟨g, 0, none⟩)))))
  | .func f => K (.si (.ce (.fn (.func f) 0 [])))
theorem evX_ok {x : Operand} {F : Fr} {K : SV → Prop} (h : evX x F K) : ∃ sv, K sv ∧ ∀ ρ (a : Act), FOk ρ F a.tmps → sv.Is ρ (a.eval x) := by
  cases x with
  | tmp t =>
    obtain ⟨sv, h1, h2⟩ := getX_ok h
    refine ⟨sv, h2, fun ρ a hf => ?_⟩
    obtain ⟨v, h3, h4⟩ := hf t sv h1
    simp only [Act.eval, Array.getD_eq_getD_getElem?, h3, Option.getD_some]
    exact h4
  | const v =>
    obtain ⟨sv, h1, h2⟩ := constX_ok h
    exact ⟨sv, h1, fun ρ _ _ => h2 ρ⟩
  | global g => exact ⟨_, h, fun _ _ _ => rfl⟩
  | func f => exact ⟨_, h, fun _ _ _ => ⟨[], rfl, .nil⟩⟩
def getG : List SB → Nat → (SB → Prop) → Prop
  | [], _, _ => False
  | s :: _, 0, K => K s
  | _ :: r, k + 1, K => getG r k K
theorem getG_ok {G : List SB} {k : Nat} {K : SB → Prop} (h : getG G k K) : ∃ s, G[k]? = some s ∧ K s := by
  induction G generalizing k with
  | nil => exact h.elim
  | cons s r ih =>
    cases k with
    | zero => exact ⟨s, rfl, h⟩
    | succ k => obtain ⟨s', h1, h2⟩ := ih h; exact ⟨s', by simpa using h1, h2⟩
def getC : List SC → Nat → (SC → Prop) → Prop
  | [], _, _ => False
  | s :: _, 0, K => K s
  | _ :: r, k + 1, K => getC r k K
theorem getC_ok {G : List SC} {k : Nat} {K : SC → Prop} (h : getC G k K) : ∃ s, G[k]? = some s ∧ K s := by
  induction G generalizing k with
  | nil => exact h.elim
  | cons s r ih =>
    cases k with
    | zero => exact ⟨s, rfl, h⟩
    | succ k => obtain ⟨s', h1, h2⟩ := ih h; exact ⟨s', by simpa using h1, h2⟩
def getS : List SG → Nat → (SG → Prop) → Prop
  | [], _, _ => False
  | s :: _, 0, K => K s
  | _ :: r, k + 1, K => getS r k K
theorem getS_ok {G : List SG} {k : Nat} {K : SG → Prop} (h : getS G k K) : ∃ s, G[k]? = some s ∧ K s := by
  induction G generalizing k with
  | nil => exact h.elim
  | cons s r ih =>
    cases k with
    | zero => exact ⟨s, rfl, h⟩
    | succ k => obtain ⟨s', h1, h2⟩ := ih h; exact ⟨s', by simpa using h1, h2⟩
/-- n cells from 'off' on. -/
def takeC : List SC → Nat → (List SC → Prop) → Prop
  | _, 0, K => K []
  | [], _ + 1, _ => False
  | c :: r, n + 1, K => takeC r n fun l => K (c :: l)
def dropC : List SC → Nat → (List SC → Prop) → Prop
  | l, 0, K => K l
  | [], _ + 1, _ => False
  | _ :: r, n + 1, K => dropC r n K
theorem takeC_ok {l : List SC} {n : Nat} {K : List SC → Prop} (h : takeC l n K) : n ≤ l.length ∧ K (l.take n) := by
  induction n generalizing l K with
  | zero => exact ⟨Nat.zero_le _, by simpa [takeC] using h⟩
  | succ n ih =>
    cases l with
    | nil => exact h.elim
    | cons c r => obtain ⟨h1, h2⟩ := ih h; exact ⟨by simpa using h1, by simpa using h2⟩
theorem dropC_ok {l : List SC} {n : Nat} {K : List SC → Prop} (h : dropC l n K) : n ≤ l.length ∧ K (l.drop n) := by
  induction n generalizing l K with
  | zero => exact ⟨Nat.zero_le _, by simpa [dropC] using h⟩
  | succ n ih =>
    cases l with
    | nil => exact h.elim
    | cons c r => obtain ⟨h1, h2⟩ := ih h; exact ⟨by simpa using h1, by simpa using h2⟩

/-! ### Taking a value apart -/
def cellX (sv : SV) (K : SC → Prop) : Prop :=
  match sv with
  | .si (.ce c) => K c
  | _ => False
def aggX (sv : SV) (K : List SC → Prop) : Prop :=
  match sv with
  | .si (.ag l) => K l
  | _ => False
def tupX (sv : SV) (K : List SG → Prop) : Prop :=
  match sv with
  | .tu l => K l
  | _ => False
def plainX (sv : SV) (K : Value → Prop) : Prop :=
  match sv with
  | .si (.ce (.val v)) => K v
  | _ => False
def intX (sv : SV) (K : IntKind → Int → Prop) : Prop :=
  match sv with
  | .si (.ce (.val (.int k n))) => K k n
  | _ => False
def boolX (sv : SV) (K : Bool → Prop) : Prop :=
  match sv with
  | .si (.ce (.val (.bool t))) => K t
  | _ => False
def strX (sv : SV) (K : ByteArray → Prop) : Prop :=
  match sv with
  | .si (.ce (.val (.string s))) => K s
  | _ => False
/-- A slice: where it begins, how long it is. -/
def sliceX (sv : SV) (G : List SB) (K : Option Addr → Nat → Nat → Prop) : Prop :=
  match sv with
  | .si (.ce (.val (.slice A n c))) => K A n c
  | .si (.ce (.self k)) => getG G k fun s => match s with
    | .frz (.slice A n c) => K A n c
    | _ => False
  | _ => False
section
variable {sv : SV}
theorem cellX_ok {K : SC → Prop} (h : cellX sv K) : ∃ c, sv = .si (.ce c) ∧ K c := by unfold cellX at h; split at h <;> first | exact ⟨_, rfl, h⟩ | exact h.elim
theorem aggX_ok {K : List SC → Prop} (h : aggX sv K) : ∃ c, sv = .si (.ag c) ∧ K c := by unfold aggX at h; split at h <;> first | exact ⟨_, rfl, h⟩ | exact h.elim
theorem tupX_ok {K : List SG → Prop} (h : tupX sv K) : ∃ c, sv = .tu c ∧ K c := by unfold tupX at h; split at h <;> first | exact ⟨_, rfl, h⟩ | exact h.elim
theorem plainX_ok {K : Value → Prop} (h : plainX sv K) : ∃ c, sv = .si (.ce (.val c)) ∧ K c := by unfold plainX at h; split at h <;> first | exact ⟨_, rfl, h⟩ | exact h.elim
theorem intX_ok {K : IntKind → Int → Prop} (h : intX sv K) : ∃ k n, sv = .si (.ce (.val (.int k n))) ∧ K k n := by unfold intX at h; split at h <;> first | exact ⟨_, _, rfl, h⟩ | exact h.elim
theorem boolX_ok {K : Bool → Prop} (h : boolX sv K) : ∃ t, sv = .si (.ce (.val (.bool t))) ∧ K t := by unfold boolX at h; split at h <;> first | exact ⟨_, rfl, h⟩ | exact h.elim
theorem strX_ok {K : ByteArray → Prop} (h : strX sv K) : ∃ s, sv = .si (.ce (.val (.string s))) ∧ K s := by unfold strX at h; split at h <;> first | exact ⟨_, rfl, h⟩ | exact h.elim
end

/-- What a world must meet for quiet operations: what is read for good is there; the blocks of one's own are as told. -/
structure Sw (ρ : List Value) (H : Hp) (G : List SB) (w : World) : Prop where
  hin : H.In w
  len : ρ.length = G.length
  ok : ∀ (k : Nat) (s : SB) (r : Value), G[k]? = some s → ρ[k]? = some r → s.Ok ρ w r
theorem St.sw {w0 : World} {M : Nat → Prop} {H0 : Hp} {ρ : List Value} {H : Hp} {G : List SB} {w : World} (h : St w0 M H0 ρ H G w) : Sw ρ H G w := ⟨h.hin, h.len, h.ok⟩
theorem Sw.at {ρ : List Value} {H : Hp} {G : List SB} {w : World} (h : Sw ρ H G w) {k : Nat} {s : SB} (hk : G[k]? = some s) : ∃ r, ρ[k]? = some r ∧ s.Ok ρ w r := by
  have hlt := (List.getElem?_eq_some_iff.1 hk).1
  have : k < ρ.length := by rw [h.len]; exact hlt
  exact ⟨ρ[k], List.getElem?_eq_getElem this, h.ok k s _ hk (List.getElem?_eq_getElem this)⟩
theorem Sw.other {ρ : List Value} {H : Hp} {G : List SB} {w w' : World} (_h : Sw ρ H G w) (h' : Sw ρ H G w') {k : Nat} {s : SB} (hk : G[k]? = some s) {r : Value} (hr : ρ[k]? = some r) : s.Ok ρ w' r := h'.ok k s r hk hr

theorem sliceX_ok {sv : SV} {G : List SB} {K : Option Addr → Nat → Nat → Prop} (h : sliceX sv G K) : ∃ A n c, K A n c ∧ ∀ ρ H w v, Sw ρ H G w → sv.Is ρ v → v = .slice A n c := by
  unfold sliceX at h
  split at h
  · exact ⟨_, _, _, h, fun _ _ _ _ _ hv => hv⟩
  · rename_i k
    obtain ⟨s, h1, h2⟩ := getG_ok h
    split at h2
    · rename_i A n c
      refine ⟨A, n, c, h2, fun ρ H w v hs hv => ?_⟩
      obtain ⟨r, h3, h4⟩ := hs.at h1
      have hv' : ρ[k]? = some v := hv
      rw [hv'] at h3
      injection h3 with h3
      rw [h3]; exact h4
    · exact h2.elim
  · exact h.elim

/-! ### Reading for good -/
/-- Cell 'off' behind A holds x. -/
def RdC (H : Hp) (A : Option Addr) (off : Nat) (x : Value) : Prop := ∃ b o, A = some ⟨b, o, none⟩ ∧ H b (o + off) = some x
def RdN (H : Hp) (A : Option Addr) (off : Nat) (xs : List Value) : Prop := ∃ b o, A = some ⟨b, o, none⟩ ∧ ∀ (j : Nat) (x : Value), xs[j]? = some x → H b (o + off + j) = some x

def byteAt (s : ByteArray) (n : Int) : Int := ((s.data.toList.getD n.toNat 0).toNat : Int)
def subA (A : Option Addr) (cap l sz : Nat) : Option Addr := if cap = l then A else A.map (·.add (l * sz))

/-! ### Integers -/
def binInt (op : BinOp) (k : IntKind) (x y : Int) (K : Value → Prop) : Prop :=
  match op with
  | .add => K (.int k (k.wrap (x + y)))
  | .sub => K (.int k (k.wrap (x - y)))
  | .mul => K (.int k (k.wrap (x * y)))
  | .quo => y ≠ 0 ∧ K (.int k (k.wrap (x.tdiv y)))
  | .rem => y ≠ 0 ∧ K (.int k (x.tmod y))
  | .and => K (.int k (k.wrap (BitVec.ofInt k.bits x &&& BitVec.ofInt k.bits y).toNat))
  | .or => K (.int k (k.wrap (BitVec.ofInt k.bits x ||| BitVec.ofInt k.bits y).toNat))
  | .xor => K (.int k (k.wrap (BitVec.ofInt k.bits x ^^^ BitVec.ofInt k.bits y).toNat))
  | .andNot => K (.int k (k.wrap (BitVec.ofInt k.bits x &&& ~~~ BitVec.ofInt k.bits y).toNat))
  | .eql => K (.bool (x == y))
  | .neq => K (.bool (x != y))
  | .lss => K (.bool (decide (x < y)))
  | .leq => K (.bool (decide (x ≤ y)))
  | .gtr => K (.bool (decide (x > y)))
  | .geq => K (.bool (decide (x ≥ y)))
  | _ => False
/-- Equality of texts, laid open where both are known. -/
def eqB : List UInt8 → List UInt8 → Bool
  | [], [] => true
  | a :: r, b :: s => Nat.beq a.toNat b.toNat && eqB r s
  | _, _ => false
def strEq (x y : ByteArray) : Bool := eqB x.data.toList y.data.toList
theorem eqB_iff : ∀ {l m : List UInt8}, eqB l m = (l == m)
  | [], [] => rfl
  | [], _ :: _ => rfl
  | _ :: _, [] => rfl
  | a :: r, b :: s => by
    have ih := eqB_iff (l := r) (m := s)
    unfold eqB
    rw [ih]
    have : Nat.beq a.toNat b.toNat = (a == b) := by
      rw [Bool.eq_iff_iff, beq_iff_eq]
      constructor
      · intro h; exact UInt8.toNat_inj.1 (Nat.eq_of_beq_eq_true h)
      · intro h; rw [h]; exact Nat.beq_refl _
    rw [this]; rfl
theorem strEq_iff {x y : ByteArray} : strEq x y = true ↔ x = y := by
  unfold strEq
  rw [eqB_iff, beq_iff_eq]
  constructor
  · intro h; cases x; cases y; simpa [← Array.toList_inj] using h
  · intro h; rw [h]
theorem strEq_false {x y : ByteArray} : strEq x y = false ↔ x ≠ y := by
  rw [Ne, ← strEq_iff (x := x) (y := y)]; simp
theorem strEq_toList (x y : ByteArray) : (x.toList == y.toList) = strEq x y := by
  rw [ByteArray.toList_eq, ByteArray.toList_eq]; exact eqB_iff.symm
def lessB : List UInt8 → List UInt8 → Bool
  | _, [] => false
  | [], _ :: _ => true
  | a :: r, b :: s => Nat.blt a.toNat b.toNat || (Nat.beq a.toNat b.toNat && lessB r s)
def strLt (x y : ByteArray) : Bool := lessB x.data.toList y.data.toList
theorem lessB_iff : ∀ {l m : List UInt8}, lessB l m = Op.bytesLess l m
  | _, [] => by cases ‹List UInt8› <;> rfl
  | [], _ :: _ => rfl
  | a :: r, b :: s => by
    have ih := lessB_iff (l := r) (m := s)
    unfold lessB Op.bytesLess
    rw [ih]
    have h1 : Nat.beq a.toNat b.toNat = (a == b) := by
      rw [Bool.eq_iff_iff, beq_iff_eq]
      constructor
      · intro h; exact UInt8.toNat_inj.1 (Nat.eq_of_beq_eq_true h)
      · intro h; rw [h]; exact Nat.beq_refl _
    have h2 : Nat.blt a.toNat b.toNat = decide (a < b) := by
      rw [Bool.eq_iff_iff, decide_eq_true_eq, UInt8.lt_iff_toNat_lt]
      simp
    rw [h1, h2]
theorem strLt_toList (x y : ByteArray) : Op.bytesLess x.toList y.toList = strLt x y := by
  rw [ByteArray.toList_eq, ByteArray.toList_eq]; exact lessB_iff.symm
def binStr (op : BinOp) (x y : ByteArray) (K : Value → Prop) : Prop :=
  match op with
  | .add => x.size + y.size ≤ 9223372036854775807 ∧ K (.string (x ++ y))
  | .eql => K (.bool (strEq x y))
  | .neq => K (.bool (!(strEq x y)))
  | .lss => K (.bool (strLt x y))
  | .leq => K (.bool (strLt x y || strEq x y))
  | .gtr => K (.bool (!(strLt x y || strEq x y)))
  | .geq => K (.bool (!(strLt x y)))
  | _ => False
def shiftInt (op : BinOp) (k : IntKind) (x y : Int) (K : Value → Prop) : Prop :=
  match op with
  | .shl => 0 ≤ y ∧ K (.int k (k.wrap (x * 2 ^ min y.toNat k.bits)))
  | .shr => 0 ≤ y ∧ K (.int k (x.fdiv (2 ^ min y.toNat k.bits)))
  | _ => False
/-- What is compared with nil. -/
def nilX (op : BinOp) (isNil : Bool) (K : Value → Prop) : Prop :=
  match op with
  | .eql => K (.bool isNil)
  | .neq => K (.bool (!isNil))
  | _ => False
def isShift : BinOp → Bool
  | .shl | .shr => true
  | _ => false
def kindEq : IntKind → IntKind → Bool
  | .i8, .i8 | .i16, .i16 | .i32, .i32 | .i64, .i64 | .u8, .u8 | .u16, .u16 | .u32, .u32 | .u64, .u64 => true
  | _, _ => false
theorem kindEq_ok {a b : IntKind} (h : kindEq a b = true) : a = b := by cases a <;> cases b <;> first | rfl | cases h
def binX (op : BinOp) (a b : Value) (K : Value → Prop) : Prop :=
  match a with
  | .int k x => match b with
    | .int k' y => match isShift op with
      | true => shiftInt op k x y K
      | false => match kindEq k k' with
        | true => binInt op k x y K
        | false => False
    | _ => False
  | .string x => match b with
    | .string y => binStr op x y K
    | _ => False
  | .bool x => match b with
    | .bool y => match op with
      | .eql => K (.bool (x == y))
      | .neq => K (.bool (x != y))
      | _ => False
    | _ => False
  | _ => False

section
variable {P : Program} {w : World}
theorem binInt_ok {t : TypeId} {op : BinOp} {k : IntKind} {x y : Int} {K : Value → Prop} (hs : isShift op = false) (h : binInt op k x y K) : ∃ v, K v ∧ ∀ w, (binOp op t (.int k x) (.int k y)).run P w = .ok v w := by
  cases op <;> first
    | (cases hs; done)
    | exact h.elim
    | (obtain ⟨h1, h2⟩ := h; exact ⟨_, h2, fun w => by simp [binOp, Op.intDiv, h1]⟩)
    | (refine ⟨_, h, fun w => ?_⟩; simp only [binOp, ne_eq, not_true_eq_false, if_false]; rfl)
theorem shiftInt_ok {t : TypeId} {op : BinOp} {k k' : IntKind} {x y : Int} {K : Value → Prop} (h : shiftInt op k x y K) : ∃ v, K v ∧ ∀ w, (binOp op t (.int k x) (.int k' y)).run P w = .ok v w := by
  cases op <;> first
    | exact h.elim
    | (obtain ⟨h1, h2⟩ := h; exact ⟨_, h2, fun w => by simp [binOp, Op.shift, Int.not_lt.2 h1]⟩)
theorem binStr_ok {t : TypeId} {op : BinOp} {x y : ByteArray} {K : Value → Prop} (h : binStr op x y K) : ∃ v, K v ∧ ∀ w, (binOp op t (.string x) (.string y)).run P w = .ok v w := by
  cases op <;> first
    | exact h.elim
    | (obtain ⟨h1, h2⟩ := h; refine ⟨_, h2, fun w => ?_⟩; simp only [binOp, Op.stringOp]; rw [if_neg (by simp [IntKind.max, IntKind.signed, IntKind.bits]; omega)]; rfl)
    | (exact ⟨_, h, fun w => by simp only [binOp, Op.stringOp, strEq_toList, strLt_toList]; rfl⟩)
end
end Go.Kx
