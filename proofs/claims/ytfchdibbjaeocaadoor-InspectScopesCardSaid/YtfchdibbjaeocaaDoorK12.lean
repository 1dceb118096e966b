/- The walk of a function's code: regions, branches, blocks, loops, returns; what a call comes to. Generic in the program; no condition of its own. -/
import Derived.Test.YtfchdibbjaeocaaDoorKU
import Derived.OrdersHeld
namespace Go.Kx
open Go.RowKit

/-- What a walk asks of the ways out of a piece of code. -/
abbrev KT := Exit → Fr → Hp → List SB → Prop

/-- ρ' has ρ's first e entries. -/
def PreE (e : Nat) (ρ ρ' : List Value) : Prop := ∀ (k : Nat) (r : Value), k < e → ρ[k]? = some r → ρ'[k]? = some r
theorem Pre.toE {e : Nat} {ρ ρ' : List Value} (h : Pre ρ ρ') : PreE e ρ ρ' := fun k r _ hk => h k r hk
theorem PreE.trans {e : Nat} {a b c : List Value} (h : PreE e a b) (h' : PreE e b c) : PreE e a c := fun k r hk e1 => h' k r hk (h k r hk e1)
theorem PreE.refl (e : Nat) (a : List Value) : PreE e a a := fun _ _ _ h => h
/-- What stays as it is while a piece of code runs: what is deferred, and some slots. -/
structure Pin where
  ds : List Deferred
  ps : List Nat
  vs : Nat → Option Value
def Pin.none : Pin := ⟨[], [], fun _ => Option.none⟩
def Pin.On (D : Pin) (a : Act) : Prop := a.defers = D.ds ∧ ∀ i ∈ D.ps, a.tmps[i]? = D.vs i
theorem Pin.on_none {a : Act} : Pin.none.On a ↔ a.defers = [] := ⟨fun h => h.1, fun h => ⟨h, fun i hi => by simp [Pin.none] at hi⟩⟩
theorem Pin.On.put {D : Pin} {a : Act} (h : D.On a) {dst : Option Tmp} (hd : ∀ d, dst = some d → d ∉ D.ps) (v : Value) : D.On (a.put dst v) := by
  cases dst with
  | none => exact h
  | some d =>
    refine ⟨h.1, fun i hi => ?_⟩
    have hne : d ≠ i := fun e => hd d rfl (e ▸ hi)
    simp only [Act.put]
    rw [Array.getElem?_setIfInBounds_ne hne]
    exact h.2 i hi
theorem Pin.On.unput {D : Pin} {a : Act} {dst : Option Tmp} (hd : ∀ d, dst = some d → d ∉ D.ps) {v : Value} (h : D.On (a.put dst v)) : D.On a := by
  cases dst with
  | none => exact h
  | some d =>
    refine ⟨h.1, fun i hi => ?_⟩
    have hne : d ≠ i := fun e => hd d rfl (e ▸ hi)
    have := h.2 i hi
    simp only [Act.put] at this
    rw [Array.getElem?_setIfInBounds_ne hne] at this
    exact this
/-- The post of a piece of code, over worlds. At a panic the frame is nothing any more. n: the slots; e: the blocks at the function's begin. -/
def PostX (n e : Nat) (D : Pin) (w0 : World) (M : Nat → Prop) (H0 : Hp) (ρ : List Value) (H : Hp) (K : KT) : Exit → Act → World → Prop
  | .panic ch, a, w => D.On a ∧ ∃ ρ' H' G', St w0 M H0 ρ' H' G' w ∧ PreE e ρ ρ' ∧ H.Le H' ∧ K (.panic ch) [] H' G'
  | .outgrown, _, _ => False
  | x, a, w => D.On a ∧ a.tmps.size = n ∧ ∃ F' ρ' H' G', St w0 M H0 ρ' H' G' w ∧ PreE e ρ ρ' ∧ FOk ρ' F' a.tmps ∧ H.Le H' ∧ K x F' H' G'
/-- From a symbolic state on, code c ends as K asks. -/
def W (P : Program) (n e : Nat) (D : Pin) (c : Code) (K : KT) (F : Fr) (H : Hp) (G : List SB) : Prop :=
  ∀ (w0 : World) (M : Nat → Prop) (_ : Gd w0 M) (H0 : Hp) (ρ : List Value) (a : Act) (w : World), St w0 M H0 ρ H G w → FOk ρ F a.tmps → D.On a → a.tmps.size = n → c.wp P (PostX n e D w0 M H0 ρ H K) a w

/-- The same, as one word. -/
structure WS (P : Program) (n e : Nat) (D : Pin) (c : Code) (K : KT) (F : Fr) (H : Hp) (G : List SB) : Prop where of ::
  to : W P n e D c K F H G

section
variable {P : Program} {n e : Nat} {D : Pin}
theorem PostX.le {w0 : World} {M : Nat → Prop} {H0 H H1 : Hp} {ρ ρ1 : List Value} {K : KT} (hp : PreE e ρ ρ1) (hle : H.Le H1) : ∀ x a w, PostX n e D w0 M H0 ρ1 H1 K x a w → PostX n e D w0 M H0 ρ H K x a w := by
  intro x a w h
  cases x <;> first
    | exact h.elim
    | (obtain ⟨h1, ρ', H', G', h2, hq, h3, h4⟩ := h; exact ⟨h1, ρ', H', G', h2, hp.trans hq, hle.trans h3, h4⟩)
    | (obtain ⟨h1, h0, F', ρ', H', G', h2, hq, h3, h4, h5⟩ := h; exact ⟨h1, h0, F', ρ', H', G', h2, hp.trans hq, h3, hle.trans h4, h5⟩)
theorem W.mono {c : Code} {K K' : KT} {F : Fr} {H : Hp} {G : List SB} (h : W P n e D c K F H G) (hk : ∀ x F' H' G', H.Le H' → K x F' H' G' → K' x F' H' G') : W P n e D c K' F H G := by
  intro w0 M hgd H0 ρ a w hs hf hd hn
  refine wp_mono (h w0 M hgd H0 ρ a w hs hf hd hn) fun x a w he => ?_
  cases x <;> first
    | exact he.elim
    | (obtain ⟨h1, ρ', H', G', h2, hq, h3, h4⟩ := he; exact ⟨h1, ρ', H', G', h2, hq, h3, hk _ _ _ _ h3 h4⟩)
    | (obtain ⟨h1, h0, F', ρ', H', G', h2, hq, h3, h4, h5⟩ := he; exact ⟨h1, h0, F', ρ', H', G', h2, hq, h3, h4, hk _ _ _ _ h4 h5⟩)

/-! ### One operation -/
/-- A slot below n is set. -/
def putX (n : Nat) (ps : List Nat) (dst : Option Tmp) (F : Fr) (v : SV) (K : Fr → Prop) : Prop :=
  match dst with
  | none => K F
  | some d => match Nat.blt d n with
    | true => match ps.any (Nat.beq d) with
      | true => False
      | false => eraX F d fun F' => K ((d, v) :: F')
    | false => False
where eraX : Fr → Nat → (Fr → Prop) → Prop
  | [], _, K => K []
  | (j, v) :: r, i, K => match Nat.beq j i with
    | true => eraX r i K
    | false => eraX r i fun l => K ((j, v) :: l)
theorem eraX_ok {F : Fr} {i : Nat} {K : Fr → Prop} (h : putX.eraX F i K) : K (eraseF F i) := by
  induction F generalizing K with
  | nil => exact h
  | cons x r ih =>
    obtain ⟨j, v⟩ := x
    unfold putX.eraX at h
    split at h
    · rename_i hj
      have : j = i := Nat.eq_of_beq_eq_true hj
      unfold eraseF
      rw [if_pos this]; exact ih h
    · rename_i hj
      have : ¬ j = i := fun e => by rw [e, Nat.beq_refl] at hj; cases hj
      unfold eraseF
      rw [if_neg this]; exact ih h
theorem putX_ok {ps : List Nat} {dst : Option Tmp} {F : Fr} {v : SV} {K : Fr → Prop} (h : putX n ps dst F v K) : ∃ F', K F' ∧ (∀ d, dst = some d → d ∉ ps) ∧ ∀ ρ (a : Act) (y : Value), a.tmps.size = n → FOk ρ F a.tmps → v.Is ρ y → FOk ρ F' (a.put dst y).tmps := by
  cases dst with
  | none => exact ⟨_, h, fun d e => (nomatch e), fun ρ a y _ hf _ => hf⟩
  | some d =>
    unfold putX at h
    simp only at h
    split at h
    · rename_i hd
      split at h
      · exact h.elim
      · rename_i hp
        refine ⟨(d, v) :: eraseF F d, eraX_ok (K := fun F' => K ((d, v) :: F')) h, fun d' e hm => ?_, fun ρ a y hn hf hv => hf.put (by rw [hn]; simpa using hd) hv⟩
        injection e with e
        subst e
        have := List.any_eq_false.1 hp d hm
        simp at this
    · exact h.elim
theorem put_size (a : Act) (dst : Option Tmp) (v : Value) : (a.put dst v).tmps.size = a.tmps.size := by cases dst <;> simp [Act.put]
theorem put_defers (a : Act) (dst : Option Tmp) (v : Value) : (a.put dst v).defers = a.defers := by cases dst <;> rfl

/-- A branch. -/
def br (t : Bool) (A B : Prop) : Prop :=
  match t with
  | true => A
  | false => B
theorem br.of {t : Bool} {A B : Prop} (h1 : t = true → A) (h2 : t = false → B) : br t A B := by cases t <;> first | exact h1 rfl | exact h2 rfl
/-- Is number i the guard of another operation? -/
def guards (ops : List Oper) (i : Nat) : Bool :=
  match ops with
  | [] => false
  | o :: r => match o.guard with
    | some (j, _) => match Nat.beq j i with
      | true => true
      | false => guards r i
    | none => guards r i
/-- A truth that is asked later is parted at once. -/
def partBool (b : Bool) (sv : SV) (K : SV → Prop) : Prop :=
  match b with
  | false => K sv
  | true => match sv with
    | .si (.ce (.val (.bool t))) => br t (K (.si (.ce (.val (.bool true))))) (K (.si (.ce (.val (.bool false)))))
    | _ => False
theorem partBool_ok {b : Bool} {sv : SV} {K : SV → Prop} (h : partBool b sv K) : ∃ sv', K sv' ∧ ∀ ρ v, sv.Is ρ v → sv'.Is ρ v := by
  unfold partBool at h
  split at h
  · exact ⟨sv, h, fun _ _ h => h⟩
  · split at h
    · rename_i t
      cases t with
      | true => exact ⟨_, h, fun _ _ h => h⟩
      | false => exact ⟨_, h, fun _ _ h => h⟩
    · exact h.elim
/-- Is what a guard yields as wanted? An operation that was passed by yields nothing. -/
def wantB (want : Bool) (K : Bool → Prop) (sv : SV) : Prop :=
  match sv with
  | .si (.ce (.val v)) => match v with
    | .bool t => match t with
      | true => K want
      | false => K (!want)
    | .tuple _ => K false
    | _ => False
  | _ => False
theorem wantB_ok {want : Bool} {K : Bool → Prop} {sv : SV} (h : wantB want K sv) : ∃ b, K b ∧ ∀ ρ v, sv.Is ρ v → ((match some v with
    | some (.bool b) => some b
    | _ => none) == some want) = b := by
  unfold wantB at h
  split at h
  · split at h
    · split at h
      · exact ⟨want, h, fun ρ v hv => by obtain rfl : v = _ := hv; cases want <;> rfl⟩
      · exact ⟨!want, h, fun ρ v hv => by obtain rfl : v = _ := hv; cases want <;> rfl⟩
    · exact ⟨false, h, fun ρ v hv => by obtain rfl : v = _ := hv; cases want <;> rfl⟩
    · exact h.elim
  · exact h.elim
/-- What is wanted of an operation with a guard. -/
def wantX (ops : List Oper) (F : Fr) (g : Option (Nat × Bool)) (K : Bool → Prop) : Prop :=
  match g with
  | none => K true
  | some (j, want) => nthDst ops j fun d => getX F d fun sv => wantB want K sv
where nthDst : List Oper → Nat → (Nat → Prop) → Prop
  | [], _, _ => False
  | o :: _, 0, K => match o.dst with
    | some d => K d
    | none => False
  | _ :: r, j + 1, K => nthDst r j K
theorem nthDst_ok {ops : List Oper} {j : Nat} {K : Nat → Prop} (h : wantX.nthDst ops j K) : ∃ o d, ops[j]? = some o ∧ o.dst = some d ∧ K d := by
  induction ops generalizing j with
  | nil => exact h.elim
  | cons o r ih =>
    cases j with
    | zero =>
      unfold wantX.nthDst at h
      split at h
      · rename_i d hd; exact ⟨o, d, rfl, hd, h⟩
      · exact h.elim
    | succ j => obtain ⟨o', d, h1, h2, h3⟩ := ih h; exact ⟨o', d, by simpa using h1, h2, h3⟩
theorem wantX_ok {ops : Array Oper} {F : Fr} {o : Oper} {K : Bool → Prop} (h : wantX ops.toList F o.guard K) : ∃ b, K b ∧ ∀ ρ (a : Act), FOk ρ F a.tmps → Region.wanted o (yielded ops a.tmps) = b := by
  unfold wantX at h
  unfold Region.wanted
  split at h
  · rename_i hg
    exact ⟨true, h, fun ρ a _ => by rw [hg]⟩
  · rename_i j want hg
    obtain ⟨o', d, h1, h2, h⟩ := nthDst_ok h
    obtain ⟨sv, h3, h⟩ := getX_ok h
    obtain ⟨b, h, hb⟩ := wantB_ok h
    have h1' : ops[j]? = some o' := by simpa using h1
    refine ⟨b, h, fun ρ a hf => ?_⟩
    obtain ⟨v, h4, h5⟩ := hf d _ h3
    have := hb ρ v h5
    rw [hg]
    simp only [yielded, h1', h2, Option.bind_some, h4]
    exact this

/-- One operation's end, loud or quiet. -/
def opX (P : Program) (T : Tab) (o : Oper) (F : Fr) (H : Hp) (G : List SB) (K : SV → Hp → List SB → Prop) (Kp : List PanicEntry → Hp → List SB → Prop) : Prop :=
  match o.op with
  | .alloc t => allocX T t G fun sv G' => K sv H G'
  | .box t x => evX x F fun sv => boxX t sv G fun sv G' => K sv H G'
  | .store t x y => evX x F fun sx => evX y F fun sy => cellX sx fun c => storeX T t c sy G fun G' => K (pv undef) H G'
  | .buildSlice t len parts => buildSliceX T t len parts.toList F H G K
  | .call c => match c.callee with
    | .value f => evX f F fun fv => evL c.args.toList F fun l => callX P fv l H G K Kp
    | .builtin b => match b with
      | .len => opQ P T o F H G fun sv => K sv H G
      | .max => opQ P T o F H G fun sv => K sv H G
      | .min => opQ P T o F H G fun sv => K sv H G
      | .append => match c.args.toList with
        | [s, x] => match c.argTypes.toList with
          | [t, tx] => evX s F fun ss => evX x F fun sx => appX T t tx ss sx H G fun sv G' => K sv H G'
          | _ => LO P o F H G K Kp
        | _ => LO P o F H G K Kp
      | .copy => match c.args.toList with
        | [s, x] => match c.argTypes.toList with
          | [t, tx] => evX s F fun ss => evX x F fun sx => copyX T t tx ss sx H G fun sv G' => K sv H G'
          | _ => LO P o F H G K Kp
        | _ => LO P o F H G K Kp
      | .unsafeSliceData => match c.args.toList with
        | [s] => evX s F fun ss => sdX T o.type ss G fun sv => K sv H G
        | _ => LO P o F H G K Kp
      | .unsafeString => match c.args.toList with
        | [p, n] => match c.argTypes.toList with
          | [pt, _] => evX p F fun sp => evX n F fun sn => usX T pt sp sn G fun sv G' => K sv H G'
          | _ => LO P o F H G K Kp
        | _ => LO P o F H G K Kp
      | .delete => match c.args.toList with
        | [m, k] => match c.argTypes.toList with
          | [t, _] => evX m F fun sm => evX k F fun sk => delX T t sm sk G fun G' => K (.tu []) H G'
          | _ => LO P o F H G K Kp
        | _ => LO P o F H G K Kp
      | _ => LO P o F H G K Kp
    | _ => LO P o F H G K Kp
  | .lookup t m k ok => evX m F fun sm => evX k F fun sk => lookX T t sm sk ok G fun sv => K sv H G
  | .makeMap t r => match r with
    | none => makeMapX T t G fun sv G' => K sv H G'
    | some _ => LO P o F H G K Kp
  | .mapUpdate t m k x => evX m F fun sm => evX k F fun sk => evX x F fun sv => updX T t sm sk sv G fun G' => K (pv undef) H G'
  | .makeSlice t l c => evX l F fun sl => evX c F fun sc => mkX T t sl sc G fun sv G' => K sv H G'
  | .slice t x lo hi mx => sliceOpX P T o t x lo hi mx F H G K
  | .convert s d x => convOpX P T o s d x F H G K
  | .typeAssert x _ t ok => evX x F fun sx => taX T t ok sx fun sv => K sv H G
  | .panic x => evX x F fun sx => panX sx fun ch => Kp ch H G
  | .makeChan .. | .mapEntry .. | .entryStore .. | .range .. | .next .. | .entry .. | .insert .. | .defer .. | .go .. | .send .. | .recv .. | .select .. | .ready .. | .waits .. | .sliceToArrayPointer .. => LO P o F H G K Kp
  | _ => opQ P T o F H G fun sv => K sv H G
theorem opX_ok {T : Tab} (hT : TabOk P T) {o : Oper} {F : Fr} {H : Hp} {G : List SB} {K : SV → Hp → List SB → Prop} {Kp : List PanicEntry → Hp → List SB → Prop} (h : opX P T o F H G K Kp) : LO P o F H G K Kp := by
  unfold opX at h
  split at h
  · rename_i ho; exact allocX_ok hT ho h
  · rename_i ho; exact boxX_ok ho h
  · rename_i ho; exact storeX_ok hT ho h
  · rename_i ho; exact buildSliceX_ok hT ho h
  · rename_i c ho
    obtain ⟨callee, args, ts⟩ := c
    cases callee with
    | value f => exact callX_ok ho h
    | builtin b =>
      cases b
      case append =>
        simp only at h
        split at h
        · rename_i s x ha
          split at h
          · rename_i t tx hb
            have ha' : args = #[s, x] := by rw [← ha]
            have hb' : ts = #[t, tx] := by rw [← hb]
            subst ha' hb'
            exact appX_ok hT ho h
          · exact h
        · exact h
      case copy =>
        simp only at h
        split at h
        · rename_i s x ha
          split at h
          · rename_i t tx hb
            have ha' : args = #[s, x] := by rw [← ha]
            have hb' : ts = #[t, tx] := by rw [← hb]
            subst ha' hb'
            exact copyX_ok hT ho h
          · exact h
        · exact h
      case unsafeSliceData =>
        simp only at h
        split at h
        · rename_i s ha
          have ha' : args = #[s] := by rw [← ha]
          subst ha'
          exact sdX_ok hT ho h
        · exact h
      case unsafeString =>
        simp only at h
        split at h
        · rename_i p n ha
          split at h
          · rename_i pt it hb
            have ha' : args = #[p, n] := by rw [← ha]
            have hb' : ts = #[pt, it] := by rw [← hb]
            subst ha' hb'
            exact usX_ok hT ho h
          · exact h
        · exact h
      case delete =>
        simp only at h
        split at h
        · rename_i m k ha
          split at h
          · rename_i t tx hb
            have ha' : args = #[m, k] := by rw [← ha]
            have hb' : ts = #[t, tx] := by rw [← hb]
            subst ha' hb'
            exact delX_ok hT ho h
          · exact h
        · exact h
      all_goals first | exact h | exact LO.of_quiet (opQ_ok hT h)
    | invoke r m => exact h
  · rename_i ho; exact LO.of_quiet (lookX_ok hT ho h)
  · rename_i t r ho
    split at h
    · exact makeMapX_ok hT ho h
    · exact h
  · rename_i ho; exact updX_ok hT ho h
  · rename_i ho; exact mkX_ok hT ho h
  · rename_i ho; exact sliceOpX_ok hT ho h
  · rename_i ho; exact convOpX_ok hT ho h
  · rename_i ho; exact LO.of_quiet (taX_ok hT ho h)
  · rename_i ho; exact panX_ok ho h
  all_goals first | exact h | exact LO.of_quiet (opQ_ok hT h)

theorem upon_mono {o : Oper} {a : Act} {next next' : Act → World → Prop} {Q Q' : Exit → Act → World → Prop} (hn : ∀ a w, next a w → next' a w) (hq : ∀ e a w, Q e a w → Q' e a w) {r : Result Next} (h : o.upon P a next Q r) : o.upon P a next' Q' r := by
  unfold Oper.upon at *
  split <;> simp_all
  · rename_i f args w'
    refine h.mono fun e w'' he => ?_
    cases e with
    | returned v => exact hn _ _ he
    | panicked ch => exact hq _ _ _ he
    | outgrown => obtain ⟨a0, w0, h0⟩ := he; exact ⟨a0, w0, hq _ _ _ h0⟩
  · exact h.mono fun v w'' he => hn _ _ he
theorem wpOps_mono {ops : Array Oper} {Q Q' : Exit → Act → World → Prop} (hq : ∀ e a w, Q e a w → Q' e a w) : ∀ (l : List Nat) (a : Act) (w : World), wpOps P ops Q l a w → wpOps P ops Q' l a w
  | [], a, w, h => hq _ _ _ h
  | i :: l, a, w, h => by
    simp only [wpOps] at *
    split
    · rename_i ho
      rw [ho] at h
      exact wpOps_mono hq l a w h
    · rename_i o ho
      rw [ho] at h
      simp only at h
      split
      · rename_i hw
        rw [if_pos hw] at h
        rcases h with h | ⟨h1, a0, w0, h2⟩
        · exact .inl (upon_mono (fun a w => wpOps_mono hq l a w) hq h)
        · exact .inr ⟨h1, a0, w0, hq _ _ _ h2⟩
      · rename_i hw
        rw [if_neg hw] at h
        exact wpOps_mono hq l _ w h

/-! ### A region in its own order -/
def opsX (P : Program) (T : Tab) (n : Nat) (ps : List Nat) (ops : List Oper) (Kp : List PanicEntry → Hp → List SB → Prop) (i : Nat) (l : List Oper) (F : Fr) (H : Hp) (G : List SB) (K : Fr → Hp → List SB → Prop) : Prop :=
  @List.rec Oper (fun _ => Nat → Fr → Hp → List SB → (Fr → Hp → List SB → Prop) → Prop) (fun _ F H G K => K F H G)
    (fun o _ ih i F H G K => wantX ops F o.guard fun b => match b with
      | true => opX P T o F H G (fun sv H' G' => partBool (guards ops i) sv fun sv => putX n ps o.dst F sv fun F' => ih (i + 1) F' H' G' K) Kp
      | false => putX n ps o.dst F (pv undef) fun F' => ih (i + 1) F' H G K) l i F H G K
theorem opsX_cons {P : Program} {T : Tab} {n : Nat} {ps : List Nat} {ops : List Oper} {Kp : List PanicEntry → Hp → List SB → Prop} {i : Nat} {o : Oper} {r : List Oper} {F : Fr} {H : Hp} {G : List SB} {K : Fr → Hp → List SB → Prop} :
    opsX P T n ps ops Kp i (o :: r) F H G K = (wantX ops F o.guard fun b => match b with
      | true => opX P T o F H G (fun sv H' G' => partBool (guards ops i) sv fun sv => putX n ps o.dst F sv fun F' => opsX P T n ps ops Kp (i + 1) r F' H' G' K) Kp
      | false => putX n ps o.dst F (pv undef) fun F' => opsX P T n ps ops Kp (i + 1) r F' H G K) := rfl
theorem opsX_ok {T : Tab} (hT : TabOk P T) {ops : Array Oper} {K : KT} : ∀ (r : List Oper) (i : Nat) (F : Fr) (H : Hp) (G : List SB), (∀ j, r[j]? = ops[i + j]?) → opsX P T n D.ps ops.toList (fun ch H' G' => K (.panic ch) [] H' G') i r F H G (fun F' H' G' => K .normal F' H' G') →
    ∀ (w0 : World) (M : Nat → Prop) (_ : Gd w0 M) (H0 : Hp) (ρ : List Value) (a : Act) (w : World), St w0 M H0 ρ H G w → FOk ρ F a.tmps → D.On a → a.tmps.size = n →
      wpOps P ops (PostX n e D w0 M H0 ρ H K) ((List.range ops.size).drop i) a w
  | [], i, F, H, G, hr, h, w0, M, hgd, H0, ρ, a, w, hs, hf, hd, hn => by
    have hsz : ops.size ≤ i := by
      have := hr 0
      simp at this
      exact this
    rw [List.drop_of_length_le (by simpa using hsz)]
    exact ⟨hd, hn, F, ρ, H, G, hs, .refl _ _, hf, .refl _, h⟩
  | o :: r, i, F, H, G, hr, h, w0, M, hgd, H0, ρ, a, w, hs, hf, hd, hn => by
    have ho : ops[i]? = some o := by have := hr 0; simpa using this.symm
    have hi : i < ops.size := (Array.getElem?_eq_some_iff.1 ho).1
    have hl : (List.range ops.size).drop i = i :: (List.range ops.size).drop (i + 1) := by
      rw [List.drop_eq_getElem_cons (by simpa using hi)]; simp
    have hr' : ∀ j, r[j]? = ops[i + 1 + j]? := fun j => by have := hr (j + 1); simp at this; rw [this]; congr 1; omega
    rw [opsX_cons] at h
    obtain ⟨b, h, hw⟩ := wantX_ok (ops := ops) h
    rw [hl]
    simp only [wpOps, ho]
    rw [hw ρ a hf]
    cases b with
    | true =>
      simp only [if_true]
      left
      refine upon_of_out (opX_ok hT h w0 M hgd H0 ρ a w hs hf) ?_ ?_
      · rintro v w' ⟨sv, ρ', H', G', h1, h2, h3, h4, h5⟩
        obtain ⟨sv', h5, h6⟩ := partBool_ok h5
        obtain ⟨F', h5, h8, h7⟩ := putX_ok h5
        have hf' := h7 ρ' a v hn (hf.mono h2) (h6 ρ' v h3)
        have ih := opsX_ok hT r (i + 1) F' H' G' hr' h5 w0 M hgd H0 ρ' (a.put o.dst v) w' h1 hf' (hd.put h8 _) (by rw [put_size]; exact hn)
        exact wpOps_mono (PostX.le h2.toE h4) _ _ _ ih
      · rintro ch w' ⟨ρ', H', G', h1, h2, h4, h5⟩
        exact ⟨hd, ρ', H', G', h1, h2.toE, h4, h5⟩
    | false =>
      simp only [Bool.false_eq_true, if_false]
      obtain ⟨F', h5, h8, h7⟩ := putX_ok h
      have hf' := h7 ρ a undef hn hf rfl
      exact opsX_ok hT r (i + 1) F' H G hr' h5 w0 M hgd H0 ρ (a.put o.dst undef) w hs hf' (hd.put h8 _) (by rw [put_size]; exact hn)

/-! ### Code -/
theorem W.region {T : Tab} (hT : TabOk P T) {id : Nat} {ops : Array Oper} {K : KT} {F : Fr} {H : Hp} {G : List SB}
    (h : opsX P T n D.ps ops.toList (fun ch H' G' => K (.panic ch) [] H' G') 0 ops.toList F H G (fun F' H' G' => K .normal F' H' G')) : W P n e D (.region id ops false) K F H G := by
  intro w0 M hgd H0 ρ a w hs hf hd hn
  refine wp_region ?_
  have := opsX_ok (e := e) hT ops.toList 0 F H G (fun j => by simp) h w0 M hgd H0 ρ a w hs hf hd hn
  simpa using this
def thenK (K1 : Fr → Hp → List SB → Prop) (K : KT) : KT
  | .normal, F, H, G => K1 F H G
  | e, F, H, G => K e F H G
def blockK (id : Nat) (K : KT) : KT
  | .exit j, F, H, G => match Nat.beq j id with
    | true => K .normal F H G
    | false => K (.exit j) F H G
  | e, F, H, G => K e F H G
theorem W.seq {x y : Code} {K : KT} {F : Fr} {H : Hp} {G : List SB} (h : W P n e D x (thenK (W P n e D y K) K) F H G) : W P n e D (.seq x y) K F H G := by
  intro w0 M hgd H0 ρ a w hs hf hd hn
  refine wp_seq (wp_mono (h w0 M hgd H0 ρ a w hs hf hd hn) fun xx a1 w1 he => ?_)
  cases xx with
  | normal =>
    obtain ⟨h1, h0, F', ρ', H', G', h2, hq, h3, h4, h5⟩ := he
    exact wp_mono (h5 w0 M hgd H0 ρ' a1 w1 h2 h3 h1 h0) (PostX.le hq h4)
  | _ => exact he
theorem W.block {id : Nat} {c : Code} {K : KT} {F : Fr} {H : Hp} {G : List SB} (h : W P n e D c (blockK id K) F H G) : W P n e D (.block id c) K F H G := by
  intro w0 M hgd H0 ρ a w hs hf hd hn
  refine wp_block (wp_mono (h w0 M hgd H0 ρ a w hs hf hd hn) fun xx a1 w1 he => ?_)
  cases xx with
  | exit j =>
    obtain ⟨h1, h0, F', ρ', H', G', h2, hq, h3, h4, h5⟩ := he
    simp only [blockK] at h5
    simp only [Exit.inBlock]
    split
    · rename_i hj
      subst hj
      rw [Nat.beq_refl] at h5
      exact ⟨h1, h0, F', ρ', H', G', h2, hq, h3, h4, h5⟩
    · rename_i hj
      have : Nat.beq j id = false := by
        cases hb : Nat.beq j id with
        | true => exact absurd (Nat.eq_of_beq_eq_true hb) hj
        | false => rfl
      rw [this] at h5
      exact ⟨h1, h0, F', ρ', H', G', h2, hq, h3, h4, h5⟩
  | _ => exact he
theorem W.skip {K : KT} {F : Fr} {H : Hp} {G : List SB} (h : K .normal F H G) : W P n e D .skip K F H G :=
  fun _ _ _ _ ρ _ _ hs hf hd hn => wp_skip ⟨hd, hn, F, ρ, H, G, hs, .refl _ _, hf, .refl _, h⟩
theorem W.exit {id : Nat} {K : KT} {F : Fr} {H : Hp} {G : List SB} (h : K (.exit id) F H G) : W P n e D (.exit id) K F H G :=
  fun _ _ _ _ ρ _ _ hs hf hd hn => wp_exit ⟨hd, hn, F, ρ, H, G, hs, .refl _ _, hf, .refl _, h⟩
theorem W.ret {K : KT} {F : Fr} {H : Hp} {G : List SB} (h : K .ret F H G) : W P n e D .ret K F H G :=
  fun _ _ _ _ ρ _ _ hs hf hd hn => wp_ret ⟨hd, hn, F, ρ, H, G, hs, .refl _ _, hf, .refl _, h⟩
theorem W.label {l : Nat} {K : KT} {F : Fr} {H : Hp} {G : List SB} (h : K .normal F H G) : W P n e D (.label l) K F H G :=
  fun _ _ _ _ ρ _ _ hs hf hd hn => wp_label ⟨hd, hn, F, ρ, H, G, hs, .refl _ _, hf, .refl _, h⟩
theorem W.goto {l : Nat} {K : KT} {F : Fr} {H : Hp} {G : List SB} (h : K (.goto l) F H G) : W P n e D (.goto l) K F H G :=
  fun _ _ _ _ ρ _ _ hs hf hd hn => wp_goto ⟨hd, hn, F, ρ, H, G, hs, .refl _ _, hf, .refl _, h⟩
theorem W.cond {c : Operand} {x y : Code} {K : KT} {F : Fr} {H : Hp} {G : List SB} (h : evX c F fun sv => boolX sv fun t => br t (W P n e D x K F H G) (W P n e D y K F H G)) : W P n e D (.cond c x y) K F H G := by
  intro w0 M hgd H0 ρ a w hs hf hd hn
  obtain ⟨sv, h, hx⟩ := evX_ok h
  obtain ⟨t, rfl, h⟩ := boolX_ok h
  refine wp_cond_split (t := t) (hx ρ a hf) (fun e => by subst e; exact h w0 M hgd H0 ρ a w hs hf hd hn) (fun e => by subst e; exact h w0 M hgd H0 ρ a w hs hf hd hn)

/-- The structure of code laid open: down to branches, loops, regions that draw, and the ways out. -/
def codeX (P : Program) (T : Tab) (n e : Nat) (D : Pin) (c : Code) (K : KT) (F : Fr) (H : Hp) (G : List SB) : Prop :=
  @Code.rec (fun _ => KT → Fr → Hp → List SB → Prop)
    (fun K F H G => K .normal F H G)
    (fun id ops draw K F H G => match draw with
      | false => opsX P T n D.ps ops.toList (fun ch H' G' => K (.panic ch) [] H' G') 0 ops.toList F H G (fun F' H' G' => K .normal F' H' G')
      | true => WS P n e D (.region id ops true) K F H G)
    (fun _ _ ihx ihy K F H G => ihx (thenK (ihy K) K) F H G)
    (fun c _ _ ihx ihy K F H G => evX c F fun sv => boolX sv fun t => br t (ihx K F H G) (ihy K F H G))
    (fun id _ ih K F H G => ih (blockK id K) F H G)
    (fun c _ K F H G => WS P n e D (.loop c) K F H G)
    (fun f p a b _ _ K F H G => WS P n e D (.rangeFunc f p a b) K F H G)
    (fun id K F H G => K (.exit id) F H G)
    (fun c _ K F H G => WS P n e D (.scope c) K F H G)
    (fun _ K F H G => K .normal F H G)
    (fun l K F H G => K (.goto l) F H G)
    (fun K F H G => K .ret F H G)
    (fun m K F H G => WS P n e D (.refuse m) K F H G)
    c K F H G
theorem codeX_ok {T : Tab} (hT : TabOk P T) : ∀ (c : Code) {K : KT} {F : Fr} {H : Hp} {G : List SB}, codeX P T n e D c K F H G → W P n e D c K F H G
  | .skip, _, _, _, _, h => W.skip h
  | .region id ops draw, K, F, H, G, h => by
    cases draw with
    | false => exact W.region hT h
    | true => exact h.to
  | .seq x y, K, F, H, G, h => W.seq (W.mono (codeX_ok hT x h) fun xx F' H' G' _ he => by
      cases xx with
      | normal => exact codeX_ok hT y he
      | _ => exact he)
  | .cond c x y, K, F, H, G, h => by
    refine W.cond ?_
    have mono : ∀ {A B : SV → Prop}, (∀ s, A s → B s) → evX c F A → evX c F B := by
      intro A B hab hA
      cases c with
      | tmp t =>
        have : ∀ F : Fr, getX F t A → getX F t B := by
          intro F
          induction F with
          | nil => exact fun h => h
          | cons x r ih =>
            obtain ⟨j, v⟩ := x
            intro h
            unfold getX at h ⊢
            split
            · rename_i hj; rw [hj] at h; exact hab _ h
            · rename_i hj; rw [hj] at h; exact ih h
        exact this F hA
      | const v =>
        have hv : ∀ (l : List Value) {A B : List SC → Prop}, (∀ s, A s → B s) → valsX l A → valsX l B := by
          intro l
          induction l with
          | nil => intro A B hab h; exact hab _ h
          | cons v r ih => intro A B hab h; exact ih (fun s hs => hab _ hs) h
        cases v <;> first | exact hv _ (fun s hs => hab _ hs) hA | exact hab _ hA
      | global g => exact hab _ hA
      | func f => exact hab _ hA
    refine mono (fun s hs => ?_) h
    obtain ⟨t, rfl, h1⟩ := boolX_ok hs
    refine br.of (t := t) (fun e => ?_) (fun e => ?_) <;> subst e
    · exact codeX_ok hT x h1
    · exact codeX_ok hT y h1
  | .block id c, K, F, H, G, h => W.block (codeX_ok hT c h)
  | .exit id, _, _, _, _, h => W.exit h
  | .label _, _, _, _, _, h => W.label h
  | .goto l, _, _, _, _, h => W.goto h
  | .ret, _, _, _, _, h => W.ret h
  | .loop _, _, _, _, _, h => h.to
  | .rangeFunc .., _, _, _, _, h => h.to
  | .scope _, _, _, _, _, h => h.to
  | .refuse _, _, _, _, _, h => h.to

/-! ### A call -/
/-- The results, out of the frame. -/
def resX (P : Program) (T : Tab) (rs : List ResultVar) (F : Fr) (H : Hp) (G : List SB) (K : List SG → Prop) : Prop :=
  match rs with
  | [] => K []
  | .tmp t :: r => getX F t fun sv => match sv with
    | .si g => resX P T r F H G fun l => K (g :: l)
    | _ => False
  | .cell ad t :: r => getX F ad fun sx => match sx with
    | .si (.ce (.ptr k off)) => tabX T t fun ti => loadX ti (.ptr k off) H G fun sv => match sv with
      | .si g => resX P T r F H G fun l => K (g :: l)
      | _ => False
    | _ => False

def resOne (tmps : Array Value) : ResultVar → Sem Value
  | .tmp t => pure (tmps.getD t undef)
  | .cell a t => do loadVar t (← asAddr (tmps.getD a undef))
theorem resX_ok {T : Tab} (hT : TabOk P T) : ∀ {rs : List ResultVar} {F : Fr} {H : Hp} {G : List SB} {K : List SG → Prop}, resX P T rs F H G K →
    ∃ l, K l ∧ ∀ ρ (a : Act) (w : World), Sw ρ H G w → FOk ρ F a.tmps → ∃ ys, (rs.mapM (resOne a.tmps)).run P w = .ok ys w ∧ All2 (SG.Is ρ) l ys
  | [], F, H, G, K, h => ⟨[], h, fun ρ a w _ _ => ⟨[], by simp, .nil⟩⟩
  | .tmp t :: r, F, H, G, K, h => by
    obtain ⟨sv, h1, h⟩ := getX_ok h
    cases sv with
    | si g =>
      obtain ⟨l, h, hl⟩ := resX_ok hT h
      refine ⟨_, h, fun ρ a w hw hf => ?_⟩
      obtain ⟨ys, h2, h3⟩ := hl ρ a w hw hf
      obtain ⟨v, h4, h5⟩ := hf t _ h1
      refine ⟨v :: ys, ?_, .cons h5 h3⟩
      simp only [List.mapM_cons, Sem.run_bind, resOne, Sem.run_pure, Result.andThen_ok, h2, Array.getD_eq_getD_getElem?, h4, Option.getD_some]
    | tu _ => exact h.elim
  | .cell ad t :: r, F, H, G, K, h => by
    obtain ⟨sx, h1, h⟩ := getX_ok h
    split at h
    · rename_i k off
      obtain ⟨ti, ht, h⟩ := tabX_ok hT h
      obtain ⟨sv, h, hload⟩ := loadX_ok ht h
      cases sv with
      | si g =>
        obtain ⟨l, h, hl⟩ := resX_ok hT h
        refine ⟨_, h, fun ρ a w hw hf => ?_⟩
        obtain ⟨ys, h2, h3⟩ := hl ρ a w hw hf
        obtain ⟨p, h4, h5⟩ := hf ad _ h1
        obtain ⟨v, h6, h7⟩ := hload ρ w p hw h5
        have h8 := h7 w hw
        refine ⟨v :: ys, ?_, .cons h6 h3⟩
        have h9 : ∃ x : Addr, p = .pointer (some x) := by
          obtain ⟨r', _, hp⟩ := h5
          unfold ptrAt at hp
          split at hp <;> first | (injection hp with hp; exact ⟨_, hp.symm⟩) | cases hp
        obtain ⟨x, rfl⟩ := h9
        have h10 : (loadVar t x).run P w = .ok v w := by
          simp only [Instr.loadAt, Instr.sureAddr, pure_bind] at h8; exact h8
        simp only [List.mapM_cons, Sem.run_bind, resOne, Array.getD_eq_getD_getElem?, h4, Option.getD_some, asAddr, Sem.run_pure, Result.andThen_ok, h10, h2]
      | tu _ => exact h.elim
    · exact h.elim
/-- What the function has made for itself alone is forgotten. -/
def trimX (e : Nat) (v : SV) (G : List SB) (K : List SB → Prop) : Prop :=
  match v.wf e && ((G.take e).all (SB.wf e) && Nat.ble e G.length) with
  | true => K (G.take e)
  | false => K G
/-- What is asked where a function ends. -/
def endK (P : Program) (T : Tab) (e : Nat) (rs : List ResultVar) (K : SE → Hp → List SB → Prop) : KT
  | .normal, F, H, G => resX P T rs F H G fun l => one l (fun v => trimX e v G fun G' => K (.ret v) H G')
  | .ret, F, H, G => resX P T rs F H G fun l => one l (fun v => trimX e v G fun G' => K (.ret v) H G')
  | .panic ch, _, H, G => trimX e (.tu []) G fun G' => K (.pan ch) H G'
  | _, _, _, _ => False
where one : List SG → (SV → Prop) → Prop
  | [g], K => K (.si g)
  | l, K => K (.tu l)
theorem SC.Is.cut {e : Nat} {ρ : List Value} {c : SC} {y : Value} (hw : c.wf e = true) (h : c.Is ρ y) : c.Is (ρ.take e) y := by
  have key : ∀ {k : Nat} {r : Value}, Nat.blt k e = true → ρ[k]? = some r → (ρ.take e)[k]? = some r := fun {k r} hk hr => by
    rw [List.getElem?_take_of_lt (by simpa using hk)]; exact hr
  cases c with
  | val x => exact h
  | ptr k off => obtain ⟨r, h1, h2⟩ := h; exact ⟨r, key hw h1, h2⟩
  | self k => exact key hw h
  | fn f n caps =>
    obtain ⟨ys, h1, h2⟩ := h
    refine ⟨ys, h1, ?_⟩
    have hw' : ∀ p ∈ caps, Nat.blt p.1 e = true := List.all_eq_true.1 hw
    clear h1 hw
    induction h2 with
    | nil => exact .nil
    | cons hx _ ih =>
      obtain ⟨r, hr, hp⟩ := hx
      exact .cons ⟨r, key (hw' _ List.mem_cons_self) hr, hp⟩ (ih fun p hp => hw' p (List.mem_cons_of_mem _ hp))
  | pp A off => exact h
  | any => trivial
theorem all2_cut {α : Type} {R S : α → Value → Prop} {p : α → Bool} (h : ∀ c y, p c = true → R c y → S c y) : ∀ {l : List α} {m : List Value}, l.all p = true → All2 R l m → All2 S l m
  | [], _, _, h2 => by cases h2; exact .nil
  | a :: l, _, hw, h2 => by
    simp only [List.all_cons, Bool.and_eq_true] at hw
    cases h2 with | cons h3 h4 => exact .cons (h _ _ hw.1 h3) (all2_cut h hw.2 h4)
theorem SG.Is.cut {e : Nat} {ρ : List Value} {c : SG} {y : Value} (hw : c.wf e = true) (h : c.Is ρ y) : c.Is (ρ.take e) y := by
  cases c with
  | ce x => exact SC.Is.cut hw h
  | ag xs => obtain ⟨ys, h1, h2⟩ := h; exact ⟨ys, h1, all2_cut (fun _ _ => SC.Is.cut) hw h2⟩
theorem SV.Is.cut {e : Nat} {ρ : List Value} {c : SV} {y : Value} (hw : c.wf e = true) (h : c.Is ρ y) : c.Is (ρ.take e) y := by
  cases c with
  | si x => exact SG.Is.cut hw h
  | tu xs => obtain ⟨ys, h1, h2⟩ := h; exact ⟨ys, h1, all2_cut (fun _ _ => SG.Is.cut) hw h2⟩
theorem St.cut {w0 : World} {M : Nat → Prop} {H0 : Hp} {ρ : List Value} {H : Hp} {G : List SB} {w : World} (h : St w0 M H0 ρ H G w) (e : Nat) (hw : (G.take e).all (SB.wf e) = true) : St w0 M H0 (ρ.take e) H (G.take e) w := by
  have hb : ∀ k g, blkAt (ρ.take e) (G.take e) k = some g → blkAt ρ G k = some g := fun k g hg => by
    obtain ⟨s, r, h1, h2, h3⟩ := blkAt_some hg
    rw [List.getElem?_take] at h1 h2
    split at h1
    · rename_i hk
      rw [if_pos hk] at h2
      rw [blkAt_eq h1 h2]; exact h3
    · cases h1
  refine ⟨h.os, h.tape, h.output, h.size, h.old, h.hle, h.hin, h.hnew, by simp [h.len], ?_, fun k g hg => h.own k g (hb k g hg), fun i j g hi hj => h.inj i j g (hb i g hi) (hb j g hj)⟩
  intro k s r h1 h2
  have hws : s.wf e = true := List.all_eq_true.1 hw _ (List.mem_of_getElem? h1)
  rw [List.getElem?_take] at h1 h2
  split at h1
  · rename_i hk
    rw [if_pos hk] at h2
    have hok := h.ok k s r h1 h2
    cases s with
    | box t cs => obtain ⟨g, ys, e1, e2, e3⟩ := hok; exact ⟨g, ys, e1, e2, all2_cut (fun _ _ => SC.Is.cut) hws e3⟩
    | _ => exact hok
  · cases h1
theorem results_eq (fn : Func) (tmps : Array Value) : results fn tmps = (do
    let vs ← fn.results.mapM (resOne tmps)
    pure (if h : vs.size = 1 then vs[0] else .tuple vs)) := by
  unfold results
  congr 1
def packR : List Value → Value
  | [v] => v
  | ys => .tuple ys.toArray
theorem run_results {fn : Func} {tmps : Array Value} {w : World} {ys : List Value} (h : (fn.results.toList.mapM (resOne tmps)).run P w = .ok ys w) :
    (results fn tmps).run P w = .ok (packR ys) w := by
  rw [results_eq]
  simp only [Array.mapM_eq_mapM_toList, Sem.run_bind, Sem.run_map, h, Result.andThen_ok]
  match ys with
  | [] => simp [packR]
  | [v] => simp [packR]
  | _ :: _ :: _ => simp [packR]
theorem one_ok {l : List SG} {K : SV → Prop} (h : endK.one l K) : ∃ sv, K sv ∧ ∀ ρ ys, All2 (SG.Is ρ) l ys → sv.Is ρ (packR ys) := by
  unfold endK.one at h
  split at h
  · refine ⟨_, h, fun ρ ys hy => ?_⟩
    cases hy with | cons h1 h2 => cases h2; exact h1
  · rename_i l hl
    refine ⟨_, h, fun ρ ys hy => ⟨ys, ?_, hy⟩⟩
    match ys with
    | [] => rfl
    | [v] => cases hy with | cons h1 h2 => cases h2; exact absurd rfl (hl _)
    | _ :: _ :: _ => rfl
/-- The frame at a function's begin. -/
def startF : Nat → List SV → Fr
  | _, [] => []
  | i, v :: r => (i, v) :: startF (i + 1) r
theorem startF_mem {i : Nat} {svs : List SV} {j : Nat} {sv : SV} (h : (j, sv) ∈ startF i svs) : ∃ k, j = i + k ∧ svs[k]? = some sv := by
  induction svs generalizing i with
  | nil => simp [startF] at h
  | cons v r ih =>
    rcases List.mem_cons.1 h with h | h
    · injection h with h1 h2; subst h1 h2; exact ⟨0, rfl, rfl⟩
    · obtain ⟨k, h1, h2⟩ := ih h; exact ⟨k + 1, by omega, by simpa using h2⟩
/-- **A call, out of the walk of the function's body.** -/
theorem CallO.of_bodyW {T : Tab} (hT : TabOk P T) {f : FuncId} {fn : Func} {c : Code} (hf : P.funcs[f]? = some fn) (hb : fn.body = some c) {svs : List SV} {nt : Nat} (hn : fn.ntmps = nt) (hl : Nat.ble svs.length nt = true) {H : Hp} {G : List SB} {K : SE → Hp → List SB → Prop}
    (h : W P nt G.length .none c (endK P T G.length fn.results.toList K) (startF 0 svs) H G) : CallO P f svs H G K := by
  intro w0 M hgd H0 ρ w vs hs hv
  refine calls_of_wp hf hb ?_
  have hvl := hv.length
  have hle : svs.length ≤ nt := by simpa using hl
  have hsize : (vs.toArray ++ Array.replicate (fn.ntmps - vs.toArray.size) undef).size = nt := by simp; omega
  refine wp_mono (h w0 M hgd H0 ρ ⟨vs.toArray ++ Array.replicate (fn.ntmps - vs.toArray.size) undef, []⟩ w hs ?_ (Pin.on_none.2 rfl) hsize) fun e a w' he => ?_
  · intro i sv hm
    obtain ⟨k, rfl, hk⟩ := startF_mem hm
    obtain ⟨v, h1, h2⟩ := hv.get hk
    refine ⟨v, ?_, h2⟩
    have hkl := (List.getElem?_eq_some_iff.1 h1).1
    rw [Nat.zero_add, Array.getElem?_append_left (by simpa using hkl)]
    simpa using h1
  · have up : ∀ {ρ' : List Value}, PreE G.length ρ ρ' → Pre ρ ρ' := fun h k r hk => h k r (by rw [← hs.len]; exact (List.getElem?_eq_some_iff.1 hk).1) hk
    have fin : (Pin.none.On a ∧ a.tmps.size = nt ∧ ∃ F' ρ' H' G', St w0 M H0 ρ' H' G' w' ∧ PreE G.length ρ ρ' ∧ FOk ρ' F' a.tmps ∧ H.Le H' ∧ resX P T fn.results.toList F' H' G' fun l => endK.one l (fun v => trimX G.length v G' fun G2 => K (.ret v) H' G2)) →
        a.defers = [] ∧ ∃ v, (results fn a.tmps).run P w' = .ok v w' ∧ ∃ sv ρ' H' G', St w0 M H0 ρ' H' G' w' ∧ Pre ρ ρ' ∧ sv.Is ρ' v ∧ H.Le H' ∧ K (.ret sv) H' G' := by
      rintro ⟨hd, _, F', ρ', H', G', h1, hq, h2, h3, h4⟩
      obtain ⟨l, h4, hl⟩ := resX_ok hT h4
      obtain ⟨sv, h4, hsv⟩ := one_ok h4
      obtain ⟨ys, h5, h6⟩ := hl ρ' a w' h1.sw h2
      refine ⟨Pin.on_none.1 hd, _, run_results h5, ?_⟩
      unfold trimX at h4
      split at h4
      · rename_i hw
        simp only [Bool.and_eq_true] at hw
        obtain ⟨hw1, hw2, hw3⟩ := hw
        have hw3 : G.length ≤ G'.length := by simpa using hw3
        refine ⟨sv, ρ'.take G.length, H', G'.take G.length, h1.cut _ hw2, fun k r hk => ?_, (hsv ρ' ys h6).cut hw1, h3, h4⟩
        rw [List.getElem?_take_of_lt (by rw [← hs.len]; exact (List.getElem?_eq_some_iff.1 hk).1)]
        exact up hq k r hk
      · exact ⟨sv, ρ', H', G', h1, up hq, hsv ρ' ys h6, h3, h4⟩
    cases e with
    | normal => exact fin he
    | ret => exact fin he
    | panic ch =>
      obtain ⟨hd, ρ', H', G', h1, h2, h3, h4⟩ := he
      refine ⟨Pin.on_none.1 hd, ?_⟩
      have h4 : trimX G.length (.tu []) G' fun G2 => K (.pan ch) H' G2 := h4
      unfold trimX at h4
      split at h4
      · rename_i hw
        simp only [Bool.and_eq_true] at hw
        obtain ⟨hw1, hw2, hw3⟩ := hw
        refine ⟨ρ'.take G.length, H', G'.take G.length, h1.cut _ hw2, fun k r hk => ?_, h3, h4⟩
        rw [List.getElem?_take_of_lt (by rw [← hs.len]; exact (List.getElem?_eq_some_iff.1 hk).1)]
        exact up h2 k r hk
      · exact ⟨ρ', H', G', h1, up h2, h3, h4⟩
    | outgrown => exact he.elim
    | exit id => obtain ⟨_, _, _, _, _, _, _, _, _, _, h5⟩ := he; exact h5.elim
    | goto l => obtain ⟨_, _, _, _, _, _, _, _, _, _, h5⟩ := he; exact h5.elim
/-- The same, laid open by reduction. -/
theorem CallO.of_body {T : Tab} (hT : TabOk P T) {f : FuncId} {fn : Func} {c : Code} (hf : P.funcs[f]? = some fn) (hb : fn.body = some c) {svs : List SV} {nt : Nat} (hn : fn.ntmps = nt) (hl : Nat.ble svs.length nt = true) {H : Hp} {G : List SB} {K : SE → Hp → List SB → Prop}
    (h : codeX P T nt G.length .none c (endK P T G.length fn.results.toList K) (startF 0 svs) H G) : CallO P f svs H G K :=
  CallO.of_bodyW hT hf hb hn hl (codeX_ok hT c h)
end
end Go.Kx
