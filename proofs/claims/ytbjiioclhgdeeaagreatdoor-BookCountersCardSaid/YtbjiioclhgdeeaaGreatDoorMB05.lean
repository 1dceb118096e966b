/- The walk of a function's code: regions, branches, blocks, loops, returns; what a call comes to. Generic in the program; no condition of its own. -/
import Derived.Test.YtbjiioclhgdeeaaGreatDoorMB04
import Derived.OrdersHeld
import Derived.LoopN
import Derived.ScopeJumps
namespace Go.Kx
open Go.RowKit

abbrev KT := Exit → Fr → Hp → List SB → Prop

def PreE (e : Nat) (ρ ρ' : List Value) : Prop := ∀ (k : Nat) (r : Value), k < e → ρ[k]? = some r → ρ'[k]? = some r
theorem Pre.toE {e : Nat} {ρ ρ' : List Value} (h : Pre ρ ρ') : PreE e ρ ρ' := fun k r _ hk => h k r hk
theorem PreE.trans {e : Nat} {a b c : List Value} (h : PreE e a b) (h' : PreE e b c) : PreE e a c := fun k r hk e1 => h' k r hk (h k r hk e1)
theorem PreE.refl (e : Nat) (a : List Value) : PreE e a a := fun _ _ _ h => h
structure Pin where
 ds : List Deferred
 ps : List Nat
 vs : Nat → Option Value
def Pin.none : Pin := ⟨[], [], fun _ => Option.none⟩
def Pin.On (D : Pin) (a : Act) : Prop := a.defers = D.ds ∧ ∀ i ∈ D.ps, a.tmps[i]? = D.vs i
theorem Pin.on_none {a : Act} : Pin.none.On a ↔ a.defers = [] := ⟨fun h => h.1, fun h => ⟨h, fun i hi => by simp [Pin.none] at hi⟩⟩
theorem Pin.On.put {D : Pin} {a : Act} (h : D.On a) {dst : Option Tmp} (hd : ∀ d, dst = some d → d ∉ D.ps) (v : Value) : D.On (a.put dst v) := by
 cases dst with
 | none => exact h
 | some d =>
  refine ⟨h.1, fun i hi => ?_⟩
  have hne : d ≠ i := fun e => hd d rfl (e ▸ hi)
  simp only [Act.put]
  rw [Array.getElem?_setIfInBounds_ne hne]
  exact h.2 i hi
theorem Pin.On.unput {D : Pin} {a : Act} {dst : Option Tmp} (hd : ∀ d, dst = some d → d ∉ D.ps) {v : Value} (h : D.On (a.put dst v)) : D.On a := by
 cases dst with
 | none => exact h
 | some d =>
  refine ⟨h.1, fun i hi => ?_⟩
  have hne : d ≠ i := fun e => hd d rfl (e ▸ hi)
  have := h.2 i hi
  simp only [Act.put] at this
  rw [Array.getElem?_setIfInBounds_ne hne] at this
  exact this
def PostX (n e : Nat) (D : Pin) (w0 : World) (M : Nat → Prop) (H0 : Hp) (ρ : List Value) (H : Hp) (K : KT) : Exit → Act → World → Prop
 | .panic ch, a, w => D.On a ∧ ∃ ρ' H' G', St w0 M H0 ρ' H' G' w ∧ PreE e ρ ρ' ∧ H.Le H' ∧ K (.panic ch) [] H' G'
 | .outgrown, _, _ => False
 | x, a, w => D.On a ∧ a.tmps.size = n ∧ ∃ F' ρ' H' G', St w0 M H0 ρ' H' G' w ∧ PreE e ρ ρ' ∧ FOk ρ' F' a.tmps ∧ H.Le H' ∧ K x F' H' G'
def W (P : Program) (n e : Nat) (D : Pin) (c : Code) (K : KT) (F : Fr) (H : Hp) (G : List SB) : Prop :=
 ∀ (w0 : World) (M : Nat → Prop) (_ : Gd w0 M) (H0 : Hp) (ρ : List Value) (a : Act) (w : World), St w0 M H0 ρ H G w → FOk ρ F a.tmps → D.On a → a.tmps.size = n → c.wp P (PostX n e D w0 M H0 ρ H K) a w

structure WS (P : Program) (n e : Nat) (D : Pin) (c : Code) (K : KT) (F : Fr) (H : Hp) (G : List SB) : Prop where of ::
 to : W P n e D c K F H G

section
variable {P : Program} {n e : Nat} {D : Pin}
theorem PostX.le {w0 : World} {M : Nat → Prop} {H0 H H1 : Hp} {ρ ρ1 : List Value} {K : KT} (hp : PreE e ρ ρ1) (hle : H.Le H1) : ∀ x a w, PostX n e D w0 M H0 ρ1 H1 K x a w → PostX n e D w0 M H0 ρ H K x a w := by
 intro x a w h
 cases x <;> first
  | exact h.elim
  | (obtain ⟨h1, ρ', H', G', h2, hq, h3, h4⟩ := h; exact ⟨h1, ρ', H', G', h2, hp.trans hq, hle.trans h3, h4⟩)
  | (obtain ⟨h1, h0, F', ρ', H', G', h2, hq, h3, h4, h5⟩ := h; exact ⟨h1, h0, F', ρ', H', G', h2, hp.trans hq, h3, hle.trans h4, h5⟩)
theorem W.mono {c : Code} {K K' : KT} {F : Fr} {H : Hp} {G : List SB} (h : W P n e D c K F H G) (hk : ∀ x F' H' G', H.Le H' → K x F' H' G' → K' x F' H' G') : W P n e D c K' F H G := by
 intro w0 M hgd H0 ρ a w hs hf hd hn
 refine wp_mono (h w0 M hgd H0 ρ a w hs hf hd hn) fun x a w he => ?_
 cases x <;> first
  | exact he.elim
  | (obtain ⟨h1, ρ', H', G', h2, hq, h3, h4⟩ := he; exact ⟨h1, ρ', H', G', h2, hq, h3, hk _ _ _ _ h3 h4⟩)
  | (obtain ⟨h1, h0, F', ρ', H', G', h2, hq, h3, h4, h5⟩ := he; exact ⟨h1, h0, F', ρ', H', G', h2, hq, h3, h4, hk _ _ _ _ h4 h5⟩)

def putX (n : Nat) (ps : List Nat) (dst : Option Tmp) (F : Fr) (v : SV) (K : Fr → Prop) : Prop :=
 match dst with
 | none => K F
 | some d => match Nat.blt d n with
  | true => match ps.any (Nat.beq d) with
   | true => False
   | false => eraX F d fun F' => K ((d, v) :: F')
  | false => False
where eraX : Fr → Nat → (Fr → Prop) → Prop
 | [], _, K => K []
 | (j, v) :: r, i, K => match Nat.beq j i with
  | true => eraX r i K
  | false => eraX r i fun l => K ((j, v) :: l)
theorem eraX_ok {F : Fr} {i : Nat} {K : Fr → Prop} (h : putX.eraX F i K) : K (eraseF F i) := by
 induction F generalizing K with
 | nil => exact h
 | cons x r ih =>
  obtain ⟨j, v⟩ := x
  unfold putX.eraX at h
  split at h
  ·rename_i hj
   have : j = i := Nat.eq_of_beq_eq_true hj
   unfold eraseF
   rw [if_pos this]; exact ih h
  ·rename_i hj
   have : ¬ j = i := fun e => by rw [e, Nat.beq_refl] at hj; cases hj
   unfold eraseF
   rw [if_neg this]; exact ih h
theorem putX_ok {ps : List Nat} {dst : Option Tmp} {F : Fr} {v : SV} {K : Fr → Prop} (h : putX n ps dst F v K) : ∃ F', K F' ∧ (∀ d, dst = some d → d ∉ ps) ∧ ∀ ρ (a : Act) (y : Value), a.tmps.size = n → FOk ρ F a.tmps → v.Is ρ y → FOk ρ F' (a.put dst y).tmps := by
 cases dst with
 | none => exact ⟨_, h, fun d e => (nomatch e), fun ρ a y _ hf _ => hf⟩
 | some d =>
  unfold putX at h
  simp only at h
  split at h
  ·rename_i hd
   split at h
   ·exact h.elim
   ·rename_i hp
    refine ⟨(d, v) :: eraseF F d, eraX_ok (K := fun F' => K ((d, v) :: F')) h, fun d' e hm => ?_, fun ρ a y hn hf hv => hf.put (by rw [hn]; simpa using hd) hv⟩
    injection e with e
    subst e
    have := List.any_eq_false.1 hp d hm
    simp at this
  ·exact h.elim
theorem put_size (a : Act) (dst : Option Tmp) (v : Value) : (a.put dst v).tmps.size = a.tmps.size := by cases dst <;> simp [Act.put]
theorem put_defers (a : Act) (dst : Option Tmp) (v : Value) : (a.put dst v).defers = a.defers := by cases dst <;> rfl

def br (t : Bool) (A B : Prop) : Prop :=
 match t with
 | true => A
 | false => B
theorem br.of {t : Bool} {A B : Prop} (h1 : t = true → A) (h2 : t = false → B) : br t A B := by cases t <;> first | exact h1 rfl | exact h2 rfl
def guards (ops : List Oper) (i : Nat) : Bool :=
 match ops with
 | [] => false
 | o :: r => match o.guard with
  | some (j, _) => match Nat.beq j i with
   | true => true
   | false => guards r i
  | none => guards r i
def partBool (b : Bool) (sv : SV) (K : SV → Prop) : Prop :=
 match b with
 | false => K sv
 | true => match sv with
  | .si (.ce (.val (.bool t))) => br t (K (.si (.ce (.val (.bool true))))) (K (.si (.ce (.val (.bool false)))))
  | _ => False
theorem partBool_ok {b : Bool} {sv : SV} {K : SV → Prop} (h : partBool b sv K) : ∃ sv', K sv' ∧ ∀ ρ v, sv.Is ρ v → sv'.Is ρ v := by
 unfold partBool at h
 split at h
 ·exact ⟨sv, h, fun _ _ h => h⟩
 ·split at h
  ·rename_i t
   cases t with
   | true => exact ⟨_, h, fun _ _ h => h⟩
   | false => exact ⟨_, h, fun _ _ h => h⟩
  ·exact h.elim
def wantB (want : Bool) (K : Bool → Prop) (sv : SV) : Prop :=
 match sv with
 | .si (.ce (.val v)) => match v with
  | .bool t => match t with
   | true => K want
   | false => K (!want)
  | .tuple _ => K false
  | _ => False
 | _ => False
theorem wantB_ok {want : Bool} {K : Bool → Prop} {sv : SV} (h : wantB want K sv) : ∃ b, K b ∧ ∀ ρ v, sv.Is ρ v → ((match some v with
  | some (.bool b) => some b
  | _ => none) == some want) = b := by
 unfold wantB at h
 split at h
 ·split at h
  ·split at h
   ·exact ⟨want, h, fun ρ v hv => by obtain rfl : v = _ := hv; cases want <;> rfl⟩
   ·exact ⟨!want, h, fun ρ v hv => by obtain rfl : v = _ := hv; cases want <;> rfl⟩
  ·exact ⟨false, h, fun ρ v hv => by obtain rfl : v = _ := hv; cases want <;> rfl⟩
  ·exact h.elim
 ·exact h.elim
def wantX (ops : List Oper) (F : Fr) (g : Option (Nat × Bool)) (K : Bool → Prop) : Prop :=
 match g with
 | none => K true
 | some (j, want) => nthDst ops j fun d => getX F d fun sv => wantB want K sv
where nthDst : List Oper → Nat → (Nat → Prop) → Prop
 | [], _, _ => False
 | o :: _, 0, K => match o.dst with
  | some d => K d
  | none => False
 | _ :: r, j + 1, K => nthDst r j K
theorem nthDst_ok {ops : List Oper} {j : Nat} {K : Nat → Prop} (h : wantX.nthDst ops j K) : ∃ o d, ops[j]? = some o ∧ o.dst = some d ∧ K d := by
 induction ops generalizing j with
 | nil => exact h.elim
 | cons o r ih =>
  cases j with
  | zero =>
   unfold wantX.nthDst at h
   split at h
   ·rename_i d hd; exact ⟨o, d, rfl, hd, h⟩
   ·exact h.elim
  | succ j => obtain ⟨o', d, h1, h2, h3⟩ := ih h; exact ⟨o', d, by simpa using h1, h2, h3⟩
theorem wantX_ok {ops : Array Oper} {F : Fr} {o : Oper} {K : Bool → Prop} (h : wantX ops.toList F o.guard K) : ∃ b, K b ∧ ∀ ρ (a : Act), FOk ρ F a.tmps → Region.wanted o (yielded ops a.tmps) = b := by
 unfold wantX at h
 unfold Region.wanted
 split at h
 ·rename_i hg
  exact ⟨true, h, fun ρ a _ => by rw [hg]⟩
 ·rename_i j want hg
  obtain ⟨o', d, h1, h2, h⟩ := nthDst_ok h
  obtain ⟨sv, h3, h⟩ := getX_ok h
  obtain ⟨b, h, hb⟩ := wantB_ok h
  have h1' : ops[j]? = some o' := by simpa using h1
  refine ⟨b, h, fun ρ a hf => ?_⟩
  obtain ⟨v, h4, h5⟩ := hf d _ h3
  have := hb ρ v h5
  rw [hg]
  simp only [yielded, h1', h2, Option.bind_some, h4]
  exact this

def opX (P : Program) (T : Tab) (o : Oper) (F : Fr) (H : Hp) (G : List SB) (K : SV → Hp → List SB → Prop) (Kp : List PanicEntry → Hp → List SB → Prop) : Prop :=
 match o.op with
 | .alloc t => allocX T t G fun sv G' => K sv H G'
 | .box t x => evX x F fun sv => boxX t sv G fun sv G' => K sv H G'
 | .store t x y => evX x F fun sx => evX y F fun sy => cellX sx fun c => storeX T t c sy G fun G' => K (pv undef) H G'
 | .buildSlice t len parts => buildSliceX T t len parts.toList F H G K
 | .call c => match c.callee with
  | .value f => evX f F fun fv => evL c.args.toList F fun l => callX P fv l H G K Kp
  | .builtin b => match b with
   | .len => opQ P T o F H G fun sv => K sv H G
   | .max => opQ P T o F H G fun sv => K sv H G
   | .min => opQ P T o F H G fun sv => K sv H G
   | .append => match c.args.toList with
    | [s, x] => match c.argTypes.toList with
     | [t, tx] => evX s F fun ss => evX x F fun sx => appX T t tx ss sx H G fun sv G' => K sv H G'
     | _ => LO P o F H G K Kp
    | _ => LO P o F H G K Kp
   | .copy => match c.args.toList with
    | [s, x] => match c.argTypes.toList with
     | [t, tx] => evX s F fun ss => evX x F fun sx => copyX T t tx ss sx H G fun sv G' => K sv H G'
     | _ => LO P o F H G K Kp
    | _ => LO P o F H G K Kp
   | .unsafeSliceData => match c.args.toList with
    | [s] => evX s F fun ss => sdX T o.type ss G fun sv => K sv H G
    | _ => LO P o F H G K Kp
   | .unsafeString => match c.args.toList with
    | [p, n] => match c.argTypes.toList with
     | [pt, _] => evX p F fun sp => evX n F fun sn => usX T pt sp sn G fun sv G' => K sv H G'
     | _ => LO P o F H G K Kp
    | _ => LO P o F H G K Kp
   | .delete => match c.args.toList with
    | [m, k] => match c.argTypes.toList with
     | [t, _] => evX m F fun sm => evX k F fun sk => delX T t sm sk G fun G' => K (.tu []) H G'
     | _ => LO P o F H G K Kp
    | _ => LO P o F H G K Kp
   | _ => LO P o F H G K Kp
  | _ => LO P o F H G K Kp
 | .lookup t m k ok => evX m F fun sm => evX k F fun sk => orEnt sm G (LO P o F H G K Kp) (lookX T t sm sk ok G fun sv => K sv H G)
 | .makeMap t r => match r with
  | none => makeMapX T t G fun sv G' => K sv H G'
  | some _ => LO P o F H G K Kp
 | .mapUpdate t m k x => evX m F fun sm => evX k F fun sk => evX x F fun sv => orPtr sv (LO P o F H G K Kp) (updX T t sm sk sv G fun G' => K (pv undef) H G')
 | .makeSlice t l c => evX l F fun sl => evX c F fun sc => mkX T t sl sc G fun sv G' => K sv H G'
 | .slice t x lo hi mx => sliceOpX P T o t x lo hi mx F H G K
 | .convert s d x => convOpX P T o s d x F H G K (LO P o F H G K Kp)
 | .typeAssert x _ t ok => evX x F fun sx => taX T t ok sx fun sv => K sv H G
 | .panic x => evX x F fun sx => panX sx fun ch => Kp ch H G
 | .makeChan .. | .mapEntry .. | .entryStore .. | .range .. | .next .. | .entry .. | .insert .. | .defer .. | .go .. | .send .. | .recv .. | .select .. | .ready .. | .waits .. | .sliceToArrayPointer .. => LO P o F H G K Kp
 | _ => opQ P T o F H G fun sv => K sv H G
theorem opX_ok {T : Tab} (hT : TabOk P T) {o : Oper} {F : Fr} {H : Hp} {G : List SB} {K : SV → Hp → List SB → Prop} {Kp : List PanicEntry → Hp → List SB → Prop} (h : opX P T o F H G K Kp) : LO P o F H G K Kp := by
 unfold opX at h
 split at h
 ·rename_i ho; exact allocX_ok hT ho h
 ·rename_i ho; exact boxX_ok ho h
 ·rename_i ho; exact storeX_ok hT ho h
 ·rename_i ho; exact buildSliceX_ok hT ho h
 ·rename_i c ho
  obtain ⟨callee, args, ts⟩ := c
  cases callee with
  | value f => exact callX_ok ho h
  | builtin b =>
   cases b
   case append =>
    simp only at h
    split at h
    ·rename_i s x ha
     split at h
     ·rename_i t tx hb
      have ha' : args = #[s, x] := by rw [← ha]
      have hb' : ts = #[t, tx] := by rw [← hb]
      subst ha' hb'
      exact appX_ok hT ho h
     ·exact h
    ·exact h
   case copy =>
    simp only at h
    split at h
    ·rename_i s x ha
     split at h
     ·rename_i t tx hb
      have ha' : args = #[s, x] := by rw [← ha]
      have hb' : ts = #[t, tx] := by rw [← hb]
      subst ha' hb'
      exact copyX_ok hT ho h
     ·exact h
    ·exact h
   case unsafeSliceData =>
    simp only at h
    split at h
    ·rename_i s ha
     have ha' : args = #[s] := by rw [← ha]
     subst ha'
     exact sdX_ok hT ho h
    ·exact h
   case unsafeString =>
    simp only at h
    split at h
    ·rename_i p n ha
     split at h
     ·rename_i pt it hb
      have ha' : args = #[p, n] := by rw [← ha]
      have hb' : ts = #[pt, it] := by rw [← hb]
      subst ha' hb'
      exact usX_ok hT ho h
     ·exact h
    ·exact h
   case delete =>
    simp only at h
    split at h
    ·rename_i m k ha
     split at h
     ·rename_i t tx hb
      have ha' : args = #[m, k] := by rw [← ha]
      have hb' : ts = #[t, tx] := by rw [← hb]
      subst ha' hb'
      exact delX_ok hT ho h
     ·exact h
    ·exact h
   all_goals first | exact h | exact LO.of_quiet (opQ_ok hT h)
  | invoke r m => exact h
 ·rename_i ho; exact look2_ok hT ho h
 ·rename_i t r ho
  split at h
  ·exact makeMapX_ok hT ho h
  ·exact h
 ·rename_i ho; exact upd2_ok hT ho h
 ·rename_i ho; exact mkX_ok hT ho h
 ·rename_i ho; exact sliceOpX_ok hT ho h
 ·rename_i ho; exact convOpX_ok hT ho h
 ·rename_i ho; exact LO.of_quiet (taX_ok hT ho h)
 ·rename_i ho; exact panX_ok ho h
 all_goals first | exact h | exact LO.of_quiet (opQ_ok hT h)

theorem upon_mono {o : Oper} {a : Act} {next next' : Act → World → Prop} {Q Q' : Exit → Act → World → Prop} (hn : ∀ a w, next a w → next' a w) (hq : ∀ e a w, Q e a w → Q' e a w) {r : Result Next} (h : o.upon P a next Q r) : o.upon P a next' Q' r := by
 unfold Oper.upon at *
 split <;> simp_all
 ·rename_i f args w'
  refine h.mono fun e w'' he => ?_
  cases e with
  | returned v => exact hn _ _ he
  | panicked ch => exact hq _ _ _ he
  | outgrown => obtain ⟨a0, w0, h0⟩ := he; exact ⟨a0, w0, hq _ _ _ h0⟩
 ·exact h.mono fun v w'' he => hn _ _ he
theorem wpOps_mono {ops : Array Oper} {Q Q' : Exit → Act → World → Prop} (hq : ∀ e a w, Q e a w → Q' e a w) : ∀ (l : List Nat) (a : Act) (w : World), wpOps P ops Q l a w → wpOps P ops Q' l a w
 | [], a, w, h => hq _ _ _ h
 | i :: l, a, w, h => by
  simp only [wpOps] at *
  split
  ·rename_i ho
   rw [ho] at h
   exact wpOps_mono hq l a w h
  ·rename_i o ho
   rw [ho] at h
   simp only at h
   split
   ·rename_i hw
    rw [if_pos hw] at h
    rcases h with h | ⟨h1, a0, w0, h2⟩
    ·exact .inl (upon_mono (fun a w => wpOps_mono hq l a w) hq h)
    ·exact .inr ⟨h1, a0, w0, hq _ _ _ h2⟩
   ·rename_i hw
    rw [if_neg hw] at h
    exact wpOps_mono hq l _ w h

def opsX (P : Program) (T : Tab) (n : Nat) (ps : List Nat) (ops : List Oper) (Kp : List PanicEntry → Hp → List SB → Prop) (i : Nat) (l : List Oper) (F : Fr) (H : Hp) (G : List SB) (K : Fr → Hp → List SB → Prop) : Prop :=
 @List.rec Oper (fun _ => Nat → Fr → Hp → List SB → (Fr → Hp → List SB → Prop) → Prop) (fun _ F H G K => K F H G)
  (fun o _ ih i F H G K => wantX ops F o.guard fun b => match b with
   | true => opX P T o F H G (fun sv H' G' => partBool (guards ops i) sv fun sv => putX n ps o.dst F sv fun F' => ih (i + 1) F' H' G' K) Kp
   | false => putX n ps o.dst F (pv undef) fun F' => ih (i + 1) F' H G K) l i F H G K
theorem opsX_cons {P : Program} {T : Tab} {n : Nat} {ps : List Nat} {ops : List Oper} {Kp : List PanicEntry → Hp → List SB → Prop} {i : Nat} {o : Oper} {r : List Oper} {F : Fr} {H : Hp} {G : List SB} {K : Fr → Hp → List SB → Prop} :
  opsX P T n ps ops Kp i (o :: r) F H G K = (wantX ops F o.guard fun b => match b with
   | true => opX P T o F H G (fun sv H' G' => partBool (guards ops i) sv fun sv => putX n ps o.dst F sv fun F' => opsX P T n ps ops Kp (i + 1) r F' H' G' K) Kp
   | false => putX n ps o.dst F (pv undef) fun F' => opsX P T n ps ops Kp (i + 1) r F' H G K) := rfl
theorem opsX_ok {T : Tab} (hT : TabOk P T) {ops : Array Oper} {K : KT} : ∀ (r : List Oper) (i : Nat) (F : Fr) (H : Hp) (G : List SB), (∀ j, r[j]? = ops[i + j]?) → opsX P T n D.ps ops.toList (fun ch H' G' => K (.panic ch) [] H' G') i r F H G (fun F' H' G' => K .normal F' H' G') →
  ∀ (w0 : World) (M : Nat → Prop) (_ : Gd w0 M) (H0 : Hp) (ρ : List Value) (a : Act) (w : World), St w0 M H0 ρ H G w → FOk ρ F a.tmps → D.On a → a.tmps.size = n →
   wpOps P ops (PostX n e D w0 M H0 ρ H K) ((List.range ops.size).drop i) a w
 | [], i, F, H, G, hr, h, w0, M, hgd, H0, ρ, a, w, hs, hf, hd, hn => by
  have hsz : ops.size ≤ i := by
   have := hr 0
   simp at this
   exact this
  rw [List.drop_of_length_le (by simpa using hsz)]
  exact ⟨hd, hn, F, ρ, H, G, hs, .refl _ _, hf, .refl _, h⟩
 | o :: r, i, F, H, G, hr, h, w0, M, hgd, H0, ρ, a, w, hs, hf, hd, hn => by
  have ho : ops[i]? = some o := by have := hr 0; simpa using this.symm
  have hi : i < ops.size := (Array.getElem?_eq_some_iff.1 ho).1
  have hl : (List.range ops.size).drop i = i :: (List.range ops.size).drop (i + 1) := by
   rw [List.drop_eq_getElem_cons (by simpa using hi)]; simp
  have hr' : ∀ j, r[j]? = ops[i + 1 + j]? := fun j => by have := hr (j + 1); simp at this; rw [this]; congr 1; omega
  rw [opsX_cons] at h
  obtain ⟨b, h, hw⟩ := wantX_ok (ops := ops) h
  rw [hl]
  simp only [wpOps, ho]
  rw [hw ρ a hf]
  cases b with
  | true =>
   simp only [if_true]
   left
   refine upon_of_out (opX_ok hT h w0 M hgd H0 ρ a w hs hf) ?_ ?_
   ·rintro v w' ⟨sv, ρ', H', G', h1, h2, h3, h4, h5⟩
    obtain ⟨sv', h5, h6⟩ := partBool_ok h5
    obtain ⟨F', h5, h8, h7⟩ := putX_ok h5
    have hf' := h7 ρ' a v hn (hf.mono h2) (h6 ρ' v h3)
    have ih := opsX_ok hT r (i + 1) F' H' G' hr' h5 w0 M hgd H0 ρ' (a.put o.dst v) w' h1 hf' (hd.put h8 _) (by rw [put_size]; exact hn)
    exact wpOps_mono (PostX.le h2.toE h4) _ _ _ ih
   ·rintro ch w' ⟨ρ', H', G', h1, h2, h4, h5⟩
    exact ⟨hd, ρ', H', G', h1, h2.toE, h4, h5⟩
  | false =>
   simp only [Bool.false_eq_true, if_false]
   obtain ⟨F', h5, h8, h7⟩ := putX_ok h
   have hf' := h7 ρ a undef hn hf rfl
   exact opsX_ok hT r (i + 1) F' H G hr' h5 w0 M hgd H0 ρ (a.put o.dst undef) w hs hf' (hd.put h8 _) (by rw [put_size]; exact hn)

theorem W.region {T : Tab} (hT : TabOk P T) {id : Nat} {ops : Array Oper} {K : KT} {F : Fr} {H : Hp} {G : List SB}
  (h : opsX P T n D.ps ops.toList (fun ch H' G' => K (.panic ch) [] H' G') 0 ops.toList F H G (fun F' H' G' => K .normal F' H' G')) : W P n e D (.region id ops false) K F H G := by
 intro w0 M hgd H0 ρ a w hs hf hd hn
 refine wp_region ?_
 have := opsX_ok (e := e) hT ops.toList 0 F H G (fun j => by simp) h w0 M hgd H0 ρ a w hs hf hd hn
 simpa using this
def thenK (K1 : Fr → Hp → List SB → Prop) (K : KT) : KT
 | .normal, F, H, G => K1 F H G
 | e, F, H, G => K e F H G
def blockK (id : Nat) (K : KT) : KT
 | .exit j, F, H, G => match Nat.beq j id with
  | true => K .normal F H G
  | false => K (.exit j) F H G
 | e, F, H, G => K e F H G
theorem W.seq {x y : Code} {K : KT} {F : Fr} {H : Hp} {G : List SB} (h : W P n e D x (thenK (W P n e D y K) K) F H G) : W P n e D (.seq x y) K F H G := by
 intro w0 M hgd H0 ρ a w hs hf hd hn
 refine wp_seq (wp_mono (h w0 M hgd H0 ρ a w hs hf hd hn) fun xx a1 w1 he => ?_)
 cases xx with
 | normal =>
  obtain ⟨h1, h0, F', ρ', H', G', h2, hq, h3, h4, h5⟩ := he
  exact wp_mono (h5 w0 M hgd H0 ρ' a1 w1 h2 h3 h1 h0) (PostX.le hq h4)
 | _ => exact he
theorem W.block {id : Nat} {c : Code} {K : KT} {F : Fr} {H : Hp} {G : List SB} (h : W P n e D c (blockK id K) F H G) : W P n e D (.block id c) K F H G := by
 intro w0 M hgd H0 ρ a w hs hf hd hn
 refine wp_block (wp_mono (h w0 M hgd H0 ρ a w hs hf hd hn) fun xx a1 w1 he => ?_)
 cases xx with
 | exit j =>
  obtain ⟨h1, h0, F', ρ', H', G', h2, hq, h3, h4, h5⟩ := he
  simp only [blockK] at h5
  simp only [Exit.inBlock]
  split
  ·rename_i hj
   subst hj
   rw [Nat.beq_refl] at h5
   exact ⟨h1, h0, F', ρ', H', G', h2, hq, h3, h4, h5⟩
  ·rename_i hj
   have : Nat.beq j id = false := by
    cases hb : Nat.beq j id with
    | true => exact absurd (Nat.eq_of_beq_eq_true hb) hj
    | false => rfl
   rw [this] at h5
   exact ⟨h1, h0, F', ρ', H', G', h2, hq, h3, h4, h5⟩
 | _ => exact he
theorem W.skip {K : KT} {F : Fr} {H : Hp} {G : List SB} (h : K .normal F H G) : W P n e D .skip K F H G :=
 fun _ _ _ _ ρ _ _ hs hf hd hn => wp_skip ⟨hd, hn, F, ρ, H, G, hs, .refl _ _, hf, .refl _, h⟩
theorem W.exit {id : Nat} {K : KT} {F : Fr} {H : Hp} {G : List SB} (h : K (.exit id) F H G) : W P n e D (.exit id) K F H G :=
 fun _ _ _ _ ρ _ _ hs hf hd hn => wp_exit ⟨hd, hn, F, ρ, H, G, hs, .refl _ _, hf, .refl _, h⟩
theorem W.ret {K : KT} {F : Fr} {H : Hp} {G : List SB} (h : K .ret F H G) : W P n e D .ret K F H G :=
 fun _ _ _ _ ρ _ _ hs hf hd hn => wp_ret ⟨hd, hn, F, ρ, H, G, hs, .refl _ _, hf, .refl _, h⟩
theorem W.label {l : Nat} {K : KT} {F : Fr} {H : Hp} {G : List SB} (h : K .normal F H G) : W P n e D (.label l) K F H G :=
 fun _ _ _ _ ρ _ _ hs hf hd hn => wp_label ⟨hd, hn, F, ρ, H, G, hs, .refl _ _, hf, .refl _, h⟩
theorem W.goto {l : Nat} {K : KT} {F : Fr} {H : Hp} {G : List SB} (h : K (.goto l) F H G) : W P n e D (.goto l) K F H G :=
 fun _ _ _ _ ρ _ _ hs hf hd hn => wp_goto ⟨hd, hn, F, ρ, H, G, hs, .refl _ _, hf, .refl _, h⟩
theorem W.cond {c : Operand} {x y : Code} {K : KT} {F : Fr} {H : Hp} {G : List SB} (h : evX c F fun sv => boolX sv fun t => br t (W P n e D x K F H G) (W P n e D y K F H G)) : W P n e D (.cond c x y) K F H G := by
 intro w0 M hgd H0 ρ a w hs hf hd hn
 obtain ⟨sv, h, hx⟩ := evX_ok h
 obtain ⟨t, rfl, h⟩ := boolX_ok h
 refine wp_cond_split (t := t) (hx ρ a hf) (fun e => by subst e; exact h w0 M hgd H0 ρ a w hs hf hd hn) (fun e => by subst e; exact h w0 M hgd H0 ρ a w hs hf hd hn)

def codeX (P : Program) (T : Tab) (n e : Nat) (D : Pin) (c : Code) (K : KT) (F : Fr) (H : Hp) (G : List SB) : Prop :=
 @Code.rec (fun _ => KT → Fr → Hp → List SB → Prop)
  (fun K F H G => K .normal F H G)
  (fun id ops draw K F H G => match draw with
   | false => opsX P T n D.ps ops.toList (fun ch H' G' => K (.panic ch) [] H' G') 0 ops.toList F H G (fun F' H' G' => K .normal F' H' G')
   | true => WS P n e D (.region id ops true) K F H G)
  (fun _ _ ihx ihy K F H G => ihx (thenK (ihy K) K) F H G)
  (fun c _ _ ihx ihy K F H G => evX c F fun sv => boolX sv fun t => br t (ihx K F H G) (ihy K F H G))
  (fun id _ ih K F H G => ih (blockK id K) F H G)
  (fun c _ K F H G => WS P n e D (.loop c) K F H G)
  (fun f p a b _ _ K F H G => WS P n e D (.rangeFunc f p a b) K F H G)
  (fun id K F H G => K (.exit id) F H G)
  (fun c _ K F H G => WS P n e D (.scope c) K F H G)
  (fun _ K F H G => K .normal F H G)
  (fun l K F H G => K (.goto l) F H G)
  (fun K F H G => K .ret F H G)
  (fun m K F H G => WS P n e D (.refuse m) K F H G)
  c K F H G
theorem codeX_ok {T : Tab} (hT : TabOk P T) : ∀ (c : Code) {K : KT} {F : Fr} {H : Hp} {G : List SB}, codeX P T n e D c K F H G → W P n e D c K F H G
 | .skip, _, _, _, _, h => W.skip h
 | .region id ops draw, K, F, H, G, h => by
  cases draw with
  | false => exact W.region hT h
  | true => exact h.to
 | .seq x y, K, F, H, G, h => W.seq (W.mono (codeX_ok hT x h) fun xx F' H' G' _ he => by
   cases xx with
   | normal => exact codeX_ok hT y he
   | _ => exact he)
 | .cond c x y, K, F, H, G, h => by
  refine W.cond ?_
  have mono : ∀ {A B : SV → Prop}, (∀ s, A s → B s) → evX c F A → evX c F B := by
   intro A B hab hA
   cases c with
   | tmp t =>
    have : ∀ F : Fr, getX F t A → getX F t B := by
     intro F
     induction F with
     | nil => exact fun h => h
     | cons x r ih =>
      obtain ⟨j, v⟩ := x
      intro h
      unfold getX at h ⊢
      split
      ·rename_i hj; rw [hj] at h; exact hab _ h
      ·rename_i hj; rw [hj] at h; exact ih h
    exact this F hA
   | const v =>
    have hv : ∀ (l : List Value) {A B : List SC → Prop}, (∀ s, A s → B s) → valsX l A → valsX l B := by
     intro l
     induction l with
     | nil => intro A B hab h; exact hab _ h
     | cons v r ih => intro A B hab h; exact ih (fun s hs => hab _ hs) h
    cases v <;> first | exact hv _ (fun s hs => hab _ hs) hA | exact hab _ hA
   | global g => exact hab _ hA
   | func f => exact hab _ hA
  refine mono (fun s hs => ?_) h
  obtain ⟨t, rfl, h1⟩ := boolX_ok hs
  refine br.of (t := t) (fun e => ?_) (fun e => ?_) <;> subst e
  ·exact codeX_ok hT x h1
  ·exact codeX_ok hT y h1
 | .block id c, K, F, H, G, h => W.block (codeX_ok hT c h)
 | .exit id, _, _, _, _, h => W.exit h
 | .label _, _, _, _, _, h => W.label h
 | .goto l, _, _, _, _, h => W.goto h
 | .ret, _, _, _, _, h => W.ret h
 | .loop _, _, _, _, _, h => h.to
 | .rangeFunc .., _, _, _, _, h => h.to
 | .scope _, _, _, _, _, h => h.to
 | .refuse _, _, _, _, _, h => h.to

def resX (P : Program) (T : Tab) (rs : List ResultVar) (F : Fr) (H : Hp) (G : List SB) (K : List SG → Prop) : Prop :=
 match rs with
 | [] => K []
 | .tmp t :: r => getX F t fun sv => match sv with
  | .si g => resX P T r F H G fun l => K (g :: l)
  | _ => False
 | .cell ad t :: r => getX F ad fun sx => match sx with
  | .si (.ce (.ptr k off)) => tabX T t fun ti => loadX ti (.ptr k off) H G fun sv => match sv with
   | .si g => resX P T r F H G fun l => K (g :: l)
   | _ => False
  | _ => False

def resOne (tmps : Array Value) : ResultVar → Sem Value
 | .tmp t => pure (tmps.getD t undef)
 | .cell a t => do loadVar t (← asAddr (tmps.getD a undef))
theorem resX_ok {T : Tab} (hT : TabOk P T) : ∀ {rs : List ResultVar} {F : Fr} {H : Hp} {G : List SB} {K : List SG → Prop}, resX P T rs F H G K →
  ∃ l, K l ∧ ∀ ρ (a : Act) (w : World), Sw ρ H G w → FOk ρ F a.tmps → ∃ ys, (rs.mapM (resOne a.tmps)).run P w = .ok ys w ∧ All2 (SG.Is ρ) l ys
 | [], F, H, G, K, h => ⟨[], h, fun ρ a w _ _ => ⟨[], by simp, .nil⟩⟩
 | .tmp t :: r, F, H, G, K, h => by
  obtain ⟨sv, h1, h⟩ := getX_ok h
  cases sv with
  | si g =>
   obtain ⟨l, h, hl⟩ := resX_ok hT h
   refine ⟨_, h, fun ρ a w hw hf => ?_⟩
   obtain ⟨ys, h2, h3⟩ := hl ρ a w hw hf
   obtain ⟨v, h4, h5⟩ := hf t _ h1
   refine ⟨v :: ys, ?_, .cons h5 h3⟩
   simp only [List.mapM_cons, Sem.run_bind, resOne, Sem.run_pure, Result.andThen_ok, h2, Array.getD_eq_getD_getElem?, h4, Option.getD_some]
  | tu _ => exact h.elim
 | .cell ad t :: r, F, H, G, K, h => by
  obtain ⟨sx, h1, h⟩ := getX_ok h
  split at h
  ·rename_i k off
   obtain ⟨ti, ht, h⟩ := tabX_ok hT h
   obtain ⟨sv, h, hload⟩ := loadX_ok ht h
   cases sv with
   | si g =>
    obtain ⟨l, h, hl⟩ := resX_ok hT h
    refine ⟨_, h, fun ρ a w hw hf => ?_⟩
    obtain ⟨ys, h2, h3⟩ := hl ρ a w hw hf
    obtain ⟨p, h4, h5⟩ := hf ad _ h1
    obtain ⟨v, h6, h7⟩ := hload ρ w p hw h5
    have h8 := h7 w hw
    refine ⟨v :: ys, ?_, .cons h6 h3⟩
    have h9 : ∃ x : Addr, p = .pointer (some x) := by
     obtain ⟨r', _, hp⟩ := h5
     unfold ptrAt at hp
     split at hp <;> first | (injection hp with hp; exact ⟨_, hp.symm⟩) | cases hp
    obtain ⟨x, rfl⟩ := h9
    have h10 : (loadVar t x).run P w = .ok v w := by
     simp only [Instr.loadAt, Instr.sureAddr, pure_bind] at h8; exact h8
    simp only [List.mapM_cons, Sem.run_bind, resOne, Array.getD_eq_getD_getElem?, h4, Option.getD_some, asAddr, Sem.run_pure, Result.andThen_ok, h10, h2]
   | tu _ => exact h.elim
  ·exact h.elim
def trimX (e : Nat) (v : SV) (G : List SB) (K : List SB → Prop) : Prop :=
 match v.wf e && ((G.take e).all (SB.wf e) && Nat.ble e G.length) with
 | true => K (G.take e)
 | false => K G
def endK (P : Program) (T : Tab) (e : Nat) (rs : List ResultVar) (K : SE → Hp → List SB → Prop) : KT
 | .normal, F, H, G => resX P T rs F H G fun l => one l (fun v => trimX e v G fun G' => K (.ret v) H G')
 | .ret, F, H, G => resX P T rs F H G fun l => one l (fun v => trimX e v G fun G' => K (.ret v) H G')
 | .panic ch, _, H, G => trimX e (.tu []) G fun G' => K (.pan ch) H G'
 | _, _, _, _ => False
where one : List SG → (SV → Prop) → Prop
 | [g], K => K (.si g)
 | l, K => K (.tu l)
theorem SC.Is.cut {e : Nat} {ρ : List Value} {c : SC} {y : Value} (hw : c.wf e = true) (h : c.Is ρ y) : c.Is (ρ.take e) y := by
 have key : ∀ {k : Nat} {r : Value}, Nat.blt k e = true → ρ[k]? = some r → (ρ.take e)[k]? = some r := fun {k r} hk hr => by
  rw [List.getElem?_take_of_lt (by simpa using hk)]; exact hr
 cases c with
 | val x => exact h
 | ptr k off => obtain ⟨r, h1, h2⟩ := h; exact ⟨r, key hw h1, h2⟩
 | self k => exact key hw h
 | fn f n caps =>
  obtain ⟨ys, h1, h2⟩ := h
  refine ⟨ys, h1, ?_⟩
  have hw' : ∀ p ∈ caps, Nat.blt p.1 e = true := List.all_eq_true.1 hw
  clear h1 hw
  induction h2 with
  | nil => exact .nil
  | cons hx _ ih =>
   obtain ⟨r, hr, hp⟩ := hx
   exact .cons ⟨r, key (hw' _ List.mem_cons_self) hr, hp⟩ (ih fun p hp => hw' p (List.mem_cons_of_mem _ hp))
 | pp A off => exact h
 | cut k sz lo m => obtain ⟨r, h1, h2⟩ := h; exact ⟨r, key hw h1, h2⟩
 | any => trivial
theorem all2_cut {α : Type} {R S : α → Value → Prop} {p : α → Bool} (h : ∀ c y, p c = true → R c y → S c y) : ∀ {l : List α} {m : List Value}, l.all p = true → All2 R l m → All2 S l m
 | [], _, _, h2 => by cases h2; exact .nil
 | a :: l, _, hw, h2 => by
  simp only [List.all_cons, Bool.and_eq_true] at hw
  cases h2 with | cons h3 h4 => exact .cons (h _ _ hw.1 h3) (all2_cut h hw.2 h4)
theorem SG.Is.cut {e : Nat} {ρ : List Value} {c : SG} {y : Value} (hw : c.wf e = true) (h : c.Is ρ y) : c.Is (ρ.take e) y := by
 cases c with
 | ce x => exact SC.Is.cut hw h
 | ag xs => obtain ⟨ys, h1, h2⟩ := h; exact ⟨ys, h1, all2_cut (fun _ _ => SC.Is.cut) hw h2⟩
theorem SV.Is.cut {e : Nat} {ρ : List Value} {c : SV} {y : Value} (hw : c.wf e = true) (h : c.Is ρ y) : c.Is (ρ.take e) y := by
 cases c with
 | si x => exact SG.Is.cut hw h
 | tu xs => obtain ⟨ys, h1, h2⟩ := h; exact ⟨ys, h1, all2_cut (fun _ _ => SG.Is.cut) hw h2⟩
theorem ent_cut {e : Nat} {ρ : List Value} {l : List (Value × SC × Nat)} {m : List MapEntry} (hw : ∀ p ∈ l, p.2.1.wf e = true) (h : All2 (EntOne ρ) l m) : All2 (EntOne (ρ.take e)) l m := by
 induction h with
 | nil => exact .nil
 | cons hx _ ih => exact .cons ⟨hx.1, SC.Is.cut (hw _ List.mem_cons_self) hx.2.1, hx.2.2⟩ (ih fun p hp => hw p (List.mem_cons_of_mem _ hp))
theorem St.cut {w0 : World} {M : Nat → Prop} {H0 : Hp} {ρ : List Value} {H : Hp} {G : List SB} {w : World} (h : St w0 M H0 ρ H G w) (e : Nat) (hw : (G.take e).all (SB.wf e) = true) : St w0 M H0 (ρ.take e) H (G.take e) w := by
 have hb : ∀ k g, blkAt (ρ.take e) (G.take e) k = some g → blkAt ρ G k = some g := fun k g hg => by
  obtain ⟨s, r, h1, h2, h3⟩ := blkAt_some hg
  rw [List.getElem?_take] at h1 h2
  split at h1
  ·rename_i hk
   rw [if_pos hk] at h2
   rw [blkAt_eq h1 h2]; exact h3
  ·cases h1
 refine ⟨h.os, h.tape, h.output, h.size, h.old, h.hle, h.hin, h.hnew, by simp [h.len], ?_, fun k g hg => h.own k g (hb k g hg), fun i j g hi hj => h.inj i j g (hb i g hi) (hb j g hj)⟩
 intro k s r h1 h2
 have hws : s.wf e = true := List.all_eq_true.1 hw _ (List.mem_of_getElem? h1)
 rw [List.getElem?_take] at h1 h2
 split at h1
 ·rename_i hk
  rw [if_pos hk] at h2
  have hok := h.ok k s r h1 h2
  cases s with
  | box t cs => obtain ⟨g, ys, e1, e2, e3⟩ := hok; exact ⟨g, ys, e1, e2, all2_cut (fun _ _ => SC.Is.cut) hws e3⟩
  | ent d c l =>
   obtain ⟨g, es, e1, e2, e3, e4, e5⟩ := hok
   refine ⟨g, es, e1, e2, e3, e4, ?_⟩
   exact ent_cut (List.all_eq_true.1 hws) e5
  | itr j since seen last =>
   obtain ⟨g, m, e1, e2, e3⟩ := hok
   have hj : j < e := by simpa [SB.wf] using hws
   exact ⟨g, m, e1, by rw [List.getElem?_take, if_pos hj]; exact e2, e3⟩
  | _ => exact hok
 ·cases h1
theorem results_eq (fn : Func) (tmps : Array Value) : results fn tmps = (do
  let vs ← fn.results.mapM (resOne tmps)
  pure (if h : vs.size = 1 then vs[0] else .tuple vs)) := by
 unfold results
 congr 1
def packR : List Value → Value
 | [v] => v
 | ys => .tuple ys.toArray
theorem run_results {fn : Func} {tmps : Array Value} {w : World} {ys : List Value} (h : (fn.results.toList.mapM (resOne tmps)).run P w = .ok ys w) :
  (results fn tmps).run P w = .ok (packR ys) w := by
 rw [results_eq]
 simp only [Array.mapM_eq_mapM_toList, Sem.run_bind, Sem.run_map, h, Result.andThen_ok]
 match ys with
 | [] => simp [packR]
 | [v] => simp [packR]
 | _ :: _ :: _ => simp [packR]
theorem one_ok {l : List SG} {K : SV → Prop} (h : endK.one l K) : ∃ sv, K sv ∧ ∀ ρ ys, All2 (SG.Is ρ) l ys → sv.Is ρ (packR ys) := by
 unfold endK.one at h
 split at h
 ·refine ⟨_, h, fun ρ ys hy => ?_⟩
  cases hy with | cons h1 h2 => cases h2; exact h1
 ·rename_i l hl
  refine ⟨_, h, fun ρ ys hy => ⟨ys, ?_, hy⟩⟩
  match ys with
  | [] => rfl
  | [v] => cases hy with | cons h1 h2 => cases h2; exact absurd rfl (hl _)
  | _ :: _ :: _ => rfl
def startF : Nat → List SV → Fr
 | _, [] => []
 | i, v :: r => (i, v) :: startF (i + 1) r
theorem startF_mem {i : Nat} {svs : List SV} {j : Nat} {sv : SV} (h : (j, sv) ∈ startF i svs) : ∃ k, j = i + k ∧ svs[k]? = some sv := by
 induction svs generalizing i with
 | nil => simp [startF] at h
 | cons v r ih =>
  rcases List.mem_cons.1 h with h | h
  ·injection h with h1 h2; subst h1 h2; exact ⟨0, rfl, rfl⟩
  ·obtain ⟨k, h1, h2⟩ := ih h; exact ⟨k + 1, by omega, by simpa using h2⟩
theorem CallO.of_bodyW {T : Tab} (hT : TabOk P T) {f : FuncId} {fn : Func} {c : Code} (hf : P.funcs[f]? = some fn) (hb : fn.body = some c) {svs : List SV} {nt : Nat} (hn : fn.ntmps = nt) (hl : Nat.ble svs.length nt = true) {H : Hp} {G : List SB} {K : SE → Hp → List SB → Prop}
  (h : W P nt G.length .none c (endK P T G.length fn.results.toList K) (startF 0 svs) H G) : CallO P f svs H G K := by
 intro w0 M hgd H0 ρ w vs hs hv
 refine calls_of_wp hf hb ?_
 have hvl := hv.length
 have hle : svs.length ≤ nt := by simpa using hl
 have hsize : (vs.toArray ++ Array.replicate (fn.ntmps - vs.toArray.size) undef).size = nt := by simp; omega
 refine wp_mono (h w0 M hgd H0 ρ ⟨vs.toArray ++ Array.replicate (fn.ntmps - vs.toArray.size) undef, []⟩ w hs ?_ (Pin.on_none.2 rfl) hsize) fun e a w' he => ?_
 ·intro i sv hm
  obtain ⟨k, rfl, hk⟩ := startF_mem hm
  obtain ⟨v, h1, h2⟩ := hv.get hk
  refine ⟨v, ?_, h2⟩
  have hkl := (List.getElem?_eq_some_iff.1 h1).1
  rw [Nat.zero_add, Array.getElem?_append_left (by simpa using hkl)]
  simpa using h1
 ·have up : ∀ {ρ' : List Value}, PreE G.length ρ ρ' → Pre ρ ρ' := fun h k r hk => h k r (by rw [← hs.len]; exact (List.getElem?_eq_some_iff.1 hk).1) hk
  have fin : (Pin.none.On a ∧ a.tmps.size = nt ∧ ∃ F' ρ' H' G', St w0 M H0 ρ' H' G' w' ∧ PreE G.length ρ ρ' ∧ FOk ρ' F' a.tmps ∧ H.Le H' ∧ resX P T fn.results.toList F' H' G' fun l => endK.one l (fun v => trimX G.length v G' fun G2 => K (.ret v) H' G2)) →
    a.defers = [] ∧ ∃ v, (results fn a.tmps).run P w' = .ok v w' ∧ ∃ sv ρ' H' G', St w0 M H0 ρ' H' G' w' ∧ Pre ρ ρ' ∧ sv.Is ρ' v ∧ H.Le H' ∧ K (.ret sv) H' G' := by
   rintro ⟨hd, _, F', ρ', H', G', h1, hq, h2, h3, h4⟩
   obtain ⟨l, h4, hl⟩ := resX_ok hT h4
   obtain ⟨sv, h4, hsv⟩ := one_ok h4
   obtain ⟨ys, h5, h6⟩ := hl ρ' a w' h1.sw h2
   refine ⟨Pin.on_none.1 hd, _, run_results h5, ?_⟩
   unfold trimX at h4
   split at h4
   ·rename_i hw
    simp only [Bool.and_eq_true] at hw
    obtain ⟨hw1, hw2, hw3⟩ := hw
    have hw3 : G.length ≤ G'.length := by simpa using hw3
    refine ⟨sv, ρ'.take G.length, H', G'.take G.length, h1.cut _ hw2, fun k r hk => ?_, (hsv ρ' ys h6).cut hw1, h3, h4⟩
    rw [List.getElem?_take_of_lt (by rw [← hs.len]; exact (List.getElem?_eq_some_iff.1 hk).1)]
    exact up hq k r hk
   ·exact ⟨sv, ρ', H', G', h1, up hq, hsv ρ' ys h6, h3, h4⟩
  cases e with
  | normal => exact fin he
  | ret => exact fin he
  | panic ch =>
   obtain ⟨hd, ρ', H', G', h1, h2, h3, h4⟩ := he
   refine ⟨Pin.on_none.1 hd, ?_⟩
   have h4 : trimX G.length (.tu []) G' fun G2 => K (.pan ch) H' G2 := h4
   unfold trimX at h4
   split at h4
   ·rename_i hw
    simp only [Bool.and_eq_true] at hw
    obtain ⟨hw1, hw2, hw3⟩ := hw
    refine ⟨ρ'.take G.length, H', G'.take G.length, h1.cut _ hw2, fun k r hk => ?_, h3, h4⟩
    rw [List.getElem?_take_of_lt (by rw [← hs.len]; exact (List.getElem?_eq_some_iff.1 hk).1)]
    exact up h2 k r hk
   ·exact ⟨ρ', H', G', h1, up h2, h3, h4⟩
  | outgrown => exact he.elim
  | exit id => obtain ⟨_, _, _, _, _, _, _, _, _, _, h5⟩ := he; exact h5.elim
  | goto l => obtain ⟨_, _, _, _, _, _, _, _, _, _, h5⟩ := he; exact h5.elim
theorem CallO.of_body {T : Tab} (hT : TabOk P T) {f : FuncId} {fn : Func} {c : Code} (hf : P.funcs[f]? = some fn) (hb : fn.body = some c) {svs : List SV} {nt : Nat} (hn : fn.ntmps = nt) (hl : Nat.ble svs.length nt = true) {H : Hp} {G : List SB} {K : SE → Hp → List SB → Prop}
  (h : codeX P T nt G.length .none c (endK P T G.length fn.results.toList K) (startF 0 svs) H G) : CallO P f svs H G K :=
 CallO.of_bodyW hT hf hb hn hl (codeX_ok hT c h)
end
end Go.Kx
namespace Go.Kx
open Go.RowKit

section
variable {P : Program} {n e : Nat} {D : Pin}
def subG (σ : List Nat) (G : List SB) : List Nat → List SB → Prop
 | _, [] => True
 | [], _ :: _ => False
 | k :: ks, s :: r => getG G k (fun s' => subB σ s s') ∧ subG σ G ks r
where subB (σ : List Nat) (s s' : SB) : Prop :=
 match s with
 | .dead => True
 | .arr t xs => s' = .arr t xs ∨ s' = .box t (xs.map .val)
 | s => s' = s.ren σ
def subF (σ : List Nat) (F : Fr) : Fr → Prop
 | [] => True
 | (i, sv) :: r => getX F i (fun sv' => sv' = sv.ren σ) ∧ subF σ F r
def nodupB : List Nat → Bool
 | [] => true
 | k :: r => !(r.any (Nat.beq k)) && nodupB r
def eqL : List Nat → List Nat → Bool
 | [], [] => true
 | a :: r, b :: s => Nat.beq a b && eqL r s
 | _, _ => false
def subOk (e : Nat) (σ : List Nat) (F' : Fr) (G' : List SB) : Bool :=
 Nat.ble e σ.length && eqL (σ.take e) (List.range e) && Nat.beq σ.length G'.length && nodupB σ && G'.all (SB.wf σ.length) && F'.all (fun p => p.2.wf σ.length)
theorem eqL_eq : ∀ {l m : List Nat}, eqL l m = true → l = m
 | [], [], _ => rfl
 | a :: r, b :: s, h => by
  simp only [eqL, Bool.and_eq_true] at h
  rw [Nat.eq_of_beq_eq_true h.1, eqL_eq h.2]
 | [], _ :: _, h => by cases h
 | _ :: _, [], h => by cases h
theorem nodupB_ok : ∀ {l : List Nat}, nodupB l = true → l.Nodup
 | [], _ => List.nodup_nil
 | k :: r, h => by
  simp only [nodupB, Bool.and_eq_true, Bool.not_eq_true'] at h
  refine List.nodup_cons.2 ⟨fun hm => ?_, nodupB_ok h.2⟩
  have := List.any_eq_false.1 h.1 k hm
  simp at this
theorem subG_ok {σ : List Nat} {G : List SB} : ∀ {ks : List Nat} {G' : List SB}, subG σ G ks G' → ∀ (i : Nat) (s : SB), G'[i]? = some s → ∃ k s', ks[i]? = some k ∧ G[k]? = some s' ∧ (s = .dead ∨ s' = s.ren σ ∨ ∃ t xs, s = .arr t xs ∧ s' = .box t (xs.map .val))
 | _, [], _, i, s, h => by simp at h
 | [], _ :: _, h, _, _, _ => h.elim
 | k :: ks, s0 :: r, h, i, s, hi => by
  obtain ⟨h1, h2⟩ := h
  cases i with
  | zero =>
   simp at hi; subst hi
   obtain ⟨s', h3, h4⟩ := getG_ok h1
   refine ⟨k, s', rfl, h3, ?_⟩
   unfold subG.subB at h4
   split at h4
   ·exact .inl rfl
   ·rcases h4 with h4 | h4
    ·exact .inr (.inl h4)
    ·exact .inr (.inr ⟨_, _, rfl, h4⟩)
   ·exact .inr (.inl h4)
  | succ i =>
   obtain ⟨k', s', h3, h4⟩ := subG_ok h2 i s (by simpa using hi)
   exact ⟨k', s', by simpa using h3, h4⟩
theorem subF_ok {σ : List Nat} {F : Fr} : ∀ {F' : Fr}, subF σ F F' → ∀ i sv, (i, sv) ∈ F' → (i, sv.ren σ) ∈ F
 | [], _, i, sv, h => by simp at h
 | (j, sv0) :: r, h, i, sv, hm => by
  obtain ⟨h1, h2⟩ := h
  rcases List.mem_cons.1 hm with hm | hm
  ·injection hm with ha hb; subst ha hb
   obtain ⟨sv', h3, h4⟩ := getX_ok h1
   rw [← h4]; exact h3
  ·exact subF_ok h2 i sv hm
theorem all2_vals {ρ : List Value} : ∀ {xs ys : List Value}, All2 (SC.Is ρ) (xs.map .val) ys → ys = xs
 | [], ys, h => by cases h; rfl
 | x :: xs, ys, h => by
  cases h with | cons h1 h2 =>
   have e1 : _ = x := h1
   rw [e1, all2_vals h2]
theorem St.sub {w0 : World} {M : Nat → Prop} {H0 : Hp} {ρ : List Value} {H : Hp} {G : List SB} {w : World} (h : St w0 M H0 ρ H G w) {F F' : Fr} {G' : List SB} {σ : List Nat} {tmps : Array Value} (hf : FOk ρ F tmps)
  (ho : subOk e σ F' G' = true) (hG : subG σ G σ G') (hF : subF σ F F') : ∃ ρ', St w0 M H0 ρ' H G' w ∧ PreE e ρ ρ' ∧ FOk ρ' F' tmps := by
 simp only [subOk, Bool.and_eq_true] at ho
 obtain ⟨⟨⟨⟨⟨he, hr⟩, hl⟩, hn⟩, hwG⟩, hwF⟩ := ho
 have hr := eqL_eq hr
 have hl := Nat.eq_of_beq_eq_true hl
 have hn := nodupB_ok hn
 have he : e ≤ σ.length := by simpa using he
 let ρ' : List Value := σ.map fun k => ρ.getD k (.tuple #[])
 have hσ : ∀ (i k : Nat), σ[i]? = some k → k < ρ.length := fun i k hi => by
  have hi' : i < G'.length := by rw [← hl]; exact (List.getElem?_eq_some_iff.1 hi).1
  obtain ⟨k', s', h1, h2, _⟩ := subG_ok hG i G'[i] (List.getElem?_eq_getElem hi')
  rw [hi] at h1; injection h1 with h1; subst h1
  rw [h.len]; exact (List.getElem?_eq_some_iff.1 h2).1
 have hρ' : ∀ (k k' : Nat), σ[k]? = some k' → ρ'[k]? = ρ[k']? := fun k k' e1 => by
  have hlt := hσ k k' e1
  simp [ρ', e1, List.getD_eq_getElem?_getD, List.getElem?_eq_getElem hlt]
 have hblk : ∀ i g, blkAt ρ' G' i = some g → ∃ k, σ[i]? = some k ∧ blkAt ρ G k = some g := fun i g hg => by
  obtain ⟨s, r, h1, h2, h3⟩ := blkAt_some hg
  obtain ⟨k, s', h4, h5, h6⟩ := subG_ok hG i s h1
  refine ⟨k, h4, ?_⟩
  rcases h6 with rfl | rfl | ⟨t, xs, rfl, rfl⟩
  ·simp [SB.blk] at h3
  ·rw [hρ' i k h4] at h2
   rw [blkAt_eq h5 h2, blk_ren]; exact h3
  ·rw [hρ' i k h4] at h2
   rw [blkAt_eq h5 h2]; exact h3
 refine ⟨ρ', ⟨h.os, h.tape, h.output, h.size, h.old, h.hle, h.hin, h.hnew, by simp [ρ', hl], ?_, ?_, ?_⟩, ?_, ?_⟩
 ·intro i s r h1 h2
  obtain ⟨k, s', h4, h5, h6⟩ := subG_ok hG i s h1
  rcases h6 with rfl | rfl | ⟨t, xs, rfl, rfl⟩
  ·trivial
  rotate_left
  ·rw [hρ' i k h4] at h2
   obtain ⟨g, ys, e1, e2, e3⟩ := h.ok k _ r h5 h2
   have e4 : ys = xs := by
    exact all2_vals e3
   exact ⟨g, e1, by rw [← e4]; exact e2⟩
  ·rw [hρ' i k h4] at h2
   exact ren_bwdB hρ' (List.all_eq_true.1 hwG _ (List.mem_of_getElem? h1)) (h.ok k _ r h5 h2)
 ·intro i g hg
  obtain ⟨k, _, h2⟩ := hblk i g hg
  exact h.own k g h2
 ·intro i j g hg hg'
  obtain ⟨k, h1, h2⟩ := hblk i g hg
  obtain ⟨k', h1', h2'⟩ := hblk j g hg'
  have := h.inj k k' g h2 h2'
  subst this
  exact (List.getElem?_inj (List.getElem?_eq_some_iff.1 h1).1 hn).1 (h1.trans h1'.symm)
 ·intro k r hk e1
  have h1 : σ[k]? = some k := by
   have : (σ.take e)[k]? = (List.range e)[k]? := by rw [hr]
   rw [List.getElem?_take_of_lt hk, List.getElem?_range hk] at this
   exact this
  rw [hρ' k k h1]; exact e1
 ·intro i sv hm
  obtain ⟨v, h1, h2⟩ := hf i _ (subF_ok hF i sv hm)
  exact ⟨v, h1, ren_bwdV hρ' (List.all_eq_true.1 hwF _ hm) h2⟩

structure codeL (P : Program) (n e : Nat) (D : Pin) (c : Code) (K : KT) (F : Fr) (H : Hp) (G : List SB) : Prop where of ::
 to : W P n e D c K F H G
theorem codeL.go {T : Tab} (hT : TabOk P T) {c : Code} {K : KT} {F : Fr} {H : Hp} {G : List SB} (h : codeX P T n e D c K F H G) : codeL P n e D c K F H G := ⟨codeX_ok hT c h⟩
def Again (e : Nat) (I : Nat → Fr → Hp → List SB → Prop) (m : Nat) (F : Fr) (H : Hp) (G : List SB) : Prop :=
 ∃ m', m' < m ∧ ∃ F' G' σ, I m' F' H G' ∧ subOk e σ F' G' = true ∧ subG σ G σ G' ∧ subF σ F F'
def loopK (e : Nat) (I : Nat → Fr → Hp → List SB → Prop) (m : Nat) (K : KT) : KT
 | .normal, F, H, G => Again e I m F H G
 | x, F, H, G => K x F H G
theorem W.loop {c : Code} {K : KT} {F : Fr} {H : Hp} {G : List SB} (I : Nat → Fr → Hp → List SB → Prop) (m : Nat) (h0 : I m F H G)
  (hr : ∀ m F' H' G', H.Le H' → I m F' H' G' → W P n e D c (loopK e I m K) F' H' G') : W P n e D (.loop c) K F H G := by
 intro w0 M hgd H0 ρ a w hs hf hd hn
 have key : ∀ m, ∀ (ρ1 : List Value) (F1 : Fr) (H1 : Hp) (G1 : List SB) (a : Act) (w : World), I m F1 H1 G1 → H.Le H1 → PreE e ρ ρ1 → St w0 M H0 ρ1 H1 G1 w → FOk ρ1 F1 a.tmps → D.On a → a.tmps.size = n →
   Code.rounds P c (PostX n e D w0 M H0 ρ H K) (m + 1) a w := by
  intro m
  induction m using Nat.strongRecOn with
  | _ m ih =>
   intro ρ1 F1 H1 G1 a w hI hle hp hs hf hd hn
   have mono : ∀ (j k : Nat) (a : Act) (w : World), j ≤ k → Code.rounds P c (PostX n e D w0 M H0 ρ H K) j a w → Code.rounds P c (PostX n e D w0 M H0 ρ H K) k a w := by
    intro j
    induction j with
    | zero => intro k a w _ h; exact h.elim
    | succ j ihj =>
     intro k a w hjk h
     obtain ⟨k, rfl⟩ : ∃ k', k = k' + 1 := ⟨k - 1, by omega⟩
     refine wp_mono (c := c) h fun x a w hx => ?_
     cases x with
     | normal => exact ihj k a w (by omega) hx
     | _ => exact hx
   refine wp_mono (c := c) (hr m F1 H1 G1 hle hI w0 M hgd H0 ρ1 a w hs hf hd hn) fun x a w hx => ?_
   cases x with
   | normal =>
    obtain ⟨h1, h0, F', ρ', H', G', h2, hq, h3, h4, m', hm, F2, G2, σ, h5, h6, h7, h8⟩ := hx
    obtain ⟨ρ2, h9, h10, h11⟩ := St.sub (e := e) h2 h3 h6 h7 h8
    exact mono (m' + 1) m a w hm (ih m' hm ρ2 F2 H' G2 a w h5 (hle.trans h4) ((hp.trans hq).trans h10) h9 h11 h1 h0)
   | panic ch => exact PostX.le hp hle _ _ _ hx
   | outgrown => exact hx.elim
   | ret => exact PostX.le (K := K) hp hle .ret _ _ hx
   | exit id => exact PostX.le (K := K) hp hle (.exit id) _ _ hx
   | goto l => exact PostX.le (K := K) hp hle (.goto l) _ _ hx
 exact wp_loop_rounds (m + 1) (key m ρ F H G a w h0 (.refl _) (.refl _ _) hs hf hd hn)

theorem WS.loop {c : Code} {K : KT} {F : Fr} {H : Hp} {G : List SB} (I : Nat → Fr → Hp → List SB → Prop) (m : Nat) (h0 : Again e I m F H G)
  (hr : ∀ m F' H' G', H.Le H' → I m F' H' G' → codeL P n e D c (loopK e I m K) F' H' G') : WS P n e D (.loop c) K F H G := by
 refine ⟨fun w0 M hgd H0 ρ a w hs hf hd hn => ?_⟩
 obtain ⟨m', _, F', G', σ, h1, h2, h3, h4⟩ := h0
 obtain ⟨ρ2, a1, a2, a3⟩ := St.sub (e := e) hs hf h2 h3 h4
 exact wp_mono (W.loop I m' h1 (fun m F' H' G' hle hI => (hr m F' H' G' hle hI).to) w0 M hgd H0 ρ2 a w a1 a3 hd hn) (PostX.le a2 (.refl _))

def scopeK (e l : Nat) (I : Nat → Fr → Hp → List SB → Prop) (m : Nat) (K : KT) : KT
 | .goto j, F, H, G => match Nat.beq j l with
  | true => Again e I m F H G
  | false => False
 | x, F, H, G => K x F H G
theorem least {p : Nat → Prop} (h : ∃ m, p m) : ∃ m, p m ∧ ∀ k, p k → m ≤ k := by
 obtain ⟨m, hm⟩ := h
 induction m using Nat.strongRecOn with
 | _ m ih =>
  by_cases hk : ∃ k, k < m ∧ p k
  ·obtain ⟨k, h1, h2⟩ := hk; exact ih k h1 h2
  ·exact ⟨m, hm, fun k hp => Nat.le_of_not_lt fun hlt => hk ⟨k, hlt, hp⟩⟩
theorem WS.scope {c rest : Code} {l : Nat} (hf : findLabel c l = some rest) {K : KT} {F : Fr} {H : Hp} {G : List SB} (I : Nat → Fr → Hp → List SB → Prop) (m : Nat)
  (h0 : codeL P n e D c (scopeK e l I m K) F H G)
  (hr : ∀ m F' H' G', H.Le H' → I m F' H' G' → codeL P n e D rest (scopeK e l I m K) F' H' G') : WS P n e D (.scope c) K F H G := by
 refine ⟨fun w0 M hgd H0 ρ a w hs hfr hd hn => ?_⟩
 let J' : Nat → Act → World → Prop := fun m a w => D.On a ∧ a.tmps.size = n ∧ ∃ F1 ρ1 H1 G1, St w0 M H0 ρ1 H1 G1 w ∧ PreE e ρ ρ1 ∧ FOk ρ1 F1 a.tmps ∧ H.Le H1 ∧ I m F1 H1 G1
 have again : ∀ (m : Nat) (ρ1 : List Value) (H1 : Hp) (x : Exit) (a : Act) (w : World), PreE e ρ ρ1 → H.Le H1 → PostX n e D w0 M H0 ρ1 H1 (scopeK e l I m K) x a w →
   Exit.jump l (fun a w => ∃ m', m' < m ∧ J' m' a w) (PostX n e D w0 M H0 ρ H K) x a w := by
  intro m ρ1 H1 x a w hp hle hx
  cases x with
  | goto j =>
   obtain ⟨h1, hsz, F', ρ', H', G', h2, hq, h3, h4, h5⟩ := hx
   simp only [scopeK] at h5
   by_cases hj : j = l
   ·subst hj
    rw [Nat.beq_refl] at h5
    obtain ⟨m', hm, F2, G2, σ, a1, a2, a3, a4⟩ := h5
    obtain ⟨ρ2, h9, h10, h11⟩ := St.sub (e := e) h2 h3 a2 a3 a4
    exact ⟨rfl, m', hm, h1, hsz, F2, ρ2, H', G2, h9, (hp.trans hq).trans h10, h11, hle.trans h4, a1⟩
   ·have hb : Nat.beq j l = false := by
     cases hb : Nat.beq j l with
     | true => exact absurd (Nat.eq_of_beq_eq_true hb) hj
     | false => rfl
    rw [hb] at h5
    exact h5.elim
  | normal => exact PostX.le (K := K) hp hle .normal _ _ hx
  | ret => exact PostX.le (K := K) hp hle .ret _ _ hx
  | exit id => exact PostX.le (K := K) hp hle (.exit id) _ _ hx
  | panic ch => exact PostX.le (n := n) (K := K) hp hle (.panic ch) _ _ hx
  | outgrown => exact hx.elim
 have jm : ∀ {J1 J2 : Act → World → Prop} {Q : Exit → Act → World → Prop} {x : Exit} {a : Act} {w : World}, (∀ a w, J1 a w → J2 a w) → Exit.jump l J1 Q x a w → Exit.jump l J2 Q x a w := by
  intro J1 J2 Q x a w h12 h
  cases x with
  | goto j => exact ⟨h.1, h12 _ _ h.2⟩
  | _ => exact h
 let μ : Act → World → Nat := fun a w => by
  classical
  exact if h : ∃ m, J' m a w then Classical.choose (least h) else 0
 have hμ : ∀ a w m, J' m a w → μ a w ≤ m ∧ J' (μ a w) a w := by
  intro a w m h
  have hex : ∃ m, J' m a w := ⟨m, h⟩
  classical
  have e1 : μ a w = Classical.choose (least hex) := by
   show (if h : ∃ m, J' m a w then Classical.choose (least h) else 0) = _
   rw [dif_pos hex]
  rw [e1]
  have := Classical.choose_spec (least hex)
  exact ⟨this.2 m h, this.1⟩
 refine wp_scope_jumps l (fun a w => ∃ m, J' m a w) μ hf ?_ ?_
 ·refine wp_mono (h0.to w0 M hgd H0 ρ a w hs hfr hd hn) fun x a w hx => ?_
  exact jm (fun a w ⟨m', _, h⟩ => ⟨m', h⟩) (again m ρ H x a w (.refl _ _) (.refl _) hx)
 ·rintro a w ⟨m1, hm1⟩
  obtain ⟨h1, h2⟩ := hμ a w m1 hm1
  obtain ⟨b1, b2, F1, ρ1, H1, G1, b3, b4, b5, b6, b7⟩ := h2
  refine wp_mono ((hr _ F1 H1 G1 b6 b7).to w0 M hgd H0 ρ1 a w b3 b5 b1 b2) fun x a' w' hx => ?_
  refine jm ?_ (again (μ a w) ρ1 H1 x a' w' b4 b6 hx)
  rintro a2 w2 ⟨m', hm', hj'⟩
  exact ⟨⟨m', hj'⟩, Nat.lt_of_le_of_lt (hμ a2 w2 m' hj').1 hm'⟩

theorem W.seqS {x y : Code} {K : KT} {F : Fr} {H : Hp} {G : List SB} (h : W P n e D x (thenK (WS P n e D y K) K) F H G) : W P n e D (.seq x y) K F H G :=
 W.seq (W.mono h fun xx F' H' G' _ he => by
  cases xx with
  | normal => exact WS.to he
  | _ => exact he)
theorem W.sub {c : Code} {K : KT} {F F' : Fr} {H : Hp} {G G' : List SB} (σ : List Nat) (h : W P n e D c K F' H G') (ho : subOk e σ F' G' = true) (hG : subG σ G σ G') (hF : subF σ F F') : W P n e D c K F H G := by
 intro w0 M hgd H0 ρ a w hs hf hd hn
 obtain ⟨ρ2, a1, a2, a3⟩ := St.sub (e := e) hs hf ho hG hF
 exact wp_mono (h w0 M hgd H0 ρ2 a w a1 a3 hd hn) (PostX.le a2 (.refl _))

inductive DP
 | done
 | no
 | take (i : Nat) (r : DP)
 | alt (i : Nat) (r o : DP)
def DP.alts : DP → List Nat
 | .alt i _ o => i :: o.alts
 | _ => []
def okD (ops : Array Oper) : Bool → DP → Nat → Array Bool → Bool
 | false, .done, _, l => (Region.ready .any ops l).isEmpty
 | false, .take i r, f + 1, l => Region.free .any ops l i && (Region.ready .any ops l).contains i && okD ops false r f (l.setIfInBounds i true)
 | false, .alt i r o, f + 1, l => eqL (Region.ready .any ops l) (i :: o.alts) && okD ops false r f (l.setIfInBounds i true) && okD ops true o (f + 1) l
 | true, .alt i r o, f + 1, l => okD ops false r f (l.setIfInBounds i true) && okD ops true o (f + 1) l
 | true, .no, _, _ => true
 | _, _, _, _ => false
def keepB (s s' : SB) : Prop :=
 match s with
 | .dead => True
 | .pre t xs => ∃ ys, s' = .arr t ys ∧ ys.take xs.length = xs
 | s => s' = s
def keepE : List SB → List SB → Prop
 | [], _ => True
 | s :: r, s' :: r' => keepB s s' ∧ keepE r r'
 | _ :: _, [] => False
def Tells (s : SB) (o : Option SB) : Prop := s = .dead ∨ o = some s ∨ ∃ t xs ys, s = .pre t xs ∧ o = some (.arr t ys) ∧ ys.take xs.length = xs
theorem keepB_ok {s s' : SB} (h : keepB s s') : Tells s (some s') := by
 unfold keepB at h
 split at h
 ·exact .inl rfl
 ·obtain ⟨ys, rfl, h2⟩ := h; exact .inr (.inr ⟨_, _, ys, rfl, rfl, h2⟩)
 ·exact .inr (.inl (by rw [h]))
def padX : List SB → List SB → (List SB → Prop) → Prop
 | s :: r, _ :: r', K => padX r r' fun l => K (s :: l)
 | [], _ :: r, K => padX [] r fun l => K (.dead :: l)
 | _, [], K => K []
def keepX (Gm G' : List SB) (K : List SB → Prop) : Prop := keepE Gm G' ∧ padX Gm G' K
def nthX (ops : List Oper) (i : Nat) (K : Oper → Prop) : Prop :=
 match ops, i with
 | [], _ => False
 | o :: _, 0 => K o
 | _ :: r, i + 1 => nthX r i K
theorem nthX_ok {ops : List Oper} {i : Nat} {K : Oper → Prop} (h : nthX ops i K) : ∃ o, ops[i]? = some o ∧ K o := by
 induction ops generalizing i with
 | nil => exact h.elim
 | cons o r ih =>
  cases i with
  | zero => exact ⟨o, rfl, h⟩
  | succ i => obtain ⟨o', h1, h2⟩ := ih h; exact ⟨o', by simpa using h1, h2⟩
def quietX (P : Program) (T : Tab) (o : Oper) (F : Fr) (H : Hp) (G : List SB) (K : SV → Prop) : Prop :=
 match o.op with
 | .lookup t m k ok => evX m F fun sm => evX k F fun sk => lookX T t sm sk ok G K
 | .convert s d x => convQ P T o s d x F H G K
 | _ => opQ P T o F H G K
theorem quietX_ok {T : Tab} (hT : TabOk P T) {o : Oper} {F : Fr} {H : Hp} {G : List SB} {K : SV → Prop} (h : quietX P T o F H G K) : QO P o F H G K := by
 unfold quietX at h
 split at h
 ·rename_i ho; exact lookX_ok hT ho h
 ·rename_i ho; exact convQ_ok hT ho h
 ·exact opQ_ok hT h
def drX (P : Program) (T : Tab) (n : Nat) (ps : List Nat) (ops : List Oper) (Hm : Hp) (Kp : List PanicEntry → Hp → List SB → Prop) (K : Fr → Hp → List SB → Prop) (d : DP) (F : Fr) (H : Hp) (G Gm : List SB) : Prop :=
 @DP.rec (fun _ => Fr → Hp → List SB → List SB → Prop)
  (fun F H G _ => K F H G)
  (fun _ _ _ _ => True)
  (fun i _ ih F H G Gm => nthX ops i fun o => wantX ops F o.guard fun b => match b with
   | true => quietX P T o F Hm Gm fun sv => partBool (guards ops i) sv fun sv => putX n ps o.dst F sv fun F' => ih F' H G Gm
   | false => putX n ps o.dst F (pv undef) fun F' => ih F' H G Gm)
  (fun i _ _ ih ih2 F H G Gm => (nthX ops i fun o => wantX ops F o.guard fun b => match b with
   | true => opX P T o F H G (fun sv H' G' => keepX Gm G' fun Gm' => partBool (guards ops i) sv fun sv => putX n ps o.dst F sv fun F' => ih F' H' G' Gm') Kp
   | false => putX n ps o.dst F (pv undef) fun F' => ih F' H G Gm) ∧ ih2 F H G Gm)
  d F H G Gm
theorem drX_take {P : Program} {T : Tab} {n : Nat} {ps : List Nat} {ops : List Oper} {Hm : Hp} {Kp : List PanicEntry → Hp → List SB → Prop} {K : Fr → Hp → List SB → Prop} {i : Nat} {r : DP} {F : Fr} {H : Hp} {G Gm : List SB} :
  drX P T n ps ops Hm Kp K (.take i r) F H G Gm = (nthX ops i fun o => wantX ops F o.guard fun b => match b with
   | true => quietX P T o F Hm Gm fun sv => partBool (guards ops i) sv fun sv => putX n ps o.dst F sv fun F' => drX P T n ps ops Hm Kp K r F' H G Gm
   | false => putX n ps o.dst F (pv undef) fun F' => drX P T n ps ops Hm Kp K r F' H G Gm) := rfl
theorem drX_alt {P : Program} {T : Tab} {n : Nat} {ps : List Nat} {ops : List Oper} {Hm : Hp} {Kp : List PanicEntry → Hp → List SB → Prop} {K : Fr → Hp → List SB → Prop} {i : Nat} {r o2 : DP} {F : Fr} {H : Hp} {G Gm : List SB} :
  drX P T n ps ops Hm Kp K (.alt i r o2) F H G Gm = ((nthX ops i fun o => wantX ops F o.guard fun b => match b with
   | true => opX P T o F H G (fun sv H' G' => keepX Gm G' fun Gm' => partBool (guards ops i) sv fun sv => putX n ps o.dst F sv fun F' => drX P T n ps ops Hm Kp K r F' H' G' Gm') Kp
   | false => putX n ps o.dst F (pv undef) fun F' => drX P T n ps ops Hm Kp K r F' H G Gm) ∧ drX P T n ps ops Hm Kp K o2 F H G Gm) := rfl
structure Held (Hm : Hp) (ρ0 : List Value) (Gm0 : List SB) (w : World) : Prop where
 hin : Hm.In w
 ok : ∀ (k : Nat) (s : SB) (r : Value), Gm0[k]? = some s → ρ0[k]? = some r → s.Ok ρ0 w r
def Pad (Gm0 Gm : List SB) : Prop := ∃ j, Gm = Gm0 ++ List.replicate j .dead
theorem Held.sw {Hm : Hp} {ρ0 ρ : List Value} {Gm0 Gm : List SB} {w : World} (h : Held Hm ρ0 Gm0 w) (hl0 : ρ0.length = Gm0.length) (hp : Pre ρ0 ρ) (hpad : Pad Gm0 Gm) (hl : ρ.length = Gm.length) : Sw ρ Hm Gm w := by
 refine ⟨h.hin, hl, fun k s r h1 h2 => ?_⟩
 obtain ⟨j, rfl⟩ := hpad
 rcases Nat.lt_or_ge k Gm0.length with hk | hk
 ·rw [List.getElem?_append_left hk] at h1
  have h3 : ρ0[k]? = some ρ0[k] := List.getElem?_eq_getElem (by omega)
  have := hp k _ h3
  rw [h2] at this; injection this with this
  exact (h.ok k s r h1 (by rw [h3, this])).mono hp
 ·rw [List.getElem?_append_right hk] at h1
  have := (List.getElem?_replicate.symm.trans h1)
  split at this
  ·injection this with this; subst this; trivial
  ·cases this
theorem keepE_ok : ∀ {Gm G' : List SB}, keepE Gm G' → Gm.length ≤ G'.length ∧ ∀ (k : Nat) (s : SB), Gm[k]? = some s → Tells s G'[k]?
 | [], _, _ => ⟨Nat.zero_le _, fun k s hk => by simp at hk⟩
 | s :: r, s' :: r', h => by
  obtain ⟨h1, h2⟩ := keepE_ok h.2
  refine ⟨by simpa using h1, fun k x hk => ?_⟩
  cases k with
  | zero =>
   simp at hk; subst hk
   exact keepB_ok h.1
  | succ k => simpa using h2 k x (by simpa using hk)
 | s :: _, [], h => h.elim
theorem padX_ok : ∀ {Gm G' : List SB} {K : List SB → Prop}, Gm.length ≤ G'.length → padX Gm G' K → ∃ Gm', K Gm' ∧ Pad Gm Gm' ∧ Gm'.length = G'.length
 | [], [], K, _, h => ⟨[], h, ⟨0, rfl⟩, rfl⟩
 | [], _ :: r, K, _, h => by
  obtain ⟨l, h1, ⟨j, h2⟩, h3⟩ := padX_ok (Gm := []) (G' := r) (Nat.zero_le _) h
  exact ⟨_, h1, ⟨j + 1, by rw [h2]; rfl⟩, by simp [h3]⟩
 | s :: r, s' :: r', K, hl, h => by
  obtain ⟨l, h1, ⟨j, h2⟩, h3⟩ := padX_ok (Gm := r) (G' := r') (by simpa using hl) h
  exact ⟨_, h1, ⟨j, by rw [h2]; rfl⟩, by simp [h3]⟩
 | s :: r, [], _, hl, _ => by simp at hl
theorem keepX_ok {Gm G' : List SB} {K : List SB → Prop} (h : keepX Gm G' K) : ∃ Gm', K Gm' ∧ Pad Gm Gm' ∧ Gm'.length = G'.length ∧ ∀ (k : Nat) (s : SB), Gm[k]? = some s → Tells s G'[k]? := by
 obtain ⟨h1, h2⟩ := h
 obtain ⟨h3, h4⟩ := keepE_ok h1
 obtain ⟨l, h5, h6, h7⟩ := padX_ok h3 h2
 exact ⟨l, h5, h6, h7, h4⟩
theorem capsBack {ρ0 ρ : List Value} (hp : Pre ρ0 ρ) : ∀ {caps : List (Nat × Nat)} {ys zs : List Value}, All2 (fun (p : Nat × Nat) z => ∃ r, ρ0[p.1]? = some r ∧ ptrAt r p.2 = some z) caps ys → All2 (fun (p : Nat × Nat) z => ∃ r, ρ[p.1]? = some r ∧ ptrAt r p.2 = some z) caps zs →
  All2 (fun (p : Nat × Nat) z => ∃ r, ρ0[p.1]? = some r ∧ ptrAt r p.2 = some z) caps zs
 | [], _, _, _, h => by cases h; exact .nil
 | _ :: _, _, _, h1, h2 => by
  cases h1 with | cons h5 h1 =>
   cases h2 with | cons h6 h7 =>
    obtain ⟨r, e1, e2⟩ := h5
    obtain ⟨r', e3, e4⟩ := h6
    rw [hp _ r e1] at e3; injection e3 with e3; subst e3
    exact .cons ⟨r, e1, e4⟩ (capsBack hp h1 h7)
theorem SC.Is.back {ρ0 ρ : List Value} (hp : Pre ρ0 ρ) {c : SC} {y z : Value} (h : c.Is ρ0 y) (h' : c.Is ρ z) : c.Is ρ0 z := by
 cases c with
 | val x => exact h'
 | ptr k off =>
  obtain ⟨r, h1, h2⟩ := h
  obtain ⟨r', h3, h4⟩ := h'
  rw [hp k r h1] at h3; injection h3 with h3; subst h3
  exact ⟨r, h1, h4⟩
 | self k => have h1 := hp k y h; have h2 : ρ[k]? = some z := h'; rw [h1] at h2; injection h2 with h2; subst h2; exact h
 | fn f n caps =>
  obtain ⟨ys, _, h2⟩ := h
  obtain ⟨zs, rfl, h4⟩ := h'
  refine ⟨zs, rfl, capsBack hp h2 h4⟩
 | pp A off => exact h'
 | cut k sz lo m =>
  obtain ⟨r, h1, h2⟩ := h
  obtain ⟨r', h3, h4⟩ := h'
  rw [hp k r h1] at h3; injection h3 with h3; subst h3
  exact ⟨r, h1, h4⟩
 | any => trivial
theorem all2_back {ρ0 ρ : List Value} (hp : Pre ρ0 ρ) {cs : List SC} {ys zs : List Value} (h : All2 (SC.Is ρ0) cs ys) (h' : All2 (SC.Is ρ) cs zs) : All2 (SC.Is ρ0) cs zs := by
 induction h generalizing zs with
 | nil => cases h'; exact .nil
 | cons h1 _ ih => cases h' with | cons h2 h3 => exact .cons (h1.back hp h2) (ih h3)
theorem ent_back {ρ0 ρ : List Value} (hp : Pre ρ0 ρ) {l : List (Value × SC × Nat)} {ys zs : List MapEntry} (h : All2 (EntOne ρ0) l ys) (h' : All2 (EntOne ρ) l zs) : All2 (EntOne ρ0) l zs := by
 induction h generalizing zs with
 | nil => cases h'; exact .nil
 | cons h1 _ ih => cases h' with | cons h2 h3 => exact .cons ⟨h2.1, h1.2.1.back hp h2.2.1, h2.2.2⟩ (ih h3)
theorem drX_ok {T : Tab} (hT : TabOk P T) {ops : Array Oper} (hsel : Region.noSelect ops = true) {Hm : Hp} {ρ0 : List Value} {Gm0 : List SB} (hl0 : ρ0.length = Gm0.length) {w0 : World} {M : Nat → Prop} (hgd : Gd w0 M) {H0 H1 : Hp} (hm1 : Hm.Le H1) {ρ00 : List Value} {K : KT} :
  ∀ (d : DP) (b : Bool) (fuel : Nat) (listed : Array Bool), okD ops b d fuel listed = true → ∀ (F : Fr) (H : Hp) (G Gm : List SB), drX P T n D.ps ops.toList Hm (fun ch H' G' => K (.panic ch) [] H' G') (fun F' H' G' => K .normal F' H' G') d F H G Gm →
  ∀ (ρ : List Value) (a : Act) (w : World), St w0 M H0 ρ H G w → Pre ρ0 ρ → PreE e ρ00 ρ → H1.Le H → FOk ρ F a.tmps → D.On a → a.tmps.size = n → Held Hm ρ0 Gm0 w → Pad Gm0 Gm → Gm.length = G.length → (∀ (k : Nat) (s : SB), Gm[k]? = some s → Tells s G[k]?) →
   match b with
   | false => wpAnyH P .any ops (PostX n e D w0 M H0 ρ00 H1 K) (Held Hm ρ0 Gm0) fuel listed a w
   | true => ∀ f, fuel = f + 1 → ∀ i ∈ d.alts, wpOp P ops (PostX n e D w0 M H0 ρ00 H1 K) i (fun a' w' => Held Hm ρ0 Gm0 w' ∧ wpAnyH P .any ops (PostX n e D w0 M H0 ρ00 H1 K) (Held Hm ρ0 Gm0) f (listed.setIfInBounds i true) a' w') a w := by
 have hQ : ∀ (dst : Option Tmp) (_ : ∀ d, dst = some d → d ∉ D.ps) (v : Value) c a w, PostX n e D w0 M H0 ρ00 H1 K (.panic c) (a.put dst v) w → PostX n e D w0 M H0 ρ00 H1 K (.panic c) a w := by
  intro dst hps v c a w h
  obtain ⟨h1, h2⟩ := h
  exact ⟨h1.unput hps, h2⟩
 intro d
 induction d with
 | done =>
  intro b fuel listed hok F H G Gm hd ρ a w hs hp hpe hle hf hde hsz hS hpad hlen hmk
  cases b with
  | true => cases fuel <;> cases hok
  | false =>
   have h1 : Region.ready .any ops listed = [] := by
    cases fuel <;> exact List.isEmpty_iff.1 hok
   exact wpAnyH_done h1 ⟨hde, hsz, F, ρ, H, G, hs, hpe, hf, hle, hd⟩ fuel
 | no =>
  intro b fuel listed hok F H G Gm hd ρ a w hs hp hpe hle hf hde hsz hS hpad hlen hmk
  cases b with
  | true => intro f _ i hi; simp [DP.alts] at hi
  | false => cases fuel <;> cases hok
 | take i r ih =>
  intro b fuel listed hok F H G Gm hd ρ a w hs hp hpe hle hf hde hsz hS hpad hlen hmk
  cases fuel with
  | zero => cases b <;> cases hok
  | succ f =>
   cases b with
   | true => cases hok
   | false =>
    simp only [okD, Bool.and_eq_true] at hok
    obtain ⟨⟨hfree, hready⟩, hok⟩ := hok
    rw [drX_take] at hd
    obtain ⟨o, ho, hd⟩ := nthX_ok hd
    obtain ⟨b, hd, hw⟩ := wantX_ok (ops := ops) hd
    have ho' : ops[i]? = some o := by simpa using ho
    have hsw : ∀ w, Held Hm ρ0 Gm0 w → Sw ρ Hm Gm w := fun w h => h.sw hl0 hp hpad (by rw [hs.len, hlen])
    cases b with
    | true =>
     obtain ⟨sv, hd, hq⟩ := quietX_ok hT hd
     obtain ⟨sv', hd, h6⟩ := partBool_ok hd
     obtain ⟨F', hd, h70, h7⟩ := putX_ok hd
     obtain ⟨v, h8, h9⟩ := hq ρ a w hf (hsw w hS)
     refine wpAnyH_take (v := v) ho' hsel hfree hready (hQ _ h70 _) (.inl ⟨by rw [hw ρ a hf], fun w' h => h9 w' (hsw w' h)⟩) hS ?_
     exact ih false f _ hok F' H G Gm hd ρ _ w hs hp hpe hle (h7 ρ a v hsz hf (h6 ρ v h8)) (hde.put h70 _) (by rw [put_size]; exact hsz) hS hpad hlen hmk
    | false =>
     obtain ⟨F', hd, h70, h7⟩ := putX_ok hd
     refine wpAnyH_take (v := undef) ho' hsel hfree hready (hQ _ h70 _) (.inr ⟨by rw [hw ρ a hf], rfl⟩) hS ?_
     exact ih false f _ hok F' H G Gm hd ρ _ w hs hp hpe hle (h7 ρ a undef hsz hf rfl) (hde.put h70 _) (by rw [put_size]; exact hsz) hS hpad hlen hmk
 | alt i r o2 ihr iho =>
  intro b fuel listed hok F H G Gm hd ρ a w hs hp hpe hle hf hde hsz hS hpad hlen hmk
  cases fuel with
  | zero => cases b <;> cases hok
  | succ f =>
   have one : okD ops false r f (listed.setIfInBounds i true) = true → wpOp P ops (PostX n e D w0 M H0 ρ00 H1 K) i (fun a' w' => Held Hm ρ0 Gm0 w' ∧ wpAnyH P .any ops (PostX n e D w0 M H0 ρ00 H1 K) (Held Hm ρ0 Gm0) f (listed.setIfInBounds i true) a' w') a w := by
    intro hokr
    rw [drX_alt] at hd
    obtain ⟨o, ho, hd⟩ := nthX_ok hd.1
    obtain ⟨b, hd, hw⟩ := wantX_ok (ops := ops) hd
    have ho' : ops[i]? = some o := by simpa using ho
    unfold wpOp
    simp only [ho', hw ρ a hf]
    cases b with
    | true =>
     simp only [if_true]
     left
     refine upon_of_out (opX_ok hT hd w0 M hgd H0 ρ a w hs hf) ?_ ?_
     ·rintro v w' ⟨sv, ρ', H', G', h1, h2, h3, h4, h5⟩
      obtain ⟨Gm', h5, hk1, hk2, hk3⟩ := keepX_ok h5
      obtain ⟨sv', h5, h6⟩ := partBool_ok h5
      obtain ⟨F', h5, h70, h7⟩ := putX_ok h5
      have hf' := h7 ρ' a v hsz (hf.mono h2) (h6 ρ' v h3)
      have hpad' : Pad Gm0 Gm' := by
       obtain ⟨j, hj⟩ := hpad
       obtain ⟨j', hj'⟩ := hk1
       exact ⟨j + j', by rw [hj', hj, List.append_assoc, List.replicate_append_replicate]⟩
      have hmk' : ∀ (k : Nat) (s : SB), Gm'[k]? = some s → Tells s G'[k]? := by
       intro k s hk
       obtain ⟨j', hj'⟩ := hk1
       rw [hj'] at hk
       rcases Nat.lt_or_ge k Gm.length with hlt | hge
       ·rw [List.getElem?_append_left hlt] at hk; exact hk3 k s hk
       ·rw [List.getElem?_append_right hge] at hk
        have := (List.getElem?_replicate.symm.trans hk)
        split at this
        ·injection this with this; exact .inl this.symm
        ·cases this
      have hS' : Held Hm ρ0 Gm0 w' := by
       refine ⟨fun b o v hb => h1.hin b o v (h4 _ _ _ (hle _ _ _ (hm1 _ _ _ hb))), fun k s r h8 h9 => ?_⟩
       obtain ⟨j, hj⟩ := hpad'
       have hk0 : k < Gm0.length := (List.getElem?_eq_some_iff.1 h8).1
       have h10 : Gm'[k]? = some s := by rw [hj, List.getElem?_append_left hk0]; exact h8
       have hp0 : Pre ρ0 ρ' := hp.trans h2
       have h12 := hp0 k r h9
       rcases hmk' k s h10 with rfl | h11 | ⟨t, xs, ys, rfl, h11, htk⟩
       ·trivial
       ·have h13 := h1.ok k s r h11 h12
        -- told with ρ'; it is so with ρ0
        cases s with
        | box t cs =>
         obtain ⟨g, ys, hr, hh, hcs⟩ := h13
         obtain ⟨g', ys', hr', hh', hcs'⟩ := hS.ok k _ r h8 h9
         exact ⟨g, ys, hr, hh, all2_back hp0 hcs' hcs⟩
        | ent d c l =>
         obtain ⟨g, es, hr, hh, q1, q2, hcs⟩ := h13
         obtain ⟨g', es', hr', hh', q1', q2', hcs'⟩ := hS.ok k _ r h8 h9
         exact ⟨g, es, hr, hh, q1, q2, ent_back hp0 hcs' hcs⟩
        | itr j since seen last =>
         obtain ⟨g, m, hr, hh, q1⟩ := h13
         obtain ⟨g', m', hr', hh', q1'⟩ := hS.ok k _ r h8 h9
         have q2 := hp0 _ _ hh'
         rw [hh] at q2
         injection q2 with q2; injection q2 with q2; injection q2 with q2; subst q2
         exact ⟨g, m, hr, hh', q1⟩
        | _ => exact h13
       ·obtain ⟨g, hr, hh⟩ := h1.ok k _ r h11 h12
        exact ⟨g, _, hr, hh, htk⟩
      exact ⟨hS', ihr false f _ hokr F' H' G' Gm' h5 ρ' (a.put o.dst v) w' h1 (hp.trans h2) (hpe.trans h2.toE) (hle.trans h4) hf' (hde.put h70 _) (by rw [put_size]; exact hsz) hS' hpad' hk2 hmk'⟩
     ·rintro ch w' ⟨ρ', H', G', h1, h2, h4, h5⟩
      exact ⟨hde, ρ', H', G', h1, hpe.trans h2.toE, hle.trans h4, h5⟩
    | false =>
     simp only [Bool.false_eq_true, if_false]
     obtain ⟨F', hd, h70, h7⟩ := putX_ok hd
     exact ⟨hS, ihr false f _ hokr F' H G Gm hd ρ _ w hs hp hpe hle (h7 ρ a undef hsz hf rfl) (hde.put h70 _) (by rw [put_size]; exact hsz) hS hpad hlen hmk⟩
   cases b with
   | false =>
    simp only [okD, Bool.and_eq_true] at hok
    obtain ⟨⟨h1, h2⟩, h3⟩ := hok
    have h1 := eqL_eq h1
    refine wpAnyH_all h1 (by simp) fun j hj => ?_
    rcases List.mem_cons.1 hj with rfl | hj
    ·exact one h2
    ·exact iho true (f + 1) listed h3 F H G Gm hd.2 ρ a w hs hp hpe hle hf hde hsz hS hpad hlen hmk f rfl j hj
   | true =>
    simp only [okD, Bool.and_eq_true] at hok
    obtain ⟨h2, h3⟩ := hok
    intro f' hf' j hj
    injection hf' with hf'; subst hf'
    rcases List.mem_cons.1 hj with rfl | hj
    ·exact one h2
    ·exact iho true (f + 1) listed h3 F H G Gm hd.2 ρ a w hs hp hpe hle hf hde hsz hS hpad hlen hmk f rfl j hj
def maskX : List Nat → List SB → List SB
 | [], G => G
 | k :: r, G => maskX r (G.set k .dead)
theorem maskX_ok : ∀ {ks : List Nat} {G : List SB}, (maskX ks G).length = G.length ∧ ∀ (k : Nat) (s : SB), (maskX ks G)[k]? = some s → s = .dead ∨ G[k]? = some s
 | [], G => ⟨rfl, fun k s h => .inr h⟩
 | k :: r, G => by
  obtain ⟨h1, h2⟩ := maskX_ok (ks := r) (G := G.set k .dead)
  refine ⟨by simp [maskX, h1], fun j s h => ?_⟩
  rcases h2 j s h with h | h
  ·exact .inl h
  ·by_cases hkj : k = j
   ·subst hkj
    rcases Nat.lt_or_ge k G.length with hlt | hge
    ·rw [List.getElem?_set_self hlt] at h; injection h with h; exact .inl h.symm
    ·rw [List.getElem?_eq_none (by simpa using hge)] at h; cases h
   ·rw [List.getElem?_set_ne hkj] at h; exact .inr h
def dpOk (ops : Array Oper) (d : DP) : Bool := Region.noSelect ops && okD ops false d ops.size (Array.replicate ops.size false)
theorem W.drawH {T : Tab} (hT : TabOk P T) (hm : P.follows .mixedOrders = true) {id : Nat} {ops : Array Oper} {K : KT} {F : Fr} {H : Hp} {G : List SB} (d : DP) (hd : dpOk ops d = true) (Gm : List SB) (hl : Gm.length = G.length) (hk : ∀ (k : Nat) (s : SB), Gm[k]? = some s → Tells s G[k]?)
  (h : drX P T n D.ps ops.toList H (fun ch H' G' => K (.panic ch) [] H' G') (fun F' H' G' => K .normal F' H' G') d F H G Gm) : W P n e D (.region id ops true) K F H G := by
 intro w0 M hgd H0 ρ a w hs hf hde hsz
 simp only [dpOk, Bool.and_eq_true] at hd
 have hsd := hs.drew (w.drawn + 1)
 have hHeld : Held H ρ Gm { w with drawn := w.drawn + 1 } := ⟨hsd.hin, fun k s r h1 h2 => by
  rcases hk k s h1 with rfl | h3 | ⟨t, xs, ys, rfl, h3, htk⟩
  ·trivial
  ·exact hsd.ok k s r h3 h2
  ·obtain ⟨g, e1, e2⟩ := hsd.ok k _ r h3 h2
   exact ⟨g, _, e1, e2, htk⟩⟩
 exact wp_region_held (S := Held H ρ Gm) hm (drX_ok hT hd.1 (by rw [hl]; exact hs.len) hgd (Hp.Le.refl H) d false ops.size _ hd.2 F H G Gm h ρ a _ hsd (.refl _) (.refl _ _) (.refl _) hf hde hsz hHeld ⟨0, by simp⟩ hl hk)
theorem W.draw {T : Tab} (hT : TabOk P T) (hm : P.follows .mixedOrders = true) {id : Nat} {ops : Array Oper} {K : KT} {F : Fr} {H : Hp} {G : List SB} (d : DP) (hd : dpOk ops d = true) (mask : List Nat)
  (h : drX P T n D.ps ops.toList H (fun ch H' G' => K (.panic ch) [] H' G') (fun F' H' G' => K .normal F' H' G') d F H G (maskX mask G)) : W P n e D (.region id ops true) K F H G :=
 W.drawH hT hm d hd (maskX mask G) (maskX_ok (ks := mask) (G := G)).1 (fun k s hk => ((maskX_ok (ks := mask) (G := G)).2 k s hk).imp (fun h => h) .inl) h
theorem WS.drawH {T : Tab} (hT : TabOk P T) (hm : P.follows .mixedOrders = true) {id : Nat} {ops : Array Oper} {K : KT} {F : Fr} {H : Hp} {G : List SB} (d : DP) (hd : dpOk ops d = true) (Gm : List SB) (hk : keepE Gm G) (hl : Gm.length = G.length)
  (h : drX P T n D.ps ops.toList H (fun ch H' G' => K (.panic ch) [] H' G') (fun F' H' G' => K .normal F' H' G') d F H G Gm) : WS P n e D (.region id ops true) K F H G := ⟨W.drawH hT hm d hd Gm hl (keepE_ok hk).2 h⟩
theorem WS.draw {T : Tab} (hT : TabOk P T) (hm : P.follows .mixedOrders = true) {id : Nat} {ops : Array Oper} {K : KT} {F : Fr} {H : Hp} {G : List SB} (d : DP) (hd : dpOk ops d = true) (mask : List Nat)
  (h : drX P T n D.ps ops.toList H (fun ch H' G' => K (.panic ch) [] H' G') (fun F' H' G' => K .normal F' H' G') d F H G (maskX mask G)) : WS P n e D (.region id ops true) K F H G := ⟨W.draw hT hm d hd mask h⟩
end
end Go.Kx
namespace Go.Kx
open Go.RowKit

def idX : List Nat → Nat → (Nat → Prop) → Prop
 | [], _, K => K 0
 | k :: _, 0, K => K k
 | _ :: r, i + 1, K => idX r i K
theorem idX_ok {σ : List Nat} {i : Nat} {K : Nat → Prop} (h : idX σ i K) : K (σ.getD i 0) := by
 induction σ generalizing i with
 | nil => exact h
 | cons k r ih =>
  cases i with
  | zero => exact h
  | succ i => have := ih h; simpa using this
def renCaps (σ : List Nat) : List (Nat × Nat) → (List (Nat × Nat) → Prop) → Prop
 | [], K => K []
 | (k, o) :: r, K => idX σ k fun k' => renCaps σ r fun l => K ((k', o) :: l)
theorem renCaps_ok {σ : List Nat} {l : List (Nat × Nat)} {K : List (Nat × Nat) → Prop} (h : renCaps σ l K) : K (l.map fun p => (σ.getD p.1 0, p.2)) := by
 induction l generalizing K with
 | nil => exact h
 | cons p r ih => exact ih (idX_ok h)
def renC (σ : List Nat) : SC → (SC → Prop) → Prop
 | .ptr k off, K => idX σ k fun k' => K (.ptr k' off)
 | .self k, K => idX σ k fun k' => K (.self k')
 | .fn f n caps, K => renCaps σ caps fun l => K (.fn f n l)
 | .val x, K => K (.val x)
 | .pp A off, K => K (.pp A off)
 | .cut k sz lo m, K => idX σ k fun k' => K (.cut k' sz lo m)
 | .any, K => K .any
theorem renC_ok {σ : List Nat} {c : SC} {K : SC → Prop} (h : renC σ c K) : K (c.ren σ) := by
 cases c with
 | ptr k off => exact idX_ok (K := fun k' => K (.ptr k' off)) h
 | self k => exact idX_ok (K := fun k' => K (.self k')) h
 | fn f n caps => exact renCaps_ok (K := fun l => K (.fn f n l)) h
 | val x => exact h
 | pp A off => exact h
 | cut k sz lo m => exact idX_ok (K := fun k' => K (.cut k' sz lo m)) h
 | any => exact h
def renL (σ : List Nat) : List SC → (List SC → Prop) → Prop
 | [], K => K []
 | c :: r, K => renC σ c fun c' => renL σ r fun l => K (c' :: l)
theorem renL_ok {σ : List Nat} {l : List SC} {K : List SC → Prop} (h : renL σ l K) : K (l.map (SC.ren σ)) := by
 induction l generalizing K with
 | nil => exact h
 | cons p r ih => exact ih (renC_ok h)
def renG (σ : List Nat) : SG → (SG → Prop) → Prop
 | .ce c, K => renC σ c fun c' => K (.ce c')
 | .ag l, K => renL σ l fun l' => K (.ag l')
theorem renG_ok {σ : List Nat} {c : SG} {K : SG → Prop} (h : renG σ c K) : K (c.ren σ) := by
 cases c with
 | ce x => exact renC_ok h
 | ag l => exact renL_ok h
def renGL (σ : List Nat) : List SG → (List SG → Prop) → Prop
 | [], K => K []
 | c :: r, K => renG σ c fun c' => renGL σ r fun l => K (c' :: l)
theorem renGL_ok {σ : List Nat} {l : List SG} {K : List SG → Prop} (h : renGL σ l K) : K (l.map (SG.ren σ)) := by
 induction l generalizing K with
 | nil => exact h
 | cons p r ih => exact ih (renG_ok h)
def renV (σ : List Nat) : SV → (SV → Prop) → Prop
 | .si c, K => renG σ c fun c' => K (.si c')
 | .tu l, K => renGL σ l fun l' => K (.tu l')
theorem renV_ok {σ : List Nat} {c : SV} {K : SV → Prop} (h : renV σ c K) : K (c.ren σ) := by
 cases c with
 | si x => exact renG_ok h
 | tu l => exact renGL_ok h
def renB (σ : List Nat) : SB → (SB → Prop) → Prop
 | .box t cs, K => renL σ cs fun l => K (.box t l)
 | .ent .., _ => False
 | .itr .., _ => False
 | s, K => K s
theorem renB_ok {σ : List Nat} {s : SB} {K : SB → Prop} (h : renB σ s K) : K (s.ren σ) := by
 cases s with
 | box t cs => exact renL_ok h
 | ent _ _ _ => exact h.elim
 | itr _ _ _ _ => exact h.elim
 | _ => exact h
def renE (σ : List Nat) : SE → (SE → Prop) → Prop
 | .ret v, K => renV σ v fun v' => K (.ret v')
 | .pan ch, K => K (.pan ch)
theorem renE_ok {σ : List Nat} {s : SE} {K : SE → Prop} (h : renE σ s K) : K (s.ren σ) := by
 cases s with
 | ret v => exact renV_ok h
 | pan ch => exact h
def extX : List Nat → List SB → Nat → (List Nat → Prop) → Prop
 | k :: r, _ :: L, n, K => extX r L n fun l => K (k :: l)
 | [], _ :: L, n, K => extX [] L (n + 1) fun l => K (n :: l)
 | σ, [], _, K => K σ
theorem extX_nil {L : List SB} {n : Nat} {K : List Nat → Prop} (h : extX [] L n K) : K ((List.range L.length).map (n + ·)) := by
 induction L generalizing n K with
 | nil => exact h
 | cons s L ih =>
  have := ih h
  rw [List.length_cons, List.range_succ_eq_map, List.map_cons, List.map_map]
  have e : (List.range L.length).map ((fun x => n + x) ∘ Nat.succ) = (List.range L.length).map (n + 1 + ·) := by
   apply List.map_congr_left; intro x _; simp; omega
  rw [e]; exact this
theorem extX_ok {σ : List Nat} {L : List SB} {n : Nat} {K : List Nat → Prop} (h : extX σ L n K) : K (σ ++ newIds n σ.length L.length) := by
 induction σ generalizing L K with
 | nil => simpa [newIds] using extX_nil h
 | cons k r ih =>
  cases L with
  | nil => simpa [newIds, extX] using h
  | cons s L =>
   have := ih h
   simpa [newIds, Nat.add_sub_add_right] using this
def mergeX (σ' : List Nat) : List SB → List Nat → List SB → (List SB → Prop) → Prop
 | G, _, [], K => K G
 | G, k :: σ, s :: L, K => renB σ' s fun s' => setG G k s' fun G' => mergeX σ' G' σ L K
 | G, [], s :: L, K => renB σ' s fun s' => appG G s' fun G' _ => mergeX σ' G' [] L K
theorem mergeX_ok {σ' : List Nat} : ∀ {L : List SB} {σ : List Nat} {G : List SB} {K : List SB → Prop}, mergeX σ' G σ L K → K (mergeG G σ (L.map (SB.ren σ')))
 | [], σ, G, K, h => by cases σ <;> simpa [mergeX, mergeG] using h
 | s :: L, [], G, K, h => by
  have h1 := appG_ok (renB_ok h)
  have h2 := mergeX_ok (L := L) (σ := []) h1
  exact h2
 | s :: L, k :: σ, G, K, h => by
  have h1 := (setG_ok (renB_ok h)).2
  have h2 := mergeX_ok (L := L) (σ := σ) h1
  exact h2
def useK (σ : List Nat) (G : List SB) (e : SE) (G0' : List SB) (K : SE → List SB → Prop) : Prop :=
 appG G .dead fun _ n => extX σ G0' n fun σ' => renE σ' e fun e' => mergeX σ' G σ G0' fun G' => K e' G'
theorem useK_ok {σ : List Nat} {G : List SB} {e : SE} {G0' : List SB} {K : SE → List SB → Prop} (h : useK σ G e G0' K) :
  K (e.ren (σ ++ newIds G.length σ.length G0'.length)) (mergeG G σ (G0'.map (SB.ren (σ ++ newIds G.length σ.length G0'.length)))) :=
 mergeX_ok (renE_ok (extX_ok (appG_ok h)))
def useG (σ : List Nat) (G : List SB) : List Nat → List SB → Prop
 | [], [] => True
 | k :: ks, s :: r => getG G k (fun s' => s' = s.ren σ) ∧ useG σ G ks r
 | _, _ => False
theorem useG_ok {σ : List Nat} {G : List SB} : ∀ {ks : List Nat} {L : List SB}, useG σ G ks L → ks.length = L.length ∧ ∀ (i : Nat) (s : SB), L[i]? = some s → ∃ k, ks[i]? = some k ∧ G[k]? = some (s.ren σ)
 | [], [], _ => ⟨rfl, fun i s h => by simp at h⟩
 | [], _ :: _, h => h.elim
 | _ :: _, [], h => h.elim
 | k :: ks, s :: r, h => by
  obtain ⟨h1, h2⟩ := h
  obtain ⟨s', h3, h4⟩ := getG_ok h1
  obtain ⟨h5, h6⟩ := useG_ok h2
  refine ⟨by simp [h5], fun i x hi => ?_⟩
  cases i with
  | zero => simp at hi; subst hi; exact ⟨k, rfl, by rw [h3, h4]⟩
  | succ i => simpa using h6 i x (by simpa using hi)
def useOk (σ : List Nat) (svs0 : List SV) (G0 : List SB) : Bool := nodupB σ && G0.all (SB.wf σ.length) && svs0.all (SV.wf σ.length)
section
variable {P : Program}
theorem CallS.use {f : FuncId} {svs0 svs : List SV} {H : Hp} {G0 G : List SB} {K0 K : SE → Hp → List SB → Prop} (h : CallO P f svs0 H G0 K0) (σ : List Nat) (hb : useOk σ svs0 G0 = true) (hv : svs0.map (SV.ren σ) = svs) (hG : useG σ G σ G0)
  (hK : ∀ e H' G0', H.Le H' → K0 e H' G0' → useK σ G e G0' fun e' G' => K e' H' G') : CallS P f svs H G K := by
 subst hv
 simp only [useOk, Bool.and_eq_true] at hb
 obtain ⟨⟨h1, h2⟩, h3⟩ := hb
 obtain ⟨h4, h5⟩ := useG_ok hG
 refine ⟨h.frame σ h4 h5 (nodupB_ok h1) h2 h3 fun e H' G0' hle hk => ?_⟩
 have := useK_ok (hK e H' G0' hle hk)
 rw [← h4]; exact this
theorem CallO.sub {f : FuncId} {svs : List SV} {H : Hp} {G : List SB} {K0 K : SE → Hp → List SB → Prop} (h : CallO P f svs H G K0)
  (hK : ∀ e H' G', H.Le H' → K0 e H' G' → match e with
   | .ret v => ∃ v2 G2 σ, subOk G.length σ [(0, v2)] G2 = true ∧ subG σ G' σ G2 ∧ v = v2.ren σ ∧ K (.ret v2) H' G2
   | .pan ch => K (.pan ch) H' G') : CallO P f svs H G K := by
 intro w0 M hgd H0 ρ w vs hs hv
 refine (h w0 M hgd H0 ρ w vs hs hv).mono fun e w' he => ?_
 cases e with
 | returned v =>
  obtain ⟨sv, ρ', H', G', h1, h2, h3, h4, h5⟩ := he
  obtain ⟨v2, G2, σ, h6, h7, h8, h9⟩ := hK _ _ _ h4 h5
  obtain ⟨ρ2, a1, a2, a3⟩ := St.sub (e := G.length) (F := [(0, sv)]) (F' := [(0, v2)]) (tmps := #[v]) h1 (fun i s hm => by
   rcases List.mem_singleton.1 hm with hm
   injection hm with e1 e2; subst e1 e2
   exact ⟨v, rfl, h3⟩) h6 h7 ⟨by simpa [getX] using h8, trivial⟩
  obtain ⟨v', e1, e2⟩ := a3 0 v2 List.mem_cons_self
  simp at e1; subst e1
  refine ⟨v2, ρ2, H', G2, a1, fun k r hk => a2 k r (by rw [← hs.len]; exact (List.getElem?_eq_some_iff.1 hk).1) (h2 k r hk), e2, h4, h9⟩
 | panicked ch => obtain ⟨ρ', H', G', h1, h2, h4, h5⟩ := he; exact ⟨ρ', H', G', h1, h2, h4, hK _ _ _ h4 h5⟩
 | outgrown => exact he
end
theorem wrap64 {x : Int} (h : -9223372036854775808 ≤ x) (h' : x < 9223372036854775808) : IntKind.i64.wrap x = x := by
 simp only [IntKind.wrap, IntKind.bits, IntKind.signed]
 simp
 omega
end Go.Kx
